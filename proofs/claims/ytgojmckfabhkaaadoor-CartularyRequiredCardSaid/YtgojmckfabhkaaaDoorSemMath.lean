/- THE PLAIN LAW OF VERSIONS: words between full stops, numbers, the two ways to take a version apart. No program in sight. No conditions. -/
import Derived.Test.YtgojmckfabhkaaaDoorRows
import Derived.WalkKit
import Derived.Lib.Hide
import Derived.Lib.Bytealg
import Derived.Lib.SlTrimSet
namespace Go.Proofs.YtgojmckfabhkaaaDoor.Sem
open Go
set_option linter.unusedVariables false

/-- The text of these bytes. -/
def tx (l : List UInt8) : ByteArray := ⟨l.toArray⟩
theorem tx_size (l : List UInt8) : (tx l).size = l.length := by unfold tx; simp [ByteArray.size]
theorem tx_list (l : List UInt8) : (tx l).data.toList = l := by unfold tx; simp
theorem tx_of (s : ByteArray) : s = tx s.data.toList := by unfold tx; apply ByteArray.ext; simp
theorem tx_nil : tx [] = ⟨#[]⟩ := rfl
theorem tx_inj {a b : List UInt8} (h : tx a = tx b) : a = b := by rw [← tx_list a, h, tx_list]
theorem tx_append (a b : List UInt8) : tx a ++ tx b = tx (a ++ b) := by unfold tx; apply ByteArray.ext; simp
theorem tx_at (l : List UInt8) (i : Nat) (h : i < (tx l).size) : (tx l)[i] = l[i]'(by rw [tx_size] at h; exact h) := by
  show l.toArray[i] = _
  exact List.getElem_toArray _
theorem tx_extract (l : List UInt8) (a b : Nat) : (tx l).extract a b = tx ((l.take b).drop a) := by
  apply ByteArray.ext
  rw [ByteArray.data_extract]
  show l.toArray.extract a b = ((l.take b).drop a).toArray
  rw [List.extract_toArray, List.extract_eq_take_drop, List.drop_take]

theorem dw_nil (p : UInt8 → Bool) : ∀ l : List UInt8, l.dropWhile p = [] ↔ ∀ x ∈ l, p x = true
  | [] => by simp
  | x :: l => by
    cases hx : p x with
    | true => rw [List.dropWhile_cons_of_pos hx, dw_nil p l]; simp [hx]
    | false => rw [List.dropWhile_cons_of_neg (by simp [hx])]; simp [hx]
theorem dw_head (p : UInt8 → Bool) : ∀ (l : List UInt8) (y : UInt8) (ys : List UInt8), l.dropWhile p = y :: ys → p y = false
  | [], y, ys, h => by simp at h
  | x :: l, y, ys, h => by
    cases hx : p x with
    | true => rw [List.dropWhile_cons_of_pos hx] at h; exact dw_head p l y ys h
    | false => rw [List.dropWhile_cons_of_neg (by simp [hx])] at h; obtain ⟨rfl, _⟩ := List.cons.inj h; exact hx

def isDig (c : UInt8) : Bool := decide (48 ≤ c.toNat) && decide (c.toNat ≤ 57)
def okc (c : UInt8) : Bool := isDig c || (decide (97 ≤ c.toNat) && decide (c.toNat ≤ 122)) || (decide (65 ≤ c.toNat) && decide (c.toNat ≤ 90)) || decide (c.toNat = 45)
def digitsB (l : List UInt8) : Bool := !l.isEmpty && l.all isDig
/-- A number: digits, without a nought ahead. -/
def numberB (l : List UInt8) : Bool := digitsB l && (decide (l.length = 1) || decide (l.head? ≠ some 48))
/-- The words between the bytes c. -/
def splitD (c : UInt8) : List UInt8 → List (List UInt8)
  | [] => [[]]
  | x :: r => if x = c then [] :: splitD c r else
    match splitD c r with
    | [] => [[x]]
    | w :: ws => (x :: w) :: ws
def wordOk (pre : Bool) (w : List UInt8) : Bool := !w.isEmpty && !(pre && digitsB w && decide (1 < w.length) && decide (w.head? = some 48)) && w.all okc
def wordsB (pre : Bool) (l : List UInt8) : Bool := (splitD 46 l).all (wordOk pre)
/-- Ahead of and behind the first c. -/
def cutA (c : UInt8) : List UInt8 → List UInt8
  | [] => []
  | x :: l => if x = c then [] else x :: cutA c l
def cutZ (c : UInt8) : List UInt8 → List UInt8
  | [] => []
  | x :: l => if x = c then l else cutZ c l

theorem splitD_ne (c : UInt8) (l : List UInt8) : splitD c l ≠ [] := by
  cases l with
  | nil => simp [splitD]
  | cons x r =>
    rw [splitD]
    split
    · simp
    · split <;> simp
theorem splitD_cons_eq (c : UInt8) (r : List UInt8) : splitD c (c :: r) = [] :: splitD c r := by rw [splitD, if_pos rfl]
theorem splitD_cons_ne (c x : UInt8) (r : List UInt8) (h : x ≠ c) : ∃ w ws, splitD c r = w :: ws ∧ splitD c (x :: r) = (x :: w) :: ws := by
  cases hs : splitD c r with
  | nil => exact absurd hs (splitD_ne c r)
  | cons w ws => exact ⟨w, ws, rfl, by rw [splitD, if_neg h, hs]⟩
/-- The words, one of which ends at the first c. -/
theorem splitD_cut (c : UInt8) : ∀ (a b : List UInt8), c ∉ a → splitD c (a ++ c :: b) = a :: splitD c b
  | [], b, _ => splitD_cons_eq c b
  | x :: a, b, h => by
    have hx : x ≠ c := fun e => h (by rw [e]; simp)
    have ih := splitD_cut c a b (fun hm => h (List.mem_cons_of_mem _ hm))
    obtain ⟨w, ws, e1, e2⟩ := splitD_cons_ne c x (a ++ c :: b) hx
    rw [ih] at e1
    obtain ⟨rfl, rfl⟩ := List.cons.inj e1
    exact e2
theorem splitD_one (c : UInt8) : ∀ (a : List UInt8), c ∉ a → splitD c a = [a]
  | [], _ => rfl
  | x :: a, h => by
    have hx : x ≠ c := fun e => h (by rw [e]; simp)
    have ih := splitD_one c a (fun hm => h (List.mem_cons_of_mem _ hm))
    obtain ⟨w, ws, e1, e2⟩ := splitD_cons_ne c x a hx
    rw [ih] at e1
    obtain ⟨rfl, rfl⟩ := List.cons.inj e1
    exact e2
/-- One byte more at the end. -/
theorem splitD_snoc_eq (c : UInt8) : ∀ (l : List UInt8), splitD c (l ++ [c]) = splitD c l ++ [[]]
  | [] => by simp [splitD]
  | x :: l => by
    have ih := splitD_snoc_eq c l
    by_cases hx : x = c
    · subst hx
      rw [List.cons_append, splitD_cons_eq, ih, splitD_cons_eq]
      rfl
    · obtain ⟨w, ws, e1, e2⟩ := splitD_cons_ne c x l hx
      obtain ⟨w', ws', e3, e4⟩ := splitD_cons_ne c x (l ++ [c]) hx
      rw [ih, e1] at e3
      obtain ⟨rfl, rfl⟩ := List.cons.inj e3
      rw [List.cons_append, e4, e2]
      rfl
theorem splitD_snoc_ne (c x : UInt8) (h : x ≠ c) : ∀ (l : List UInt8), ∃ a w, splitD c l = a ++ [w] ∧ splitD c (l ++ [x]) = a ++ [w ++ [x]]
  | [] => ⟨[], [], rfl, by obtain ⟨w, ws, e1, e2⟩ := splitD_cons_ne c x [] h; obtain ⟨rfl, rfl⟩ := List.cons.inj (show [[]] = w :: ws from e1); exact e2⟩
  | y :: l => by
    obtain ⟨a, w, e1, e2⟩ := splitD_snoc_ne c x h l
    by_cases hy : y = c
    · subst hy
      exact ⟨[] :: a, w, by rw [splitD_cons_eq, e1]; rfl, by rw [List.cons_append, splitD_cons_eq, e2]; rfl⟩
    · obtain ⟨w1, ws1, f1, f2⟩ := splitD_cons_ne c y l hy
      obtain ⟨w2, ws2, f3, f4⟩ := splitD_cons_ne c y (l ++ [x]) hy
      rw [e1] at f1
      rw [e2] at f3
      cases a with
      | nil =>
        obtain ⟨rfl, rfl⟩ := List.cons.inj f1
        obtain ⟨rfl, rfl⟩ := List.cons.inj f3
        exact ⟨[], y :: w, f2, f4⟩
      | cons a0 a =>
        obtain ⟨rfl, rfl⟩ := List.cons.inj f1
        obtain ⟨rfl, rfl⟩ := List.cons.inj f3
        exact ⟨(y :: a0) :: a, w, f2, f4⟩
theorem splitD_len (c : UInt8) (l : List UInt8) : (splitD c l).length ≤ l.length + 1 := by
  induction l with
  | nil => simp [splitD]
  | cons x r ih =>
    by_cases hx : x = c
    · subst hx; rw [splitD_cons_eq]; simp; omega
    · obtain ⟨w, ws, e1, e2⟩ := splitD_cons_ne c x r hx
      rw [e2]; rw [e1] at ih; simp at ih ⊢; omega
theorem splitD_word (c : UInt8) (l : List UInt8) : ∀ w ∈ splitD c l, w.length ≤ l.length := by
  induction l with
  | nil => intro w hw; simp [splitD] at hw; subst hw; simp
  | cons x r ih =>
    intro w hw
    by_cases hx : x = c
    · subst hx
      rw [splitD_cons_eq] at hw
      rcases List.mem_cons.1 hw with rfl | hw
      · simp
      · have := ih w hw; simp; omega
    · obtain ⟨v, vs, e1, e2⟩ := splitD_cons_ne c x r hx
      rw [e2] at hw
      rw [e1] at ih
      rcases List.mem_cons.1 hw with rfl | hw
      · have := ih v (by simp); simp; omega
      · have := ih w (by simp [hw]); simp; omega

/-! ### What Digits, Trim say -/
theorem digits_trim (l : List UInt8) (hl : l ≠ []) : (Lib.trimS l [48, 49, 50, 51, 52, 53, 54, 55, 56, 57] = []) ↔ l.all isDig = true := by
  have hp : ∀ c : UInt8, ([48, 49, 50, 51, 52, 53, 54, 55, 56, 57] : List UInt8).contains c = isDig c := by
    intro c
    have hc := c.toNat_lt
    have key : ∀ n : Nat, n < 256 → ([48, 49, 50, 51, 52, 53, 54, 55, 56, 57] : List UInt8).contains (UInt8.ofNat n) = (decide (48 ≤ (UInt8.ofNat n).toNat) && decide ((UInt8.ofNat n).toNat ≤ 57)) := by decide +kernel
    have := key c.toNat hc
    rw [UInt8.ofNat_toNat] at this
    exact this
  have hf : (fun c => ([48, 49, 50, 51, 52, 53, 54, 55, 56, 57] : List UInt8).contains c) = isDig := funext hp
  unfold Lib.trimS Lib.trimLeftS Lib.trimRightS
  rw [hf]
  constructor
  · intro h
    rw [List.all_eq_true]
    intro x hx
    rw [dw_nil] at h
    have h2 : ∀ y ∈ l.reverse.dropWhile isDig, isDig y = true := fun y hy => h y (by simpa using hy)
    have h3 : l.reverse.dropWhile isDig = [] := by
      cases hd : l.reverse.dropWhile isDig with
      | nil => rfl
      | cons y ys =>
        have h4 := dw_head isDig _ _ _ hd
        have h5 := h2 y (by rw [hd]; simp)
        rw [h4] at h5
        cases h5
    rw [dw_nil] at h3
    exact h3 x (by simpa using hx)
  · intro h
    rw [List.all_eq_true] at h
    have h3 : l.reverse.dropWhile isDig = [] := by
      rw [dw_nil]
      exact fun x hx => h x (by simpa using hx)
    rw [h3]
    rfl

/-! ### The first c -/
theorem mem_cut (c : UInt8) : ∀ (l : List UInt8), c ∈ l → ∃ a b, l = a ++ c :: b ∧ c ∉ a
  | [], h => by cases h
  | x :: l, h => by
    by_cases hx : x = c
    · exact ⟨[], l, by rw [hx]; rfl, by simp⟩
    · obtain ⟨a, b, rfl, hn⟩ := mem_cut c l (by rcases List.mem_cons.1 h with e | h; exact absurd e.symm hx; exact h)
      exact ⟨x :: a, b, rfl, fun hm => by rcases List.mem_cons.1 hm with e | hm; exact hx e.symm; exact hn hm⟩
theorem cutA_at (c : UInt8) : ∀ (a b : List UInt8), c ∉ a → cutA c (a ++ c :: b) = a ∧ cutZ c (a ++ c :: b) = b
  | [], b, _ => by simp [cutA, cutZ]
  | x :: a, b, h => by
    have hx : x ≠ c := fun e => h (by rw [e]; simp)
    obtain ⟨e1, e2⟩ := cutA_at c a b (fun hm => h (List.mem_cons_of_mem _ hm))
    rw [List.cons_append, cutA, cutZ, if_neg hx, if_neg hx, e1]
    exact ⟨rfl, e2⟩
theorem cutA_no (c : UInt8) : ∀ (a : List UInt8), c ∉ a → cutA c a = a ∧ cutZ c a = []
  | [], _ => by simp [cutA, cutZ]
  | x :: a, h => by
    have hx : x ≠ c := fun e => h (by rw [e]; simp)
    obtain ⟨e1, e2⟩ := cutA_no c a (fun hm => h (List.mem_cons_of_mem _ hm))
    rw [cutA, cutZ, if_neg hx, if_neg hx, e1]
    exact ⟨rfl, e2⟩
theorem idx_at (c : UInt8) : ∀ (a b : List UInt8), c ∉ a → Lib.indexByte (a ++ c :: b) c = (a.length : Int)
  | [], b, _ => by simp [Lib.indexByte]
  | x :: a, b, h => by
    have hx : (x == c) = false := by simpa using fun e => h (by rw [e]; simp)
    have ih := idx_at c a b (fun hm => h (List.mem_cons_of_mem _ hm))
    rw [List.cons_append, Lib.indexByte, hx, ih]
    have : ((a.length : Int) == -1) = false := by
      rw [beq_eq_false_iff_ne]; omega
    rw [this]
    simp
theorem idx_no (c : UInt8) : ∀ (a : List UInt8), c ∉ a → Lib.indexByte a c = -1
  | [], _ => rfl
  | x :: a, h => by
    have hx : (x == c) = false := by simpa using fun e => h (by rw [e]; simp)
    have ih := idx_no c a (fun hm => h (List.mem_cons_of_mem _ hm))
    rw [Lib.indexByte, hx, ih]
    simp

/-! ### A number from the front -/
def numN (l : List UInt8) : Nat := (l.takeWhile isDig).length
def numGood (l : List UInt8) : Bool := !(decide (numN l = 0) || (decide (1 < numN l) && decide (l.head? = some 48)))
theorem numN_le (l : List UInt8) : numN l ≤ l.length := by
  unfold numN
  exact (List.takeWhile_prefix _).length_le
theorem numN_of (l : List UInt8) : ∀ (n : Nat), n ≤ l.length → (∀ j (h : j < l.length), j < n → isDig l[j] = true) → (∀ h : n < l.length, isDig l[n] = false) → numN l = n := by
  induction l with
  | nil => intro n hn _ _; simp at hn; subst hn; rfl
  | cons x l ih =>
    intro n hn h1 h2
    unfold numN at ih ⊢
    cases n with
    | zero =>
      have hx : isDig x = false := h2 (by simp)
      rw [List.takeWhile_cons_of_neg (by simp [hx])]
      rfl
    | succ n =>
      have hx : isDig x = true := h1 0 (by simp) (by omega)
      rw [List.takeWhile_cons_of_pos hx, List.length_cons, ih n (by simpa using hn) (fun j h hj => h1 (j + 1) (by simp; omega) (by omega)) (fun h => h2 (by simp; omega))]
end Go.Proofs.YtgojmckfabhkaaaDoor.Sem
