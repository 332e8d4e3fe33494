/- THE PLAIN LAW OF BITS IN BYTES, AND OF CODES BY THEIR LENGTHS; no program in sight. No conditions. -/
import Derived.Test.YtncdaohjjhcaaaaSumsNumMath
namespace Go.Proofs.Ytncdaohjjhcaaaa
open Go Sums
set_option linter.unusedVariables false

/-! ### Codes by their lengths -/
/-- The symbols below i of length n. -/
def idxTo (L : List Int) (n i : Nat) : List Nat := (List.range i).filter (fun s => decide (L.getD s 0 = (n : Int)))
theorem idxTo_succ (L : List Int) (n i : Nat) : idxTo L n (i + 1) = idxTo L n i ++ (if L.getD i 0 = (n : Int) then [i] else []) := by
  unfold idxTo
  rw [List.range_succ, List.filter_append, List.filter_cons, List.filter_nil]
  by_cases h : L.getD i 0 = (n : Int)
  · rw [if_pos h, if_pos (decide_eq_true h)]
  · rw [if_neg h, if_neg (by rw [decide_eq_false h]; decide)]
def idx (L : List Int) (n : Nat) : List Nat := idxTo L n L.length
def cnt (L : List Int) (n : Nat) : Nat := (idx L n).length
theorem idxTo_le (L : List Int) (n : Nat) : ∀ i, (idxTo L n i).length ≤ i
  | 0 => Nat.le_refl _
  | i + 1 => by
    rw [idxTo_succ, List.length_append]
    have := idxTo_le L n i
    split <;> simp <;> omega
theorem cnt_le (L : List Int) (n : Nat) : cnt L n ≤ L.length := idxTo_le L n _
theorem mem_idx {L : List Int} {n s : Nat} : s ∈ idx L n ↔ s < L.length ∧ L.getD s 0 = (n : Int) := by
  unfold idx idxTo
  rw [List.mem_filter, List.mem_range, decide_eq_true_eq]
def srt (L : List Int) : Nat → List Nat
  | 0 => []
  | n + 1 => srt L n ++ idx L (n + 1)
def off (L : List Int) (n : Nat) : Nat := (srt L n).length
theorem off_succ (L : List Int) (n : Nat) : off L (n + 1) = off L n + cnt L (n + 1) := by unfold off cnt; rw [srt, List.length_append]
theorem off_mono (L : List Int) {a b : Nat} (h : a ≤ b) : off L a ≤ off L b := by
  induction h with
  | refl => exact Nat.le_refl _
  | step _ ih => rw [off_succ]; omega
theorem off_le (L : List Int) : ∀ n, off L n ≤ n * L.length
  | 0 => Nat.zero_le _
  | n + 1 => by
    rw [off_succ, Nat.succ_mul]
    have := off_le L n
    have := cnt_le L (n + 1)
    omega
theorem off_zero (L : List Int) : off L 0 = 0 := rfl
theorem mem_srt {L : List Int} {s : Nat} : ∀ {n : Nat}, s ∈ srt L n → ∃ j, 1 ≤ j ∧ j ≤ n ∧ s ∈ idx L j
  | 0, h => by cases h
  | n + 1, h => by
    rw [srt, List.mem_append] at h
    rcases h with h | h
    · obtain ⟨j, h1, h2, h3⟩ := mem_srt h
      exact ⟨j, h1, by omega, h3⟩
    · exact ⟨n + 1, by omega, by omega, h⟩
/-- The entries of one length lie together. -/
theorem srt_at (L : List Int) (m r : Nat) (hr : r < cnt L (m + 1)) : ∀ n, m + 1 ≤ n → (srt L n)[off L m + r]? = (idx L (m + 1))[r]?
  | 0, h => by omega
  | n + 1, h => by
    rw [srt]
    by_cases hn : m = n
    · subst hn
      show (srt L m ++ idx L (m + 1))[(srt L m).length + r]? = _
      rw [List.getElem?_append_right (by omega), Nat.add_sub_cancel_left]
    · have h2 : m + 1 ≤ n := by omega
      have := off_mono L h2
      rw [off_succ] at this
      rw [List.getElem?_append_left (by show off L m + r < off L n; omega)]
      exact srt_at L m r hr n h2
/-- How many codes of a length there are that count. -/
def cc (L : List Int) (n : Nat) : Nat := if n = 0 then 0 else cnt L n
def fst' (L : List Int) : Nat → Nat
  | 0 => 0
  | n + 1 => 2 * (fst' L n + cc L n)
def lft (L : List Int) : Nat → Int
  | 0 => 1
  | n + 1 => 2 * lft L n - cnt L (n + 1)
theorem lft_eq (L : List Int) : ∀ n, lft L n = (2 ^ n : Nat) - (fst' L n : Int) - (cc L n : Int)
  | 0 => rfl
  | n + 1 => by
    rw [lft, lft_eq L n, fst']
    unfold cc
    rw [if_neg (Nat.succ_ne_zero n), Nat.pow_succ]
    split <;> omega
theorem lft_le (L : List Int) (n : Nat) (h : n ≤ 15) : lft L n ≤ 32768 := by
  rw [lft_eq]
  have : 2 ^ n ≤ 2 ^ 15 := Nat.pow_le_pow_right (by decide) h
  omega
theorem fst_mono (L : List Int) (n : Nat) : ∀ k, 2 ^ (k + 1) * (fst' L n + cc L n) ≤ fst' L (n + (k + 1))
  | 0 => by
    show 2 ^ 1 * _ ≤ fst' L (n + 1)
    rw [fst']
    omega
  | k + 1 => by
    have h := fst_mono L n k
    show _ ≤ fst' L (n + (k + 1) + 1)
    rw [fst', Nat.pow_succ]
    have e : 2 ^ (k + 1) * 2 * (fst' L n + cc L n) = 2 * (2 ^ (k + 1) * (fst' L n + cc L n)) := by
      rw [Nat.mul_comm (2 ^ (k + 1)) 2, Nat.mul_assoc]
    rw [e]
    omega
/-- All lengths are lengths. -/
def inRange (L : List Int) : Prop := ∀ s, s < L.length → 0 ≤ L.getD s 0 ∧ L.getD s 0 ≤ 15
/-- A set of codes that New takes. -/
structure Good (L : List Int) : Prop where
  len : L.length ≤ 320
  range : inRange L
  kraft : ∀ n, n ≤ 15 → 0 ≤ lft L n
  whole : ¬ (0 < lft L 15 ∧ 0 < off L 15 ∧ ¬ (off L 15 = 1 ∧ cnt L 1 = 1))

/-- Where a symbol stands among those of its length. -/
def rank (L : List Int) (m s : Nat) : Nat := (idx L m).idxOf s
theorem rank_lt {L : List Int} {m s : Nat} (h : s ∈ idx L m) : rank L m s < cnt L m := List.idxOf_lt_length_of_mem h
theorem rank_at {L : List Int} {m s : Nat} (h : s ∈ idx L m) : (idx L m)[rank L m s]? = some s := by
  unfold rank
  rw [List.getElem?_eq_getElem (List.idxOf_lt_length_of_mem h), List.getElem_idxOf]
theorem idx_nodup (L : List Int) (m : Nat) : (idx L m).Nodup := (List.nodup_range).filter _
def lenOf (L : List Int) (s : Nat) : Nat := (L.getD s 0).toNat
def codeOf (L : List Int) (s : Nat) : Nat := fst' L (lenOf L s) + rank L (lenOf L s) s
/-- A symbol that has a code. -/
structure Has (L : List Int) (s : Nat) : Prop where
  lt : s < L.length
  pos : 0 < lenOf L s
  le : lenOf L s ≤ 15
  mem : s ∈ idx L (lenOf L s)
theorem has_of {L : List Int} (h : inRange L) {s : Nat} (hs : s < L.length) (h0 : L.getD s 0 ≠ 0) : Has L s := by
  obtain ⟨h1, h2⟩ := h s hs
  refine ⟨hs, ?_, ?_, ?_⟩
  · unfold lenOf; omega
  · unfold lenOf; omega
  · unfold lenOf
    rw [mem_idx]
    exact ⟨hs, by omega⟩
/-- Where a symbol stands among all. -/
def posOf (L : List Int) (s : Nat) : Nat := off L (lenOf L s - 1) + rank L (lenOf L s) s
theorem Has.at {L : List Int} {s : Nat} (h : Has L s) : (srt L 15)[posOf L s]? = some s := by
  obtain ⟨m, hm⟩ : ∃ m, lenOf L s = m + 1 := ⟨lenOf L s - 1, by have := h.pos; omega⟩
  have h1 := h.mem
  have h2 := h.le
  unfold posOf
  rw [hm] at h1 h2 ⊢
  rw [Nat.add_sub_cancel, srt_at L m _ (rank_lt h1) 15 h2, rank_at h1]
/-- No entry ahead of it is the symbol. -/
theorem srt_other (L : List Int) (s : Nat) (h : Has L s) (n r : Nat) (hr : r < cnt L (n + 1)) (hn : n + 1 ≤ lenOf L s) (hlt : off L n + r < posOf L s) : ∃ x, (srt L 15)[off L n + r]? = some x ∧ x ≠ s := by
  have h1 : (srt L 15)[off L n + r]? = (idx L (n + 1))[r]? := srt_at L n r hr 15 (by have := h.le; omega)
  have hr' : r < (idx L (n + 1)).length := hr
  refine ⟨(idx L (n + 1))[r], by rw [h1, List.getElem?_eq_getElem hr'], fun e => ?_⟩
  have hm : (idx L (n + 1))[r] ∈ idx L (n + 1) := List.getElem_mem _
  rw [e, mem_idx] at hm
  have hm2 := mem_idx.1 h.mem
  have e2 : n + 1 = lenOf L s := by
    have a := hm.2
    have b := hm2.2
    rw [a] at b
    omega
  unfold posOf at hlt
  rw [← e2, Nat.add_sub_cancel] at hlt
  have hlt2 : r < rank L (n + 1) s := by omega
  have h3 := (idx_nodup L (n + 1)).idxOf_getElem r hr'
  rw [e] at h3
  unfold rank at hlt2
  omega
theorem code_lt {L : List Int} (hk : ∀ n, n ≤ 15 → 0 ≤ lft L n) {s : Nat} (h : Has L s) : codeOf L s < 2 ^ lenOf L s := by
  have h1 := hk _ h.le
  rw [lft_eq] at h1
  have h2 := rank_lt h.mem
  have hp := h.pos
  unfold cc at h1
  rw [if_neg (by omega)] at h1
  unfold codeOf
  omega
/-- The first bits of a longer code are no code. -/
theorem code_ge {L : List Int} {s : Nat} (h : Has L s) (n : Nat) (hn : n < lenOf L s) : fst' L n + cc L n ≤ codeOf L s / 2 ^ (lenOf L s - n) := by
  have h1 := fst_mono L n (lenOf L s - n - 1)
  rw [show lenOf L s - n - 1 + 1 = lenOf L s - n by omega, show n + (lenOf L s - n) = lenOf L s by omega] at h1
  rw [Nat.le_div_iff_mul_le (Nat.two_pow_pos _), Nat.mul_comm]
  unfold codeOf
  omega

/-! ### Bits -/
/-- A code's first j bits, the highest first. -/
def revTo (c m : Nat) : Nat → Nat
  | 0 => 0
  | j + 1 => revTo c m j + (c / 2 ^ (m - 1 - j) % 2) * 2 ^ j
theorem revTo_lt (c m : Nat) : ∀ j, revTo c m j < 2 ^ j
  | 0 => by simp [revTo]
  | j + 1 => by
    have h := revTo_lt c m j
    have h2 : c / 2 ^ (m - 1 - j) % 2 ≤ 1 := by omega
    have h3 := Nat.mul_le_mul_right (2 ^ j) h2
    rw [revTo, Nat.pow_succ]
    omega
theorem revTo_bit (c m t : Nat) : ∀ j, t < j → revTo c m j / 2 ^ t % 2 = c / 2 ^ (m - 1 - t) % 2
  | 0, h => by omega
  | j + 1, h => by
    rw [revTo]
    by_cases e : t = j
    · subst e
      rw [Nat.add_mul_div_right _ _ (Nat.two_pow_pos t), Nat.div_eq_of_lt (revTo_lt c m t), Nat.zero_add, Nat.mod_mod]
    · rw [← revTo_bit c m t j (by omega)]
      obtain ⟨d, hd⟩ : ∃ d, j = t + (d + 1) := ⟨j - t - 1, by omega⟩
      have hp : 2 ^ j = 2 ^ t * (2 * 2 ^ d) := by rw [hd, Nat.pow_add, Nat.pow_succ, Nat.mul_comm 2]
      rw [hp, show (c / 2 ^ (m - 1 - j) % 2) * (2 ^ t * (2 * 2 ^ d)) = 2 ^ t * (2 * ((c / 2 ^ (m - 1 - j) % 2) * 2 ^ d)) by
        generalize c / 2 ^ (m - 1 - j) % 2 = z
        generalize 2 ^ d = y
        generalize 2 ^ t = x
        rw [Nat.mul_left_comm z x, Nat.mul_left_comm z 2]]
      rw [Nat.add_mul_div_left _ _ (Nat.two_pow_pos t), Nat.add_mul_mod_self_left]

/-- Bits so far: how many, and the number they are. -/
structure St where
  n : Nat
  v : Nat
def St.ok (a : St) : Prop := a.v < 2 ^ a.n
def St.put (a : St) (k x : Nat) : St := ⟨a.n + k, a.v + x * 2 ^ a.n⟩
theorem St.put_ok {a : St} (h : a.ok) {k x : Nat} (hx : x < 2 ^ k) : (a.put k x).ok := by
  unfold St.ok St.put at *
  show a.v + x * 2 ^ a.n < 2 ^ (a.n + k)
  rw [Nat.pow_add]
  have := Nat.mul_le_mul_left (2 ^ a.n) (show x + 1 ≤ 2 ^ k from hx)
  rw [Nat.mul_add, Nat.mul_one, Nat.mul_comm (2 ^ a.n) x] at this
  omega
theorem St.put_put (a : St) (k x j y : Nat) : (a.put k x).put j y = a.put (k + j) (x + y * 2 ^ k) := by
  unfold St.put
  simp only [St.mk.injEq]
  refine ⟨Nat.add_assoc _ _ _, ?_⟩
  rw [Nat.pow_add, Nat.add_mul, Nat.add_assoc, Nat.mul_assoc y, Nat.mul_comm (2 ^ k)]
def Pre (a b : St) : Prop := a.n ≤ b.n ∧ b.v % 2 ^ a.n = a.v
theorem Pre.refl {a : St} (h : a.ok) : Pre a a := ⟨Nat.le_refl _, Nat.mod_eq_of_lt h⟩
theorem Pre.trans {a b c : St} (h : Pre a b) (k : Pre b c) : Pre a c := by
  refine ⟨Nat.le_trans h.1 k.1, ?_⟩
  rw [← h.2, ← k.2, Nat.mod_mod_of_dvd _ (Nat.pow_dvd_pow 2 h.1)]
theorem Pre.put {a : St} (h : a.ok) (k x : Nat) : Pre a (a.put k x) := by
  refine ⟨Nat.le_add_right _ _, ?_⟩
  unfold St.put
  rw [Nat.add_mul_mod_self_right, Nat.mod_eq_of_lt h]
/-- What was put can be taken. -/
theorem Pre.take {a b : St} {k x : Nat} (h : a.ok) (hx : x < 2 ^ k) (hp : Pre (a.put k x) b) : b.v / 2 ^ a.n % 2 ^ k = x ∧ a.n + k ≤ b.n := by
  refine ⟨?_, hp.1⟩
  have h1 : b.v % 2 ^ (a.n + k) = a.v + x * 2 ^ a.n := hp.2
  rw [Nat.pow_add] at h1
  rw [← Nat.mod_mul_right_div_self, h1, Nat.add_mul_div_right _ _ (Nat.two_pow_pos _), Nat.div_eq_of_lt h, Nat.zero_add]
theorem Pre.bit {a b : St} {k x t : Nat} (h : a.ok) (hx : x < 2 ^ k) (hp : Pre (a.put k x) b) (ht : t < k) : b.v / 2 ^ (a.n + t) % 2 = x / 2 ^ t % 2 := by
  have h1 := (Pre.take h hx hp).1
  obtain ⟨d, hd⟩ : ∃ d, k = t + (d + 1) := ⟨k - t - 1, by omega⟩
  rw [← h1, Nat.pow_add, ← Nat.div_div_eq_div_mul]
  generalize b.v / 2 ^ a.n = y
  rw [hd, Nat.pow_add, Nat.mod_mul_right_div_self, Nat.pow_succ, Nat.mul_comm (2 ^ d) 2, Nat.mod_mul_right_mod]

/-! ### Bytes -/
def up8 (n : Nat) : Nat := (n + 7) / 8 * 8
theorem lits_mod (x n k : Nat) (h : n ≤ k) : lits (x % 256 ^ k) n = lits x n := by
  unfold lits
  apply List.map_congr_left
  intro i hi
  rw [List.mem_range] at hi
  apply UInt8.toNat_inj.1
  rw [lb_toNat, lb_toNat]
  obtain ⟨d, hd⟩ : ∃ d, k = i + (d + 1) := ⟨k - i - 1, by omega⟩
  rw [hd, Nat.pow_add, Nat.mod_mul_right_div_self, Nat.pow_succ, Nat.mul_comm (256 ^ d) 256, Nat.mod_mul_right_mod]
theorem litN_cons (b : UInt8) (l : List UInt8) : litN (b :: l) = b.toNat + 256 * litN l := rfl
theorem lits_litN : ∀ l : List UInt8, lits (litN l) l.length = l
  | [] => rfl
  | b :: r => by
    have h := lits_litN r
    unfold lits at h ⊢
    rw [List.length_cons, List.range_succ_eq_map, List.map_cons, List.map_map, litN_cons]
    congr 1
    · apply UInt8.toNat_inj.1
      rw [lb_toNat]
      have := b.toNat_lt
      omega
    · refine Eq.trans ?_ h
      apply List.map_congr_left
      intro i _
      apply UInt8.toNat_inj.1
      show (lb (b.toNat + 256 * litN r) (i + 1)).toNat = _
      rw [lb_toNat, lb_toNat, Nat.pow_succ, Nat.mul_comm (256 ^ i) 256, ← Nat.div_div_eq_div_mul]
      have := b.toNat_lt
      rw [show (b.toNat + 256 * litN r) / 256 = litN r by omega]
theorem lits_add (x a b : Nat) : lits x (a + b) = lits x a ++ lits (x / 256 ^ a) b := by
  unfold lits
  rw [List.range_add, List.map_append, List.map_map]
  congr 1
  apply List.map_congr_left
  intro i _
  apply UInt8.toNat_inj.1
  show (lb x (a + i)).toNat = _
  rw [lb_toNat, lb_toNat, Nat.pow_add, Nat.div_div_eq_div_mul]
theorem lits_mid (x k a b : Nat) (h : a + b ≤ k) : ((lits x k).drop a).take b = lits (x / 256 ^ a) b := by
  obtain ⟨d, rfl⟩ : ∃ d, k = a + (b + d) := ⟨k - a - b, by omega⟩
  rw [lits_add, List.drop_left' (lits_length _ _), lits_add, List.take_left' (lits_length _ _)]
theorem lits_same (x y n : Nat) (h : x % 256 ^ n = y % 256 ^ n) : lits x n = lits y n := by rw [← lits_mod x n n (Nat.le_refl _), h, lits_mod y n n (Nat.le_refl _)]

/-! ### What is written, what is read -/
def encB (T : List UInt8) (a : St) : St := ⟨up8 a.n + 8 * T.length, a.v + litN T * 2 ^ up8 a.n⟩
def encC (L : List Int) (s : Nat) (a : St) : St := a.put (lenOf L s) (revTo (codeOf L s) (lenOf L s) (lenOf L s))
def enc (L : List Int) (T : List UInt8) (a : St) (x : Int) : St := if x < 0 then encB T a else encC L x.toNat a
theorem encB_put (T : List UInt8) (a : St) : encB T a = (a.put (up8 a.n - a.n) 0).put (8 * T.length) (litN T) := by
  unfold encB St.put
  have h : a.n + (up8 a.n - a.n) = up8 a.n := by unfold up8; omega
  simp only [h, Nat.zero_mul, Nat.add_zero]
theorem litN_lt' (T : List UInt8) : litN T < 2 ^ (8 * T.length) := by rw [Nat.pow_mul]; exact litN_lt T
theorem encB_ok {T : List UInt8} {a : St} (h : a.ok) : (encB T a).ok ∧ Pre a (encB T a) := by
  rw [encB_put]
  have h0 : (a.put (up8 a.n - a.n) 0).ok := St.put_ok h (Nat.two_pow_pos _)
  exact ⟨St.put_ok h0 (litN_lt' T), (Pre.put h _ _).trans (Pre.put h0 _ _)⟩
theorem encC_ok {L : List Int} {s : Nat} {a : St} (h : a.ok) : (encC L s a).ok ∧ Pre a (encC L s a) := ⟨St.put_ok h (revTo_lt _ _ _), Pre.put h _ _⟩
theorem enc_ok {L : List Int} {T : List UInt8} {a : St} (h : a.ok) (x : Int) : (enc L T a x).ok ∧ Pre a (enc L T a x) := by
  unfold enc
  split
  · exact encB_ok h
  · exact encC_ok h
def encs (L : List Int) (T : List UInt8) (l : List Int) : St := l.foldl (enc L T) ⟨0, 0⟩
theorem encs_snoc (L : List Int) (T : List UInt8) (l : List Int) (x : Int) : encs L T (l ++ [x]) = enc L T (encs L T l) x := by unfold encs; rw [List.foldl_append]; rfl
theorem folds_ok {L : List Int} {T : List UInt8} : ∀ (l : List Int) (a : St), a.ok → (l.foldl (enc L T) a).ok ∧ Pre a (l.foldl (enc L T) a)
  | [], a, h => ⟨h, Pre.refl h⟩
  | x :: r, a, h => by
    obtain ⟨h1, h2⟩ := enc_ok (L := L) (T := T) h x
    obtain ⟨h3, h4⟩ := folds_ok r _ h1
    exact ⟨h3, h2.trans h4⟩
theorem encs_ok (L : List Int) (T : List UInt8) (l : List Int) : (encs L T l).ok := (folds_ok l ⟨0, 0⟩ (Nat.one_pos)).1
theorem encs_pre (L : List Int) (T : List UInt8) (l : List Int) (j : Nat) : Pre (encs L T (l.take j)) (encs L T l) := by
  have h := (folds_ok (L := L) (T := T) (l.drop j) (encs L T (l.take j)) (encs_ok L T _)).2
  have e : (l.drop j).foldl (enc L T) (encs L T (l.take j)) = encs L T l := by
    unfold encs
    rw [← List.foldl_append, List.take_append_drop]
  rwa [e] at h
theorem encs_next (L : List Int) (T : List UInt8) (l : List Int) (j : Nat) (x : Int) (hx : l[j]? = some x) : Pre (enc L T (encs L T (l.take j)) x) (encs L T l) ∧ encs L T (l.take (j + 1)) = enc L T (encs L T (l.take j)) x := by
  have h := encs_pre L T l (j + 1)
  have e : l.take (j + 1) = l.take j ++ [x] := by rw [List.take_add_one, hx]; rfl
  have e2 : encs L T (l.take (j + 1)) = enc L T (encs L T (l.take j)) x := by rw [e, encs_snoc]
  rw [e2] at h
  exact ⟨h, e2⟩
/-- The text that is written. -/
def textOf (a : St) : List UInt8 := lits a.v ((a.n + 7) / 8)
theorem text_len (a : St) : (textOf a).length = (a.n + 7) / 8 := lits_length _ _
theorem text_num {a : St} (h : a.ok) : litN (textOf a) = a.v := by
  unfold textOf
  rw [litN_lits]
  refine Nat.mod_eq_of_lt (Nat.lt_of_lt_of_le h ?_)
  rw [show (256 : Nat) = 2 ^ 8 by decide, ← Nat.pow_mul]
  exact Nat.pow_le_pow_right (by decide) (by omega)
/-- Whole bytes are read as they were written. -/
theorem text_bytes {T : List UInt8} {a b : St} (h : a.ok) (hb : b.ok) (hp : Pre (encB T a) b) : ((textOf b).drop (up8 a.n / 8)).take T.length = T ∧ up8 a.n / 8 + T.length ≤ (textOf b).length := by
  have h0 : (a.put (up8 a.n - a.n) 0).ok := St.put_ok h (Nat.two_pow_pos _)
  rw [encB_put] at hp
  obtain ⟨h1, h2⟩ := Pre.take h0 (litN_lt' T) hp
  have hu : a.n + (up8 a.n - a.n) = up8 a.n := by unfold up8; omega
  have h3 : (a.put (up8 a.n - a.n) 0).n = up8 a.n := hu
  rw [h3] at h1 h2
  have hu8 : up8 a.n = 8 * (up8 a.n / 8) := by unfold up8; omega
  have hle : up8 a.n / 8 + T.length ≤ (b.n + 7) / 8 := by omega
  refine ⟨?_, by rw [text_len]; exact hle⟩
  unfold textOf
  rw [lits_mid _ _ _ _ hle]
  rw [hu8, Nat.pow_mul, Nat.pow_mul] at h1
  rw [← lits_mod _ _ T.length (Nat.le_refl _), show (256 : Nat) = 2 ^ 8 by decide, h1, lits_litN]
end Go.Proofs.Ytncdaohjjhcaaaa
