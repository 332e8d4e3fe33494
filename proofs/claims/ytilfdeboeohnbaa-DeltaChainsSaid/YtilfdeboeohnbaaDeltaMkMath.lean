/- PLAIN LAWS of what Make writes: sizes, pieces of plain bytes, copies; what they make when they are applied; how long they are. No conditions. -/
import Derived.Test.YtilfdeboeohnbaaDeltaXs
namespace Go.Proofs.Ytilfdeboeohnbaa.Delta
open Go Go.RowKit

/-- A number in groups of seven bits. -/
def sized (n : Nat) : List UInt8 := if n < 128 then [UInt8.ofNat n] else UInt8.ofNat (n % 128 + 128) :: sized (n / 128)
termination_by n
decreasing_by omega

theorem sized_lo (n : Nat) (h : n < 128) : sized n = [UInt8.ofNat n] := by rw [sized, if_pos h]
theorem sized_hi (n : Nat) (h : ¬ n < 128) : sized n = UInt8.ofNat (n % 128 + 128) :: sized (n / 128) := by rw [sized, if_neg h]

theorem sz_sized (r : List UInt8) : ∀ (k n i m : Nat), n < 128 ^ k → i + k ≤ 5 → 0 < k → sz (sized n ++ r) i m = .ok (m + n * 128 ^ i, r)
  | 0, n, i, m, hn, hk, h0 => by omega
  | k + 1, n, i, m, hn, hk, h0 => by
    by_cases h : n < 128
    · rw [sized_lo n h]
      have e : (UInt8.ofNat n).toNat = n := by rw [UInt8.toNat_ofNat']; omega
      rw [List.singleton_append, sz, if_neg (by omega), e, if_pos h, Nat.mod_eq_of_lt h]
    · rw [sized_hi n h]
      have e : (UInt8.ofNat (n % 128 + 128)).toNat = n % 128 + 128 := by rw [UInt8.toNat_ofNat']; omega
      rw [List.cons_append, sz, if_neg (by omega), e, if_neg (by omega)]
      have hk0 : 0 < k := by
        rcases Nat.eq_zero_or_pos k with rfl | h'
        · simp at hn; omega
        · exact h'
      have hn2 : n / 128 < 128 ^ k := by
        rw [Nat.div_lt_iff_lt_mul (by omega)]
        rw [Nat.pow_succ] at hn
        exact hn
      rw [sz_sized r k (n / 128) (i + 1) _ hn2 (by omega) hk0]
      have e2 : (n % 128 + 128) % 128 = n % 128 := by omega
      have e3 : n = n % 128 + n / 128 * 128 := by omega
      rw [e2, Nat.pow_succ]
      congr 2
      conv => rhs; rw [e3]
      rw [Nat.add_mul, ← Nat.add_assoc, Nat.mul_assoc, Nat.mul_comm 128 (128 ^ i)]

theorem sized_length : ∀ (k n : Nat), n < 128 ^ k → 0 < k → (sized n).length ≤ k
  | 0, n, hn, h0 => by omega
  | k + 1, n, hn, h0 => by
    by_cases h : n < 128
    · rw [sized_lo n h]; simp
    · rw [sized_hi n h]
      have hk0 : 0 < k := by
        rcases Nat.eq_zero_or_pos k with rfl | h'
        · simp at hn; omega
        · exact h'
      have hn2 : n / 128 < 128 ^ k := by
        rw [Nat.div_lt_iff_lt_mul (by omega)]
        rw [Nat.pow_succ] at hn
        exact hn
      have := sized_length k (n / 128) hn2 hk0
      rw [List.length_cons]
      omega

/-- Both sizes are read back. -/
theorem sizesS_sized (a b : Nat) (r : List UInt8) (ha : a < 128 ^ 5) (hb : b < 128 ^ 5) : sizesS (sized a ++ sized b ++ r) = (a, b, (sized a ++ sized b).length, 0) := by
  unfold sizesS
  rw [List.append_assoc, sz_sized (sized b ++ r) 5 a 0 0 ha (by omega) (by omega)]
  simp only []
  rw [sz_sized r 5 b 0 0 hb (by omega) (by omega)]
  simp only [Nat.pow_zero, Nat.mul_one, Nat.zero_add, List.length_append]
  congr 3
  omega

/-- The bytes ops make x of the base, wherever they stand. -/
def Mk (base ops x : List UInt8) : Prop :=
  ∀ (n f : Nat) (rest out : List UInt8), out.length + x.length ≤ n → (ops ++ rest).length ≤ f → ∃ f', rest.length ≤ f' ∧ ap base n f (ops ++ rest) out = ap base n f' rest (out ++ x)
theorem Mk.nil (base : List UInt8) : Mk base [] [] := fun n f rest out _ hf => ⟨f, by simpa using hf, by simp⟩
theorem Mk.append {base o1 x1 o2 x2 : List UInt8} (h1 : Mk base o1 x1) (h2 : Mk base o2 x2) : Mk base (o1 ++ o2) (x1 ++ x2) := by
  intro n f rest out hn hf
  rw [List.length_append] at hn
  obtain ⟨f1, hf1, e1⟩ := h1 n f (o2 ++ rest) out (by omega) (by rw [← List.append_assoc]; exact hf)
  obtain ⟨f2, hf2, e2⟩ := h2 n f1 rest (out ++ x1) (by rw [List.length_append]; omega) hf1
  exact ⟨f2, hf2, by rw [List.append_assoc, e1, e2, List.append_assoc]⟩
theorem Mk.piece {base : List UInt8} {c : UInt8} {r x : List UInt8} (h : ∀ rest, piece base c (r ++ rest) = .ok (x, rest)) : Mk base (c :: r) x := by
  intro n f rest out hn hf
  obtain ⟨h1, h2⟩ := ap_step base n f c (r ++ rest) out x rest (h rest) (by rw [List.cons_append] at hf; exact hf) (by omega)
  exact ⟨f - 1, h2, by rw [List.cons_append]; exact h1⟩
theorem Mk.lit (base x : List UInt8) (h0 : 0 < x.length) (h : x.length ≤ 127) : Mk base (UInt8.ofNat x.length :: x) x := by
  refine Mk.piece fun rest => ?_
  have e : (UInt8.ofNat x.length).toNat = x.length := by rw [UInt8.toNat_ofNat']; omega
  unfold Delta.piece
  rw [e, if_neg (by omega), if_pos (by omega), if_neg (by rw [List.length_append]; omega), List.take_left, List.drop_left]

/-- The whole. -/
theorem apply_mk (base ops t : List UInt8) (most : Int) (h : Mk base ops t) (ha : base.length < 128 ^ 5) (hb : t.length < 128 ^ 5) (hm : (t.length : Int) ≤ most) : applyS base (sized base.length ++ sized t.length ++ ops) most = (t, 0) := by
  unfold applyS
  rw [sizesS_sized _ _ _ ha hb]
  simp only []
  rw [if_neg (by omega), if_neg (by omega), if_neg (by omega)]
  rw [List.drop_left]
  obtain ⟨f', hf', e⟩ := h t.length (sized base.length ++ sized t.length ++ ops).length [] [] (by simp) (by rw [List.append_nil, List.length_append]; omega)
  rw [List.append_nil] at e
  rw [e, ap_end, List.nil_append, if_neg (by omega)]
theorem apply_big (base ops : List UInt8) (n : Nat) (most : Int) (ha : base.length < 128 ^ 5) (hb : n < 128 ^ 5) (hm : most < (n : Int)) : applyS base (sized base.length ++ sized n ++ ops) most = ([], 2) := by
  unfold applyS
  rw [sizesS_sized _ _ _ ha hb]
  simp only []
  rw [if_neg (by omega), if_neg (by omega), if_pos hm]
theorem apply_other (base b2 ops : List UInt8) (n : Nat) (most : Int) (ha : b2.length < 128 ^ 5) (hb : n < 128 ^ 5) (hne : b2.length ≠ base.length) : applyS base (sized b2.length ++ sized n ++ ops) most = ([], 4) := by
  unfold applyS
  rw [sizesS_sized _ _ _ ha hb]
  simp only []
  rw [if_neg (by omega), if_pos hne]

/-- Plain bytes in pieces of at most 127. -/
def chunks (x : List UInt8) : List UInt8 :=
  if h : x.length = 0 then [] else UInt8.ofNat (min x.length 127) :: x.take (min x.length 127) ++ chunks (x.drop (min x.length 127))
termination_by x.length
decreasing_by rw [List.length_drop]; omega
theorem chunks_nil : chunks [] = [] := by rw [chunks]; rfl
theorem chunks_step (x : List UInt8) (h : x.length ≠ 0) : chunks x = (UInt8.ofNat (min x.length 127) :: x.take (min x.length 127)) ++ chunks (x.drop (min x.length 127)) := by
  rw [chunks, dif_neg h]
theorem chunks_mk (base : List UInt8) : ∀ (k : Nat) (x : List UInt8), x.length ≤ k → Mk base (chunks x) x
  | 0, x, h => by
    have : x = [] := List.eq_nil_of_length_eq_zero (by omega)
    subst this
    rw [chunks_nil]
    exact Mk.nil base
  | k + 1, x, h => by
    by_cases h0 : x.length = 0
    · have : x = [] := List.eq_nil_of_length_eq_zero h0
      subst this
      rw [chunks_nil]
      exact Mk.nil base
    · rw [chunks_step x h0]
      have hl : (x.take (min x.length 127)).length = min x.length 127 := by rw [List.length_take]; omega
      have h1 := Mk.lit base (x.take (min x.length 127)) (by omega) (by omega)
      rw [hl] at h1
      have h2 := h1.append (chunks_mk base k (x.drop (min x.length 127)) (by rw [List.length_drop]; omega))
      rw [List.take_append_drop] at h2
      exact h2
theorem chunks_length : ∀ (k : Nat) (x : List UInt8), x.length ≤ k → (chunks x).length = x.length + (x.length + 126) / 127
  | 0, x, h => by
    have : x = [] := List.eq_nil_of_length_eq_zero (by omega)
    subst this
    rw [chunks_nil]
    rfl
  | k + 1, x, h => by
    by_cases h0 : x.length = 0
    · have : x = [] := List.eq_nil_of_length_eq_zero h0
      subst this
      rw [chunks_nil]
      rfl
    · rw [chunks_step x h0, List.length_append, List.length_cons, List.length_take, chunks_length k _ (by rw [List.length_drop]; omega), List.length_drop]
      omega

/-! A copy's bytes. -/
def bit (x : Nat) : Nat := if x = 0 then 0 else 1
def mask : List Nat → Nat → Nat
  | [], _ => 0
  | x :: r, i => bit x * 2 ^ i + mask r (i + 1)
def full (xs : List Nat) : List UInt8 := (xs.filter (fun x => decide (x ≠ 0))).map UInt8.ofNat
theorem bit_le (x : Nat) : bit x ≤ 1 := by unfold bit; split <;> omega
theorem mask_snoc (x : Nat) : ∀ (xs : List Nat) (i : Nat), mask (xs ++ [x]) i = mask xs i + bit x * 2 ^ (i + xs.length)
  | [], i => by simp [mask]
  | y :: r, i => by
    rw [List.cons_append, mask, mask_snoc x r (i + 1), mask, List.length_cons, show i + 1 + r.length = i + (r.length + 1) by omega]
    omega
theorem mask_lt : ∀ (xs : List Nat) (i : Nat), mask xs i + 2 ^ i ≤ 2 ^ (i + xs.length)
  | [], i => by simp [mask]
  | y :: r, i => by
    have h := mask_lt r (i + 1)
    have hb := bit_le y
    have h2 : bit y * 2 ^ i ≤ 1 * 2 ^ i := Nat.mul_le_mul_right _ hb
    rw [mask, List.length_cons, show i + (r.length + 1) = i + 1 + r.length by omega]
    rw [Nat.pow_succ] at h
    omega
theorem full_zero (xs : List Nat) : full (xs ++ [0]) = full xs := by simp [full]
theorem full_snoc (xs : List Nat) (x : Nat) (h : x ≠ 0) : full (xs ++ [x]) = full xs ++ [UInt8.ofNat x] := by simp [full, h]
theorem full_cons (x : Nat) (xs : List Nat) : full (x :: xs) = (if x = 0 then [] else [UInt8.ofNat x]) ++ full xs := by
  by_cases h : x = 0
  · subst h; simp [full]
  · rw [if_neg h]; simp [full, h]

/-- One more of the seven. -/
theorem cp_one (c i x : Nat) (pre : List Nat) (l : List UInt8) (hp : pre.length = i) (h7 : i < 7) (hx : x < 256) (hb : c / 2 ^ i % 2 = bit x) :
    cp c (7 - i) ((if x = 0 then [] else [UInt8.ofNat x]) ++ l) (lo pre) (hi pre) = cp c (7 - (i + 1)) l (lo (pre ++ [x])) (hi (pre ++ [x])) := by
  by_cases h : x = 0
  · subst h
    rw [if_pos rfl, List.nil_append]
    exact cp_round0 c i pre l hp h7 (by rw [hb]; rfl)
  · rw [if_neg h, List.singleton_append]
    have e : (UInt8.ofNat x).toNat = x := by rw [UInt8.toNat_ofNat']; omega
    rw [cp_round1 c i pre (UInt8.ofNat x) l hp h7 (by rw [hb]; simp [bit, h]), e]

theorem cp_full (x0 x1 x2 x3 x4 x5 x6 : Nat) (rest : List UInt8) (h0 : x0 < 256) (h1 : x1 < 256) (h2 : x2 < 256) (h3 : x3 < 256) (h4 : x4 < 256) (h5 : x5 < 256) (h6 : x6 < 256) :
    cp (128 + mask [x0, x1, x2, x3, x4, x5, x6] 0) 7 (full [x0, x1, x2, x3, x4, x5, x6] ++ rest) 0 0 = .ok (lo [x0, x1, x2, x3, x4, x5, x6], hi [x0, x1, x2, x3, x4, x5, x6], rest) := by
  have b0 := bit_le x0
  have b1 := bit_le x1
  have b2 := bit_le x2
  have b3 := bit_le x3
  have b4 := bit_le x4
  have b5 := bit_le x5
  have b6 := bit_le x6
  obtain ⟨c, hc⟩ : ∃ c, c = 128 + mask [x0, x1, x2, x3, x4, x5, x6] 0 := ⟨_, rfl⟩
  have hc2 : c = 128 + (bit x0 * 1 + (bit x1 * 2 + (bit x2 * 4 + (bit x3 * 8 + (bit x4 * 16 + (bit x5 * 32 + (bit x6 * 64 + 0))))))) := by rw [hc]; rfl
  rw [← hc]
  simp only [full_cons, List.append_assoc]
  have hn : full [] = [] := rfl
  rw [hn, List.nil_append]
  refine (cp_one c 0 x0 [] _ rfl (by omega) h0 (by show c / 1 % 2 = _; omega)).trans ?_
  refine (cp_one c 1 x1 [x0] _ rfl (by omega) h1 (by show c / 2 % 2 = _; omega)).trans ?_
  refine (cp_one c 2 x2 [x0, x1] _ rfl (by omega) h2 (by show c / 4 % 2 = _; omega)).trans ?_
  refine (cp_one c 3 x3 [x0, x1, x2] _ rfl (by omega) h3 (by show c / 8 % 2 = _; omega)).trans ?_
  refine (cp_one c 4 x4 [x0, x1, x2, x3] _ rfl (by omega) h4 (by show c / 16 % 2 = _; omega)).trans ?_
  refine (cp_one c 5 x5 [x0, x1, x2, x3, x4] _ rfl (by omega) h5 (by show c / 32 % 2 = _; omega)).trans ?_
  refine (cp_one c 6 x6 [x0, x1, x2, x3, x4, x5] _ rfl (by omega) h6 (by show c / 64 % 2 = _; omega)).trans ?_
  exact cp_done _ _ _ _

/-- The seven numbers of a copy of n bytes from o on. -/
def xcopy (o n : Nat) : Nat → Nat
  | 0 => o % 256
  | 1 => o / 256 % 256
  | 2 => o / 65536 % 256
  | 3 => o / 16777216 % 256
  | 4 => n % 256
  | 5 => n / 256 % 256
  | _ => if n = 65536 then 0 else n / 65536 % 256
def xs7 (o n i : Nat) : List Nat := (List.range i).map (xcopy o n)
theorem xs7_succ (o n i : Nat) : xs7 o n (i + 1) = xs7 o n i ++ [xcopy o n i] := by unfold xs7; rw [List.range_succ, List.map_append]; rfl
theorem xs7_len (o n i : Nat) : (xs7 o n i).length = i := by unfold xs7; simp
theorem xcopy_lt (o n i : Nat) : xcopy o n i < 256 := by
  unfold xcopy
  split
  case h_7 => split <;> omega
  all_goals omega
def copyL (o n i : Nat) : List UInt8 := UInt8.ofNat (128 + mask (xs7 o n i) 0) :: full (xs7 o n i)
theorem xs7_all (o n : Nat) : xs7 o n 7 = [xcopy o n 0, xcopy o n 1, xcopy o n 2, xcopy o n 3, xcopy o n 4, xcopy o n 5, xcopy o n 6] := rfl
theorem copy_mk (base : List UInt8) (o n : Nat) (h0 : 0 < n) (hn : n ≤ 65536) (ho : o + n ≤ base.length) (hb : base.length < 4294967296) : Mk base (copyL o n 7) ((base.drop o).take n) := by
  refine Mk.piece fun rest => ?_
  have hm := mask_lt (xs7 o n 7) 0
  rw [xs7_len] at hm
  have hm2 : mask (xs7 o n 7) 0 < 128 := by simp at hm; omega
  have e : (UInt8.ofNat (128 + mask (xs7 o n 7) 0)).toNat = 128 + mask (xs7 o n 7) 0 := by rw [UInt8.toNat_ofNat']; omega
  unfold Delta.piece
  rw [e, if_neg (by omega), if_neg (by omega)]
  have hcp := cp_full (xcopy o n 0) (xcopy o n 1) (xcopy o n 2) (xcopy o n 3) (xcopy o n 4) (xcopy o n 5) (xcopy o n 6) rest (xcopy_lt _ _ _) (xcopy_lt _ _ _) (xcopy_lt _ _ _) (xcopy_lt _ _ _) (xcopy_lt _ _ _) (xcopy_lt _ _ _) (xcopy_lt _ _ _)
  rw [← xs7_all] at hcp
  rw [hcp]
  have hlo : lo (xs7 o n 7) = o := by
    show o % 256 + 256 * (o / 256 % 256) + 65536 * (o / 65536 % 256) + 16777216 * (o / 16777216 % 256) = o
    omega
  have hhi : kk (hi (xs7 o n 7)) = n := by
    show kk (n % 256 + 256 * (n / 256 % 256) + 65536 * (if n = 65536 then 0 else n / 65536 % 256)) = n
    unfold kk
    by_cases h : n = 65536
    · subst h; rfl
    · rw [if_neg h, if_neg (by omega)]
      omega
  simp only []
  rw [hlo, hhi, if_neg (by omega)]
end Go.Proofs.Ytilfdeboeohnbaa.Delta
