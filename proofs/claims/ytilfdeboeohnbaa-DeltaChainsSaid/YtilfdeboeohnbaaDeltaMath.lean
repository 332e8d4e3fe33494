/- THE PLAIN LAW OF DELTAS: what a delta makes of a base. No program in sight. No conditions. -/
import Derived.Test.YtilfdeboeohnbaaIntBits
import Derived.IntWalk
import Derived.Laws.Bits128
namespace Go.Proofs.Ytilfdeboeohnbaa.Delta
open Go Go.RowKit

/-- A number in groups of seven bits: the number and the bytes behind it; or the error. -/
def sz : List UInt8 → Nat → Nat → Except Nat (Nat × List UInt8)
  | [], _, _ => .error 6
  | c :: r, i, n => if 5 ≤ i then .error 3 else if c.toNat < 128 then .ok (n + c.toNat % 128 * 128 ^ i, r) else sz r (i + 1) (n + c.toNat % 128 * 128 ^ i)
/-- A copy's place and length, m bits of c still to come (of seven). -/
def cp (c : Nat) : Nat → List UInt8 → Nat → Nat → Except Nat (Nat × Nat × List UInt8)
  | 0, l, o, n => .ok (o, n, l)
  | m + 1, l, o, n =>
    if c / 2 ^ (6 - m) % 2 = 0 then cp c m l o n
    else match l with
      | [] => .error 6
      | x :: r => if 6 - m < 4 then cp c m r (o + x.toNat * 256 ^ (6 - m)) n else cp c m r o (n + x.toNat * 256 ^ (6 - m - 4))

/-- A lower part, and a higher one that begins where it ends. -/
theorem or_shl (n a k : Nat) (hn : n < 2 ^ k) (h : n + a * 2 ^ k < 9223372036854775808) : bits .or .i64 (n : Int) (wrap64 ((a : Int) * 2 ^ k)) = ((n + a * 2 ^ k : Nat) : Int) := by
  have e1 : (a : Int) * 2 ^ k = ((a * 2 ^ k : Nat) : Int) := by simp
  rw [e1, IntWalk.wrap64_in _ ⟨by omega, by omega⟩, i64_or_nat _ _ (by omega) (by omega), Nat.or_comm, Nat.mul_comm, ← Nat.two_pow_add_eq_or_of_lt hn, Nat.add_comm]
theorem size_w (n i : Nat) (c : UInt8) (hi : i ≤ 4) (hn : n < 128 ^ i) : bits .or .i64 (n : Int) (wrap64 (bits .and .i64 (c.toNat : Int) 127 * 2 ^ (7 * i))) = ((n + c.toNat % 128 * 128 ^ i : Nat) : Int) := by
  have hp : (128 : Nat) ^ i = 2 ^ (7 * i) := by rw [Nat.pow_mul]
  have hle : (2 : Nat) ^ (7 * i) ≤ 2 ^ 28 := Nat.pow_le_pow_right (by omega) (by omega)
  have e : bits .and .i64 (c.toNat : Int) 127 = ((c.toNat % 128 : Nat) : Int) := by rw [i64_and127]; omega
  rw [hp] at hn ⊢
  have hm : c.toNat % 128 * 2 ^ (7 * i) ≤ 127 * 2 ^ 28 := Nat.mul_le_mul (by omega) hle
  rw [e, or_shl _ _ _ hn (by omega)]
theorem size_lt (n i : Nat) (c : UInt8) (hn : n < 128 ^ i) : n + c.toNat % 128 * 128 ^ i < 128 ^ (i + 1) := by
  have hm : c.toNat % 128 * 128 ^ i ≤ 127 * 128 ^ i := Nat.mul_le_mul_right _ (by omega)
  rw [Nat.pow_succ]
  omega
theorem bit_i64 (c i : Nat) (hc : c < 9223372036854775808) : bits .and .i64 ((c : Int) / 2 ^ i) 1 = ((c / 2 ^ i % 2 : Nat) : Int) := by
  have hd : c / 2 ^ i ≤ c := Nat.div_le_self _ _
  have e1 : ((c : Int) / 2 ^ i) = ((c / 2 ^ i : Nat) : Int) := by simp
  rw [e1]
  generalize c / 2 ^ i = y at hd
  have := i64_and_nat y 1 (by omega) (by omega)
  rw [Nat.and_one_is_mod] at this
  exact this
theorem cp_skip (c i : Nat) (l : List UInt8) (o n : Nat) (hi : i < 7) (hb : c / 2 ^ i % 2 = 0) : cp c (7 - i) l o n = cp c (7 - (i + 1)) l o n := by
  obtain ⟨m, hm⟩ : ∃ m, m = 6 - i := ⟨_, rfl⟩
  rw [show 7 - i = m + 1 by omega, show 7 - (i + 1) = m by omega]
  have hb' : c / 2 ^ (6 - m) % 2 = 0 := by rw [show 6 - m = i by omega]; exact hb
  cases l with
  | nil => rw [cp.eq_2]; rw [if_pos hb']
  | cons x r => rw [cp.eq_3]; rw [if_pos hb']
theorem cp_nil (c i : Nat) (o n : Nat) (hi : i < 7) (hb : ¬ c / 2 ^ i % 2 = 0) : cp c (7 - i) [] o n = .error 6 := by
  obtain ⟨m, hm⟩ : ∃ m, m = 6 - i := ⟨_, rfl⟩
  rw [show 7 - i = m + 1 by omega]
  have hb' : ¬ c / 2 ^ (6 - m) % 2 = 0 := by rw [show 6 - m = i by omega]; exact hb
  rw [cp.eq_2, if_neg hb']
theorem cp_lo (c i : Nat) (x : UInt8) (l : List UInt8) (o n : Nat) (hi : i < 7) (h4 : i < 4) (hb : ¬ c / 2 ^ i % 2 = 0) : cp c (7 - i) (x :: l) o n = cp c (7 - (i + 1)) l (o + x.toNat * 256 ^ i) n := by
  obtain ⟨m, hm⟩ : ∃ m, m = 6 - i := ⟨_, rfl⟩
  rw [show 7 - i = m + 1 by omega, show 7 - (i + 1) = m by omega]
  have hb' : ¬ c / 2 ^ (6 - m) % 2 = 0 := by rw [show 6 - m = i by omega]; exact hb
  rw [cp.eq_3, if_neg hb', if_pos (by omega), show 6 - m = i by omega]
theorem cp_hi (c i : Nat) (x : UInt8) (l : List UInt8) (o n : Nat) (hi : i < 7) (h4 : ¬ i < 4) (hb : ¬ c / 2 ^ i % 2 = 0) : cp c (7 - i) (x :: l) o n = cp c (7 - (i + 1)) l o (n + x.toNat * 256 ^ (i - 4)) := by
  obtain ⟨m, hm⟩ : ∃ m, m = 6 - i := ⟨_, rfl⟩
  rw [show 7 - i = m + 1 by omega, show 7 - (i + 1) = m by omega]
  have hb' : ¬ c / 2 ^ (6 - m) % 2 = 0 := by rw [show 6 - m = i by omega]; exact hb
  rw [cp.eq_3, if_neg hb', if_neg (by omega), show 6 - m = i by omega]
theorem byte_at_w (o k : Nat) (x : UInt8) (hk : k ≤ 3) (ho : o < 2 ^ (8 * k)) : bits .or .i64 (o : Int) (wrap64 ((x.toNat : Int) * 2 ^ (8 * k))) = ((o + x.toNat * 256 ^ k : Nat) : Int) ∧ o + x.toNat * 256 ^ k < 2 ^ (8 * (k + 1)) := by
  have hx := x.toNat_lt
  have hp : (256 : Nat) ^ k = 2 ^ (8 * k) := by rw [Nat.pow_mul]
  have hle : (2 : Nat) ^ (8 * k) ≤ 2 ^ 24 := Nat.pow_le_pow_right (by omega) (by omega)
  have hm : x.toNat * 2 ^ (8 * k) ≤ 255 * 2 ^ (8 * k) := Nat.mul_le_mul_right _ (by omega)
  rw [hp]
  refine ⟨or_shl _ _ _ ho (by omega), ?_⟩
  rw [show 8 * (k + 1) = 8 * k + 8 by omega, Nat.pow_add]
  omega
/-- Both lengths, how many bytes, the error's number. -/
def sizesS (l : List UInt8) : Nat × Nat × Nat × Nat :=
  match sz l 0 0 with
  | .error x => (0, 0, 0, x)
  | .ok (a, r) =>
    match sz r 0 0 with
    | .error x => (0, 0, 0, x)
    | .ok (b, r') => (a, b, l.length - r'.length, 0)
/-- A copy's length: none is told as 65536. -/
def kk (k : Nat) : Nat := if k = 0 then 65536 else k
/-- One piece of what comes out, and what is left of the delta. -/
def piece (base : List UInt8) (c : UInt8) (r : List UInt8) : Except Nat (List UInt8 × List UInt8) :=
  if c.toNat = 0 then .error 3
  else if c.toNat < 128 then if r.length < c.toNat then .error 6 else .ok (r.take c.toNat, r.drop c.toNat)
  else match cp c.toNat 7 r 0 0 with
    | .error x => .error x
    | .ok (o, k, r') => if base.length < kk k ∨ base.length - kk k < o then .error 3 else .ok ((base.drop o).take (kk k), r')
/-- All pieces. -/
def ap (base : List UInt8) (n : Nat) : Nat → List UInt8 → List UInt8 → List UInt8 × Nat
  | f + 1, c :: r, out =>
    match piece base c r with
    | .error x => ([], x)
    | .ok (part, r') => if n - out.length < part.length then ([], 3) else ap base n f r' (out ++ part)
  | _, _, out => if out.length < n then ([], 6) else (out, 0)
def applyS (base d : List UInt8) (most : Int) : List UInt8 × Nat :=
  if (sizesS d).2.2.2 ≠ 0 then ([], (sizesS d).2.2.2)
  else if (sizesS d).1 ≠ base.length then ([], 4)
  else if most < ((sizesS d).2.1 : Int) then ([], 2)
  else ap base (sizesS d).2.1 d.length (d.drop (sizesS d).2.2.1) []

theorem cp_len (c : Nat) : ∀ (m : Nat) (l : List UInt8) (o n : Nat) (o' n' : Nat) (l' : List UInt8), cp c m l o n = .ok (o', n', l') → l'.length ≤ l.length
  | 0, l, o, n, o', n', l', h => by rw [cp.eq_1] at h; injection h with h; simp only [Prod.mk.injEq] at h; rw [h.2.2]; exact Nat.le_refl _
  | m + 1, [], o, n, o', n', l', h => by
    rw [cp.eq_2] at h
    split at h
    · exact cp_len c m _ _ _ _ _ _ h
    · cases h
  | m + 1, x :: r, o, n, o', n', l', h => by
    rw [cp.eq_3] at h
    split at h
    · exact cp_len c m _ _ _ _ _ _ h
    · split at h
      · exact Nat.le_trans (cp_len c m _ _ _ _ _ _ h) (by simp)
      · exact Nat.le_trans (cp_len c m _ _ _ _ _ _ h) (by simp)
theorem piece_len (base : List UInt8) (c : UInt8) (r part r' : List UInt8) (h : piece base c r = .ok (part, r')) : r'.length ≤ r.length := by
  unfold piece at h
  split at h
  · cases h
  split at h
  · split at h
    · cases h
    · injection h with h
      simp only [Prod.mk.injEq] at h
      rw [← h.2, List.length_drop]; omega
  split at h
  · cases h
  · rename_i o k q hc
    split at h
    · cases h
    · injection h with h
      simp only [Prod.mk.injEq] at h
      rw [← h.2]
      exact cp_len _ _ _ _ _ _ _ _ hc
theorem ap_end (base : List UInt8) (n f : Nat) (out : List UInt8) : ap base n f [] out = if out.length < n then ([], 6) else (out, 0) := by cases f <;> rfl
theorem ap_error (base : List UInt8) (n f : Nat) (c : UInt8) (r out : List UInt8) (x : Nat) (h : piece base c r = .error x) (hf : (c :: r).length ≤ f) : ap base n f (c :: r) out = ([], x) := by
  obtain ⟨g, rfl⟩ : ∃ g, f = g + 1 := ⟨f - 1, by simp at hf; omega⟩
  rw [ap, h]
theorem ap_over (base : List UInt8) (n f : Nat) (c : UInt8) (r out part r' : List UInt8) (h : piece base c r = .ok (part, r')) (hf : (c :: r).length ≤ f) (ho : n - out.length < part.length) : ap base n f (c :: r) out = ([], 3) := by
  obtain ⟨g, rfl⟩ : ∃ g, f = g + 1 := ⟨f - 1, by simp at hf; omega⟩
  rw [ap, h]
  simp only []
  rw [if_pos ho]
theorem ap_step (base : List UInt8) (n f : Nat) (c : UInt8) (r out part r' : List UInt8) (h : piece base c r = .ok (part, r')) (hf : (c :: r).length ≤ f) (ho : ¬ n - out.length < part.length) :
    ap base n f (c :: r) out = ap base n (f - 1) r' (out ++ part) ∧ r'.length ≤ f - 1 := by
  obtain ⟨g, rfl⟩ : ∃ g, f = g + 1 := ⟨f - 1, by simp at hf; omega⟩
  have hl := piece_len base c r part r' h
  refine ⟨?_, by simp at hf; omega⟩
  rw [ap, h]
  simp only []
  rw [if_neg ho]
  rfl
theorem sz_lt : ∀ (l : List UInt8) (i n : Nat) (m : Nat) (r : List UInt8), n < 128 ^ i → i ≤ 5 → sz l i n = .ok (m, r) → m < 128 ^ 5 ∧ r.length ≤ l.length
  | [], i, n, m, r, hn, hi, h => by rw [sz] at h; cases h
  | c :: l, i, n, m, r, hn, hi, h => by
    rw [sz] at h
    split at h
    · cases h
    · have h2 := size_lt n i c hn
      split at h
      · injection h with h
        simp only [Prod.mk.injEq] at h
        refine ⟨?_, by rw [← h.2]; simp⟩
        rw [← h.1]
        exact Nat.lt_of_lt_of_le h2 (Nat.pow_le_pow_right (by omega) (by omega))
      · have := sz_lt l (i + 1) _ m r h2 (by omega) h
        exact ⟨this.1, Nat.le_trans this.2 (by simp)⟩
theorem sizesS_bounds (l : List UInt8) : (sizesS l).1 < 128 ^ 5 ∧ (sizesS l).2.1 < 128 ^ 5 ∧ (sizesS l).2.2.1 ≤ l.length := by
  unfold sizesS
  split
  · exact ⟨(by decide : 0 < 128 ^ 5), (by decide : 0 < 128 ^ 5), Nat.zero_le _⟩
  · rename_i a r h1
    split
    · exact ⟨(by decide : 0 < 128 ^ 5), (by decide : 0 < 128 ^ 5), Nat.zero_le _⟩
    · rename_i b r' h2
      exact ⟨(sz_lt _ _ _ _ _ (by decide) (by omega) h1).1, (sz_lt _ _ _ _ _ (by decide) (by omega) h2).1, Nat.sub_le _ _⟩
end Go.Proofs.Ytilfdeboeohnbaa.Delta
