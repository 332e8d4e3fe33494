/- THE PLAIN LAW OF THE DIGITS: hexadecimal texts are read back. No program in sight. No conditions. -/
import Derived.Test.YtgojmckfabhkaaaDoorSumsMath
import Derived.Test.YtgojmckfabhkaaaDoorIntBits
namespace Go.Proofs.YtgojmckfabhkaaaDoor.Sums
open Go

def isHex (c : UInt8) : Bool := (48 ≤ c.toNat && c.toNat ≤ 57) || (97 ≤ c.toNat && c.toNat ≤ 102)
def hv (c : UInt8) : Nat := if c.toNat ≤ 57 then c.toNat - 48 else c.toNat - 87
def dig (c : UInt8) : Int := if isHex c then (hv c : Int) else -1
def hexed (l : List UInt8) : Bool := l.all isHex && l.length % 2 == 0
def pairs : List UInt8 → List UInt8
  | a :: b :: r => UInt8.ofNat (16 * hv a + hv b) :: pairs r
  | _ => []

theorem hv_lt (c : UInt8) (h : isHex c = true) : hv c < 16 := by
  simp only [isHex, Bool.or_eq_true, Bool.and_eq_true, decide_eq_true_eq] at h
  unfold hv
  split <;> omega
theorem dig_neg (c : UInt8) : (dig c < 0) ↔ isHex c = false := by
  unfold dig
  cases h : isHex c <;> simp
theorem dig_pos (c : UInt8) (h : isHex c = true) : dig c = (hv c : Int) := if_pos h

theorem pairs_snoc (a b : UInt8) (l : List UInt8) (h : l.length % 2 = 0) : pairs (l ++ [a, b]) = pairs l ++ [UInt8.ofNat (16 * hv a + hv b)] := go (l.length / 2) l (by omega)
where go : ∀ (n : Nat) (l : List UInt8), l.length = 2 * n → pairs (l ++ [a, b]) = pairs l ++ [UInt8.ofNat (16 * hv a + hv b)]
  | 0, l, h => by
    have : l = [] := List.length_eq_zero_iff.1 (by omega)
    subst this
    rfl
  | n + 1, x :: y :: l, h => by
    have ih := go n l (by simp at h; omega)
    show _ :: pairs (l ++ [a, b]) = _ :: pairs l ++ _
    rw [ih]; rfl
  | n + 1, [], h => by simp at h
  | n + 1, [x], h => by simp at h; omega
theorem pairs_length (l : List UInt8) (h : l.length % 2 = 0) : (pairs l).length = l.length / 2 := go (l.length / 2) l (by omega)
where go : ∀ (n : Nat) (l : List UInt8), l.length = 2 * n → (pairs l).length = n
  | 0, l, h => by
    have : l = [] := List.length_eq_zero_iff.1 (by omega)
    subst this
    rfl
  | n + 1, x :: y :: l, h => by
    have ih := go n l (by simp at h; omega)
    show (pairs l).length + 1 = _
    rw [ih]
  | n + 1, [], h => by simp at h
  | n + 1, [x], h => by simp at h; omega

theorem hexD_toNat (n : Nat) (h : n < 16) : (hexD n).toNat = if n < 10 then 48 + n else 87 + n := by
  unfold hexD
  rw [UInt8.toNat_ofNat']
  split <;> omega
theorem isHex_hexD (n : Nat) (h : n < 16) : isHex (hexD n) = true := by
  simp only [isHex, hexD_toNat n h, Bool.or_eq_true, Bool.and_eq_true, decide_eq_true_eq]
  split <;> omega
theorem hv_hexD (n : Nat) (h : n < 16) : hv (hexD n) = n := by
  simp only [hv, hexD_toNat n h]
  split <;> split <;> omega
theorem hexed_hexL (l : List UInt8) : hexed (hexL l) = true := by
  unfold hexed
  rw [hexL_length, Bool.and_eq_true]
  refine ⟨?_, by simp⟩
  induction l with
  | nil => rfl
  | cons b l ih =>
    have hb := b.toNat_lt
    show ([hexD (b.toNat / 16), hexD (b.toNat % 16)] ++ hexL l).all isHex = true
    rw [List.all_append, ih]
    simp only [List.all_cons, List.all_nil, Bool.and_true]
    rw [isHex_hexD _ (by omega), isHex_hexD _ (by omega)]; rfl
theorem pairs_hexL (l : List UInt8) : pairs (hexL l) = l := by
  induction l with
  | nil => rfl
  | cons b l ih =>
    have hb := b.toNat_lt
    show UInt8.ofNat (16 * hv (hexD (b.toNat / 16)) + hv (hexD (b.toNat % 16))) :: pairs (hexL l) = _
    rw [ih, hv_hexD _ (by omega), hv_hexD _ (by omega)]
    congr 1
    apply UInt8.toNat_inj.1
    rw [UInt8.toNat_ofNat']
    omega
theorem pair_w (A B : Nat) (hA : A < 16) (hB : B < 16) : bits .or .i64 ((A : Int) * 16) (B : Int) = ((16 * A + B : Nat) : Int) := by
  have := i64_or_add 4 A B (by omega) (by omega)
  rw [← this]
  congr 1
  omega
theorem ofNat_pair (A B : Nat) (hA : A < 16) (hB : B < 16) : ((UInt8.ofNat (16 * A + B)).toNat : Int) = ((16 * A + B : Nat) : Int) := by
  rw [UInt8.toNat_ofNat']; omega
theorem hexed_bad (l : List UInt8) (c : UInt8) (hm : c ∈ l) (h : isHex c = false) : hexed l = false := by
  unfold hexed
  rw [List.all_eq_false.2 ⟨c, hm, by rw [h]; decide⟩]; rfl
theorem hexed_odd (l : List UInt8) (h : l.length % 2 = 1) : hexed l = false := by
  unfold hexed
  rw [show (l.length % 2 == 0) = false by rw [beq_eq_false_iff_ne]; omega, Bool.and_false]
theorem hexed_iff (l : List UInt8) : hexed l = true ↔ (∀ c ∈ l, isHex c = true) ∧ l.length % 2 = 0 := by
  unfold hexed
  rw [Bool.and_eq_true, List.all_eq_true]
  simp
end Go.Proofs.YtgojmckfabhkaaaDoor.Sums
