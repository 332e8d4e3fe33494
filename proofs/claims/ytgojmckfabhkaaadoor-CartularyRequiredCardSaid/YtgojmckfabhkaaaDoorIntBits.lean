/- BITS OF AN int THAT IS NOT NEGATIVE. No program in sight. Conditions: each number is below 2^63. -/
import Derived.Laws.BitsAllLaws
namespace Go.Proofs.YtgojmckfabhkaaaDoor
open Go

theorem wrap_i64_nat (n : Nat) (h : n < 9223372036854775808) : IntKind.i64.wrap (n : Int) = (n : Int) := by
  simp [IntKind.wrap, IntKind.bits, IntKind.signed]
  split <;> omega
theorem i64_or_nat (a b : Nat) (ha : a < 9223372036854775808) (hb : b < 9223372036854775808) : bits .or .i64 (a : Int) (b : Int) = ((a ||| b : Nat) : Int) := by
  have hx : a ||| b < 2 ^ 63 := Nat.or_lt_two_pow (by omega) (by omega)
  show IntKind.i64.wrap ((BitVec.ofInt 64 (a : Int) ||| BitVec.ofInt 64 (b : Int)).toNat : Int) = _
  rw [BitVec.toNat_or, ofInt_u64 a (by omega), ofInt_u64 b (by omega)]
  exact wrap_i64_nat _ (by omega)
theorem i64_and_nat (a b : Nat) (ha : a < 9223372036854775808) (hb : b < 9223372036854775808) : bits .and .i64 (a : Int) (b : Int) = ((a &&& b : Nat) : Int) := by
  have hx : a &&& b < 2 ^ 63 := Nat.and_lt_two_pow _ (by omega)
  show IntKind.i64.wrap ((BitVec.ofInt 64 (a : Int) &&& BitVec.ofInt 64 (b : Int)).toNat : Int) = _
  rw [BitVec.toNat_and, ofInt_u64 a (by omega), ofInt_u64 b (by omega)]
  exact wrap_i64_nat _ (by omega)
theorem i64_mask (a n : Nat) (ha : a < 9223372036854775808) (hn : n < 63) : bits .and .i64 (a : Int) ((2 ^ n - 1 : Nat) : Int) = ((a % 2 ^ n : Nat) : Int) := by
  have h : 2 ^ n - 1 < 9223372036854775808 := by
    have : 2 ^ n ≤ 2 ^ 63 := Nat.pow_le_pow_right (by omega) (by omega)
    omega
  rw [i64_and_nat _ _ ha h, Nat.and_two_pow_sub_one_eq_mod]
/-- Two numbers whose bits lie apart: '|' adds. -/
theorem i64_or_add (n a b : Nat) (hb : b < 2 ^ n) (h : 2 ^ n * a + b < 9223372036854775808) : bits .or .i64 ((2 ^ n * a : Nat) : Int) (b : Int) = ((2 ^ n * a + b : Nat) : Int) := by
  rw [i64_or_nat _ _ (by omega) (by omega), ← Nat.two_pow_add_eq_or_of_lt hb]
end Go.Proofs.YtgojmckfabhkaaaDoor
