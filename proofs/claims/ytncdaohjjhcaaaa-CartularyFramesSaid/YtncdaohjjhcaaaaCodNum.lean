/- SMALL LAWS ON NUMBERS OF 64 BITS: what the reader and the writer of bits reckon. No program in sight. No conditions. -/
import Derived.Test.YtncdaohjjhcaaaaCodMath
import Derived.Laws.BitsAllLaws
namespace Go.Proofs.Ytncdaohjjhcaaaa
open Go Sums

theorem pow_le' (n k : Nat) (h : n ≤ k) : 2 ^ n ≤ 2 ^ k := Nat.pow_le_pow_right (by decide) h
theorem mask_w (k : Nat) (hk : k ≤ 32) : IntKind.u64.wrap (IntKind.u64.wrap ((2 : Int) ^ k) - 1) = ((2 ^ k - 1 : Nat) : Int) := by
  have h1 := pow_le' k 32 hk
  have h0 := Nat.two_pow_pos k
  have e : ((2 : Int) ^ k) = ((2 ^ k : Nat) : Int) := by simp
  rw [e, IntKind.wrap_u64, IntKind.wrap_u64]
  generalize 2 ^ k = y at h1 h0
  omega
theorem and_w (x k : Nat) (hk : k ≤ 32) (hx : x < 18446744073709551616) : bits .and .u64 (x : Int) (IntKind.u64.wrap (IntKind.u64.wrap ((2 : Int) ^ k) - 1)) = ((x % 2 ^ k : Nat) : Int) := by
  rw [mask_w k hk]
  have h1 := pow_le' k 32 hk
  rw [u64_and_nat _ _ hx (by omega), Nat.and_two_pow_sub_one_eq_mod]
theorem or_w (H y n0 : Nat) (hH : H < 2 ^ n0) (hy : y * 2 ^ n0 + H < 18446744073709551616) : bits .or .u64 (H : Int) (IntKind.u64.wrap ((y : Int) * (2 : Int) ^ n0)) = ((H + y * 2 ^ n0 : Nat) : Int) := by
  have e : (y : Int) * (2 : Int) ^ n0 = ((y * 2 ^ n0 : Nat) : Int) := by simp
  rw [e, IntKind.wrap_u64, show (((y * 2 ^ n0 : Nat) : Int) % 18446744073709551616) = ((y * 2 ^ n0 : Nat) : Int) by omega]
  rw [u64_or_nat _ _ (by omega) (by omega), Nat.mul_comm y, Nat.or_comm, ← Nat.two_pow_add_eq_or_of_lt hH, Nat.add_comm]
theorem put_w (H x k n0 : Nat) (hH : H < 2 ^ n0) (hn : n0 < 8) (hk : k ≤ 32) (hx : x < 4294967296) :
    bits .or .u64 (H : Int) (IntKind.u64.wrap (bits .and .u64 (IntKind.u64.wrap (x : Int)) (IntKind.u64.wrap (IntKind.u64.wrap ((2 : Int) ^ k) - 1)) * (2 : Int) ^ n0)) = ((H + x % 2 ^ k * 2 ^ n0 : Nat) : Int) := by
  have hw : IntKind.u64.wrap (x : Int) = (x : Int) := by rw [IntKind.wrap_u64]; omega
  rw [hw, and_w x k hk (by omega)]
  refine or_w H _ n0 hH ?_
  have h1 : x % 2 ^ k ≤ x := Nat.mod_le _ _
  have h2 := pow_le' n0 7 (by omega)
  have h3 := Nat.mul_le_mul (Nat.le_trans h1 (show x ≤ 4294967296 by omega)) h2
  omega
theorem byte_lits (x i : Nat) : ((x / 2 ^ (8 * i) : Nat) : Int) % 256 = ((lb x i).toNat : Int) := by
  rw [lb_toNat, show (256 : Nat) ^ i = 2 ^ (8 * i) by rw [Nat.pow_mul]]
  omega
theorem shr8 (x i : Nat) : x / 2 ^ (8 * i) / 256 = x / 2 ^ (8 * (i + 1)) := by
  rw [Nat.div_div_eq_div_mul, show 8 * (i + 1) = 8 * i + 8 by omega, Nat.pow_add]
theorem rest_lt {a : St} (h : a.ok) : a.v / 2 ^ (8 * (a.n / 8)) < 2 ^ (a.n % 8) := by
  rw [Nat.div_lt_iff_lt_mul (Nat.two_pow_pos _), ← Nat.pow_add, show a.n % 8 + 8 * (a.n / 8) = a.n by omega]
  exact h
/-- What waits, with what was put. -/
theorem rest_put (a : St) (k y : Nat) : (a.put k y).v / 2 ^ (8 * (a.n / 8)) = a.v / 2 ^ (8 * (a.n / 8)) + y * 2 ^ (a.n % 8) := by
  have e : 2 ^ a.n = 2 ^ (8 * (a.n / 8)) * 2 ^ (a.n % 8) := by rw [← Nat.pow_add]; congr 1; omega
  unfold St.put
  show (a.v + y * 2 ^ a.n) / 2 ^ (8 * (a.n / 8)) = _
  rw [e, Nat.mul_left_comm, Nat.add_mul_div_left _ _ (Nat.two_pow_pos _)]
/-- The bytes that stand are as they were. -/
theorem lits_put (a : St) (h : a.ok) (k y : Nat) : lits (a.put k y).v (a.n / 8) = lits a.v (a.n / 8) := by
  apply lits_same
  have e : 2 ^ a.n = 256 ^ (a.n / 8) * 2 ^ (a.n % 8) := by
    rw [show (256 : Nat) = 2 ^ 8 by decide, ← Nat.pow_mul, ← Nat.pow_add]
    congr 1
    omega
  unfold St.put
  show (a.v + y * 2 ^ a.n) % 256 ^ (a.n / 8) = _
  rw [e, Nat.mul_left_comm, Nat.add_mul_mod_self_left]
end Go.Proofs.Ytncdaohjjhcaaaa
