/- THE PLAIN LAW OF NUMBERS AS BYTES: written, read back, either way. No program in sight. No conditions. -/
import Derived.Laws.BitsAllLaws
namespace Go.Proofs.Ytncdaohjjhcaaaa.Sums
open Go

def U64 : Nat := 18446744073709551616
def lb (x i : Nat) : UInt8 := UInt8.ofNat (x / 256 ^ i)
def lits (x n : Nat) : List UInt8 := (List.range n).map (lb x)
def bigs (x n : Nat) : List UInt8 := (lits x n).reverse
def numW (x : Nat) (b : UInt8) : Nat := (256 * x + b.toNat) % U64
def fromBig (l : List UInt8) : Nat := l.foldl numW 0
def litN (l : List UInt8) : Nat := l.foldr (fun b x => b.toNat + 256 * x) 0

theorem lits_length (x n : Nat) : (lits x n).length = n := by simp [lits]
theorem lits_succ (x n : Nat) : lits x (n + 1) = lits x n ++ [lb x n] := by simp [lits, List.range_succ]
theorem lb_big (x i : Nat) (hx : x < U64) (hi : 8 ≤ i) : lb x i = 0 := by
  have h : x / 256 ^ i = 0 := by
    refine Nat.div_eq_of_lt (Nat.lt_of_lt_of_le hx ?_)
    have : 256 ^ 8 ≤ 256 ^ i := Nat.pow_le_pow_right (by omega) hi
    unfold U64
    omega
  unfold lb
  rw [h]; rfl
theorem lb_toNat (x i : Nat) : (lb x i).toNat = x / 256 ^ i % 256 := by unfold lb; rw [UInt8.toNat_ofNat']
theorem bigs_get (x n k : Nat) (h : k < n) : (bigs x n).take (k + 1) = (bigs x n).take k ++ [lb x (n - 1 - k)] := by
  have hl : (bigs x n).length = n := by simp [bigs, lits_length]
  rw [List.take_succ_eq_append_getElem (by omega)]
  congr 2
  simp [bigs, lits]
theorem litN_snoc (l : List UInt8) (b : UInt8) : litN (l ++ [b]) = litN l + b.toNat * 256 ^ l.length := by
  induction l with
  | nil => simp [litN]
  | cons a l ih =>
    simp only [litN, List.cons_append, List.foldr_cons, List.length_cons] at ih ⊢
    rw [ih, Nat.mul_add, Nat.pow_succ, Nat.mul_comm (256 ^ l.length) 256, ← Nat.mul_assoc, ← Nat.mul_assoc, Nat.mul_comm 256 b.toNat]
    omega
theorem litN_lt (l : List UInt8) : litN l < 256 ^ l.length := by
  induction l with
  | nil => decide
  | cons b l ih =>
    have hb := b.toNat_lt
    show b.toNat + 256 * litN l < 256 ^ (l.length + 1)
    rw [Nat.pow_succ]
    omega
theorem litN_lits (x n : Nat) : litN (lits x n) = x % 256 ^ n := by
  induction n with
  | zero => simp [lits, litN, Nat.mod_one]
  | succ n ih => rw [lits_succ, litN_snoc, ih, lits_length, lb_toNat, Nat.mod_pow_succ, Nat.mul_comm (256 ^ n)]
theorem fromBig_snoc (l : List UInt8) (b : UInt8) : fromBig (l ++ [b]) = numW (fromBig l) b := by simp [fromBig]
theorem fromBig_lt (l : List UInt8) : fromBig l < U64 := by
  rcases List.eq_nil_or_concat l with rfl | ⟨m, b, rfl⟩
  · decide
  · rw [List.concat_eq_append, fromBig_snoc]; exact Nat.mod_lt _ (by decide)
theorem fromBig_rev (l : List UInt8) (h : l.length ≤ 8) : fromBig l.reverse = litN l := by
  induction l with
  | nil => rfl
  | cons b l ih =>
    rw [List.length_cons] at h
    rw [List.reverse_cons, fromBig_snoc, ih (by omega), numW]
    show _ = b.toNat + 256 * litN l
    have hlt := litN_lt (b :: l)
    have hle : 256 ^ (b :: l).length ≤ 256 ^ 8 := Nat.pow_le_pow_right (by omega) (by rw [List.length_cons]; omega)
    have e : litN (b :: l) = b.toNat + 256 * litN l := rfl
    rw [Nat.mod_eq_of_lt (by unfold U64; omega)]
    omega
theorem mul_mm (a p f : Nat) : (a % U64 * p + f) % U64 = (a * p + f) % U64 := by
  rw [Nat.add_mod, Nat.mul_mod, Nat.mod_mod, ← Nat.mul_mod, ← Nat.add_mod]
theorem fold_mod (l : List UInt8) : ∀ x : Nat, l.foldl numW x % U64 = (x * 256 ^ l.length + fromBig l) % U64 := by
  induction l with
  | nil => intro x; simp [fromBig]
  | cons b l ih =>
    intro x
    show l.foldl numW (numW x b) % U64 = (x * 256 ^ (l.length + 1) + l.foldl numW (numW 0 b)) % U64
    have h1 : l.foldl numW (numW x b) % U64 = ((256 * x + b.toNat) * 256 ^ l.length + fromBig l) % U64 := (ih (numW x b)).trans (mul_mm _ _ _)
    have h2 : l.foldl numW (numW 0 b) % U64 = ((256 * 0 + b.toNat) * 256 ^ l.length + fromBig l) % U64 := (ih (numW 0 b)).trans (mul_mm _ _ _)
    rw [Nat.add_mod, h2, ← Nat.add_mod]
    rw [h1, Nat.pow_succ]
    congr 1
    rw [Nat.add_mul, Nat.mul_zero, Nat.zero_add, ← Nat.add_assoc]
    congr 2
    rw [Nat.mul_comm 256 x, Nat.mul_assoc, Nat.mul_comm 256]
theorem fromBig_last (l m : List UInt8) (h : m.length = 8) : fromBig (l ++ m) = fromBig m := by
  have h1 : fromBig (l ++ m) = m.foldl numW (fromBig l) := by simp [fromBig]
  have h2 := fold_mod m (fromBig l)
  rw [h, show (256 : Nat) ^ 8 = U64 by decide, Nat.add_comm, Nat.add_mul_mod_self_right, ← h1, Nat.mod_eq_of_lt (fromBig_lt _), Nat.mod_eq_of_lt (fromBig_lt _)] at h2
  exact h2
theorem back_big (x : Nat) (hx : x < U64) : fromBig (bigs x 8) = x := by
  rw [bigs, fromBig_rev _ (by rw [lits_length]; exact Nat.le_refl _), litN_lits]
  exact Nat.mod_eq_of_lt hx
theorem back_little (x : Nat) (hx : x < U64) : litN (lits x 8) = x := by
  rw [litN_lits]
  exact Nat.mod_eq_of_lt hx

/-! The walk's own spelling. -/
theorem big_w (x : Nat) (b : UInt8) : bits .or .u64 (IntKind.u64.wrap ((x : Int) * 256)) (b.toNat : Int) = ((numW x b : Nat) : Int) := by
  rw [IntKind.wrap_u64]
  have hb := b.toNat_lt
  have e1 : (x : Int) * 256 % 18446744073709551616 = ((2 ^ 8 * (x % 72057594037927936) : Nat) : Int) := by omega
  rw [e1, u64_or_nat _ _ (by omega) (by omega), ← Nat.two_pow_add_eq_or_of_lt (show b.toNat < 2 ^ 8 by omega)]
  unfold numW U64
  omega
theorem num_w (x : Nat) (b : UInt8) : IntKind.u64.wrap (IntKind.u64.wrap (256 * (x : Int)) + (b.toNat : Int)) = ((numW x b : Nat) : Int) := by
  rw [IntKind.wrap_u64, IntKind.wrap_u64]
  unfold numW U64
  omega
theorem little_w (x k : Nat) (b : UInt8) (hk : k < 8) (hx : x < 256 ^ k) : bits .or .u64 (x : Int) (IntKind.u64.wrap ((b.toNat : Int) * 2 ^ (8 * k))) = ((x + b.toNat * 256 ^ k : Nat) : Int) := by
  rw [IntKind.wrap_u64]
  have hb := b.toNat_lt
  have h256 : (256 : Nat) ^ k = 2 ^ (8 * k) := by rw [Nat.pow_mul]
  have hp : 2 ^ (8 * k) * 256 ≤ 18446744073709551616 := by
    have : 2 ^ (8 * k) * 256 = 2 ^ (8 * k + 8) := by rw [Nat.pow_add]
    rw [this]
    exact (Nat.pow_le_pow_right (by omega) (show 8 * k + 8 ≤ 64 by omega) : 2 ^ (8 * k + 8) ≤ 2 ^ 64)
  rw [h256] at hx ⊢
  have hlt : 2 ^ (8 * k) * b.toNat + x < 18446744073709551616 := by
    have : 2 ^ (8 * k) * b.toNat ≤ 2 ^ (8 * k) * 255 := Nat.mul_le_mul_left _ (by omega)
    omega
  have e1 : (b.toNat : Int) * 2 ^ (8 * k) % 18446744073709551616 = ((2 ^ (8 * k) * b.toNat : Nat) : Int) := by
    have : (b.toNat : Int) * 2 ^ (8 * k) = ((2 ^ (8 * k) * b.toNat : Nat) : Int) := by
      rw [Int.natCast_mul, Int.mul_comm]; simp
    rw [this]
    generalize 2 ^ (8 * k) * b.toNat = z at hlt
    omega
  rw [e1]
  have h1 : 2 ^ (8 * k) * b.toNat < 18446744073709551616 := by omega
  have h2 : x < 18446744073709551616 := by omega
  rw [u64_or_nat _ _ h2 h1, Nat.or_comm, ← Nat.two_pow_add_eq_or_of_lt hx, Nat.mul_comm (2 ^ (8 * k)), Nat.add_comm]
theorem quo_w (x i : Nat) (hx : x < U64) : IntKind.u64.wrap (((x / 256 ^ i : Nat) : Int) / 256) = ((x / 256 ^ (i + 1) : Nat) : Int) := by
  have h : x / 256 ^ i ≤ x := Nat.div_le_self _ _
  have e : x / 256 ^ (i + 1) = x / 256 ^ i / 256 := by rw [Nat.div_div_eq_div_mul, Nat.pow_succ]
  rw [IntKind.wrap_u64, e]
  unfold U64 at hx
  generalize x / 256 ^ i = y at h
  omega
theorem byte_w (x i : Nat) : (x : Int) / 2 ^ (8 * i) % 256 = ((lb x i).toNat : Int) := by
  rw [lb_toNat, show (256 : Nat) ^ i = 2 ^ (8 * i) by rw [Nat.pow_mul]]
  simp
theorem low_byte_w (x i : Nat) : ((x / 256 ^ i : Nat) : Int) % 256 = ((lb x i).toNat : Int) := by
  rw [lb_toNat]; omega
end Go.Proofs.Ytncdaohjjhcaaaa.Sums
