/- THE PLAIN LAW OF A SUM THAT IS ADDED UP TEXT BY TEXT: whole blocks are eaten, the rest waits; no program in sight. No conditions. -/
import Derived.Test.YtdhafmjhohnclaaShaMath2
namespace Go.Proofs.Ytdhafmjhohnclaa
open Go Sums
set_option linter.unusedVariables false

abbrev Blk := ByteArray → List (BitVec 32) → List (BitVec 32)
/-- The i-th block of 64 bytes. -/
def bl (l : List UInt8) (i : Nat) : ByteArray := ⟨((l.drop (64 * i)).take 64).toArray⟩
def eat (F : Blk) (S : List (BitVec 32)) (l : List UInt8) : Nat → List (BitVec 32)
  | 0 => S
  | i + 1 => F (bl l i) (eat F S l i)
def full (F : Blk) (S : List (BitVec 32)) (l : List UInt8) : List (BitVec 32) := eat F S l (l.length / 64)
def rst (l : List UInt8) : List UInt8 := l.drop (64 * (l.length / 64))
theorem rst_len (l : List UInt8) : (rst l).length = l.length % 64 := by
  unfold rst
  rw [List.length_drop]
  omega
theorem bl_size (l : List UInt8) (i : Nat) (h : 64 * i + 64 ≤ l.length) : (bl l i).size = 64 := by
  show (((l.drop (64 * i)).take 64).toArray).size = 64
  simp
  omega
theorem bl_append (a t : List UInt8) (i : Nat) (h : 64 * i + 64 ≤ a.length) : bl (a ++ t) i = bl a i := by
  unfold bl
  rw [List.drop_append_of_le_length (by omega), List.take_append_of_le_length (by rw [List.length_drop]; omega)]
theorem eat_append (F : Blk) (S : List (BitVec 32)) (a t : List UInt8) : ∀ i, 64 * i ≤ a.length → eat F S (a ++ t) i = eat F S a i
  | 0, _ => rfl
  | i + 1, h => by rw [eat, eat, eat_append F S a t i (by omega), bl_append a t i (by omega)]
theorem bl_drop (l : List UInt8) (q i : Nat) : bl (l.drop (64 * q)) i = bl l (q + i) := by
  unfold bl
  rw [List.drop_drop]
  rw [show 64 * q + 64 * i = 64 * (q + i) by omega]
theorem eat_drop (F : Blk) (S : List (BitVec 32)) (l : List UInt8) (q : Nat) : ∀ i, eat F (eat F S l q) (l.drop (64 * q)) i = eat F S l (q + i)
  | 0 => rfl
  | i + 1 => by rw [eat, eat_drop F S l q i, bl_drop, ← Nat.add_assoc, eat]
theorem rst_eq (a t : List UInt8) : rst a ++ t = (a ++ t).drop (64 * (a.length / 64)) := by
  unfold rst
  rw [List.drop_append_of_le_length (by omega)]
theorem div_more (a t : List UInt8) : a.length / 64 + (rst a ++ t).length / 64 = (a ++ t).length / 64 := by
  rw [List.length_append, List.length_append, rst_len]
  omega
/-- What is written behind what was written: as all together. -/
theorem full_append (F : Blk) (S : List (BitVec 32)) (a t : List UInt8) : full F (full F S a) (rst a ++ t) = full F S (a ++ t) := by
  unfold full
  rw [← eat_append F S a t (a.length / 64) (by omega)]
  have h := eat_drop F S (a ++ t) (a.length / 64) ((rst a ++ t).length / 64)
  rw [← rst_eq] at h
  rw [h, div_more]
theorem rst_append (a t : List UInt8) : rst (rst a ++ t) = rst (a ++ t) := by
  have h := rst_eq a t
  unfold rst at h ⊢
  rw [h, List.drop_drop, ← h]
  have := div_more a t
  unfold rst at this
  rw [← this, Nat.mul_add]
theorem eat_len (F : Blk) (k : Nat) (hF : ∀ s h, (F s h).length = k) (S : List (BitVec 32)) (hS : S.length = k) (l : List UInt8) : ∀ i, (eat F S l i).length = k
  | 0 => hS
  | i + 1 => hF _ _

/-- The zeros behind the first byte of the padding. -/
def zs (r : Nat) : Nat := (119 - r % 64) % 64
theorem zs_end (r i : Nat) (h : i ≤ zs r) : (r + (1 + i)) % 64 = 56 ↔ i = zs r := by unfold zs at *; omega
/-- The first j of the eight bytes of a number. -/
def be8 (m : Nat) : Nat → List UInt8
  | 0 => []
  | j + 1 => be8 m j ++ [UInt8.ofNat (m / 2 ^ (56 - 8 * j))]
theorem be8_len (m : Nat) : ∀ j, (be8 m j).length = j
  | 0 => rfl
  | j + 1 => by rw [be8, List.length_append, be8_len m j]; rfl
def padOf (n : Nat) : List UInt8 := (128 :: List.replicate (zs n) 0) ++ be8 (n * 8) 8
def bytes4 (x : BitVec 32) : List UInt8 := [UInt8.ofNat (x.toNat / 16777216), UInt8.ofNat (x.toNat / 65536), UInt8.ofNat (x.toNat / 256), UInt8.ofNat x.toNat]
def outW (l : List (BitVec 32)) : List UInt8 := l.flatMap bytes4
theorem outW_snoc (l : List (BitVec 32)) (x : BitVec 32) : outW (l ++ [x]) = outW l ++ bytes4 x := by simp [outW]
theorem outW_len : ∀ l : List (BitVec 32), (outW l).length = 4 * l.length
  | [] => rfl
  | x :: r => by
    have h := outW_len r
    unfold outW at h ⊢
    rw [List.flatMap_cons, List.length_append, h]
    simp [bytes4]
    omega
/-- The sum's bytes. -/
def digest (F : Blk) (S : List (BitVec 32)) (l : List UInt8) : List UInt8 := outW (full F S (l ++ padOf l.length))
theorem digest_len (F : Blk) (k : Nat) (hF : ∀ s h, (F s h).length = k) (S : List (BitVec 32)) (hS : S.length = k) (l : List UInt8) : (digest F S l).length = 4 * k := by
  unfold digest
  rw [outW_len]
  unfold full
  rw [eat_len F k hF S hS]
theorem blk1_len (s : ByteArray) (h : List (BitVec 32)) : (blk1 s h).length = 5 := rfl
theorem blk2_len (s : ByteArray) (h : List (BitVec 32)) : (blk2 s h).length = 8 := rfl
end Go.Proofs.Ytdhafmjhohnclaa
