/- PLAIN LAWS on the seven numbers of a copy, as the reference reads them. No conditions. -/
import Derived.Test.YtilfdeboeohnbaaDeltaMath
namespace Go.Proofs.Ytilfdeboeohnbaa.Delta
open Go Go.RowKit

def lo (x : List Nat) : Nat := x.getD 0 0 + 256 * x.getD 1 0 + 65536 * x.getD 2 0 + 16777216 * x.getD 3 0
def hi (x : List Nat) : Nat := x.getD 4 0 + 256 * x.getD 5 0 + 65536 * x.getD 6 0

theorem lo_snoc (x : List Nat) (b i : Nat) (hx : x.length = i) (hi4 : i < 4) : lo (x ++ [b]) = lo x + b * 256 ^ i := by
  match x, hx with
  | [], rfl => simp [lo]
  | [_], rfl => simp [lo]; omega
  | [_, _], rfl => simp [lo]; omega
  | [_, _, _], rfl => simp [lo]; omega
  | _ :: _ :: _ :: _ :: _, rfl => simp at hi4; omega
theorem lo_keep (x : List Nat) (b i : Nat) (hx : x.length = i) (hi4 : ¬ i < 4) : lo (x ++ [b]) = lo x := by
  match x, hx with
  | [], rfl => simp at hi4
  | [_], rfl => simp at hi4
  | [_, _], rfl => simp at hi4
  | [_, _, _], rfl => simp at hi4
  | _ :: _ :: _ :: _ :: _, rfl => simp [lo]
theorem hi_keep (x : List Nat) (b i : Nat) (hx : x.length = i) (hi4 : i < 4) : hi (x ++ [b]) = hi x := by
  match x, hx with
  | [], rfl => simp [hi]
  | [_], rfl => simp [hi]
  | [_, _], rfl => simp [hi]
  | [_, _, _], rfl => simp [hi]
  | _ :: _ :: _ :: _ :: _, rfl => simp at hi4; omega
theorem hi_snoc (x : List Nat) (b i : Nat) (hx : x.length = i) (hi4 : ¬ i < 4) (h7 : i < 7) : hi (x ++ [b]) = hi x + b * 256 ^ (i - 4) := by
  match x, hx with
  | [], rfl => simp at hi4
  | [_], rfl => simp at hi4
  | [_, _], rfl => simp at hi4
  | [_, _, _], rfl => simp at hi4
  | [_, _, _, _], rfl => simp [hi]
  | [_, _, _, _, _], rfl => simp [hi]; omega
  | [_, _, _, _, _, _], rfl => simp [hi]; omega
  | _ :: _ :: _ :: _ :: _ :: _ :: _ :: _, rfl => simp at h7; omega
theorem lo_zero (x : List Nat) (i : Nat) (hx : x.length = i) : lo (x ++ [0]) = lo x := by
  by_cases h : i < 4
  · rw [lo_snoc x 0 i hx h]; omega
  · exact lo_keep x 0 i hx h
theorem hi_zero (x : List Nat) (i : Nat) (hx : x.length = i) (h7 : i < 7) : hi (x ++ [0]) = hi x := by
  by_cases h : i < 4
  · exact hi_keep x 0 i hx h
  · rw [hi_snoc x 0 i hx h h7]; omega
theorem cp_round0 (c i : Nat) (x : List Nat) (l : List UInt8) (hx : x.length = i) (h7 : i < 7) (hb : c / 2 ^ i % 2 = 0) : cp c (7 - i) l (lo x) (hi x) = cp c (7 - (i + 1)) l (lo (x ++ [0])) (hi (x ++ [0])) := by
  rw [cp_skip c i l _ _ h7 hb, lo_zero x i hx, hi_zero x i hx h7]
theorem cp_round1 (c i : Nat) (x : List Nat) (b : UInt8) (l : List UInt8) (hx : x.length = i) (h7 : i < 7) (hb : ¬ c / 2 ^ i % 2 = 0) : cp c (7 - i) (b :: l) (lo x) (hi x) = cp c (7 - (i + 1)) l (lo (x ++ [b.toNat])) (hi (x ++ [b.toNat])) := by
  by_cases h : i < 4
  · rw [cp_lo c i b l _ _ h7 h hb, lo_snoc x _ i hx h, hi_keep x _ i hx h]
  · rw [cp_hi c i b l _ _ h7 h hb, lo_keep x _ i hx h, hi_snoc x _ i hx h h7]
theorem cp_done (c : Nat) (l : List UInt8) (o n : Nat) : cp c 0 l o n = .ok (o, n, l) := by rw [cp.eq_1]
end Go.Proofs.Ytilfdeboeohnbaa.Delta
