/- PLAIN LAWS of deltas: which errors there are; what comes out is just as long as it says. No conditions. -/
import Derived.Test.YtilfdeboeohnbaaDeltaMath
namespace Go.Proofs.Ytilfdeboeohnbaa.Delta
open Go Go.RowKit

theorem sz_err6 : ∀ (l : List UInt8) (i n x : Nat), sz l i n = .error x → 0 < x ∧ x ≤ 6
  | [], i, n, x, h => by rw [sz] at h; injection h with h; omega
  | c :: l, i, n, x, h => by
    rw [sz] at h
    split at h
    · injection h with h; omega
    · split at h
      · cases h
      · exact sz_err6 l _ _ _ h
theorem cp_err6 (c : Nat) : ∀ (m : Nat) (l : List UInt8) (o n x : Nat), cp c m l o n = .error x → 0 < x ∧ x ≤ 6
  | 0, l, o, n, x, h => by rw [cp.eq_1] at h; cases h
  | m + 1, [], o, n, x, h => by
    rw [cp.eq_2] at h
    split at h
    · exact cp_err6 c m _ _ _ _ h
    · injection h with h; omega
  | m + 1, y :: r, o, n, x, h => by
    rw [cp.eq_3] at h
    split at h
    · exact cp_err6 c m _ _ _ _ h
    · split at h
      · exact cp_err6 c m _ _ _ _ h
      · exact cp_err6 c m _ _ _ _ h
theorem piece_err6 (base : List UInt8) (c : UInt8) (r : List UInt8) (x : Nat) (h : piece base c r = .error x) : 0 < x ∧ x ≤ 6 := by
  unfold piece at h
  split at h
  · injection h with h; omega
  split at h
  · split at h
    · injection h with h; omega
    · cases h
  split at h
  · rename_i y hc
    injection h with h
    subst h
    exact cp_err6 _ _ _ _ _ _ hc
  · split at h
    · injection h with h; omega
    · cases h
theorem ap_ends (base : List UInt8) (n : Nat) : ∀ (f : Nat) (l out : List UInt8), out.length ≤ n → (ap base n f l out).2 ≤ 6 ∧ ((ap base n f l out).2 ≠ 0 → (ap base n f l out).1 = []) ∧ ((ap base n f l out).2 = 0 → (ap base n f l out).1.length = n)
  | 0, l, out, ho => by
    rw [ap]
    · split
      · exact ⟨by omega, fun _ => rfl, fun h => by simp at h⟩
      · exact ⟨by omega, fun h => absurd rfl h, fun _ => by simp only []; omega⟩
    · intro _ _ _ h; cases h
  | f + 1, [], out, ho => by
    rw [ap_end]
    split
    · exact ⟨by omega, fun _ => rfl, fun h => by simp at h⟩
    · exact ⟨by omega, fun h => absurd rfl h, fun _ => by simp only []; omega⟩
  | f + 1, c :: r, out, ho => by
    rw [ap]
    split
    · rename_i x h
      have := piece_err6 _ _ _ _ h
      exact ⟨this.2, fun _ => rfl, fun h => by simp only [] at h; omega⟩
    · split
      · exact ⟨by omega, fun _ => rfl, fun h => by simp at h⟩
      · exact ap_ends base n f _ _ (by rw [List.length_append]; omega)
theorem sizesS_err6 (l : List UInt8) : (sizesS l).2.2.2 ≤ 6 := by
  unfold sizesS
  split
  · rename_i h; exact (sz_err6 _ _ _ _ h).2
  · split
    · rename_i h; exact (sz_err6 _ _ _ _ h).2
    · exact Nat.zero_le _
theorem applyS_err6 (base d : List UInt8) (most : Int) : (applyS base d most).2 ≤ 6 := by
  unfold applyS
  split
  · exact sizesS_err6 d
  split
  · exact (by decide : 4 ≤ 6)
  split
  · exact (by decide : 2 ≤ 6)
  exact (ap_ends _ _ _ _ _ (Nat.zero_le _)).1
/-- The sizes are wrong: the delta is refused for that. -/
theorem applyS_bad (base d : List UInt8) (most : Int) (h : (sizesS d).2.2.2 ≠ 0) : applyS base d most = ([], (sizesS d).2.2.2) := by unfold applyS; rw [if_pos h]
theorem applyS_other (base d : List UInt8) (most : Int) (h : (sizesS d).2.2.2 = 0) (h2 : (sizesS d).1 ≠ base.length) : applyS base d most = ([], 4) := by unfold applyS; rw [if_neg (fun e => e h), if_pos h2]
theorem applyS_fits (base d : List UInt8) (most : Int) (h0 : (applyS base d most).2 = 0) : (applyS base d most).1.length = (sizesS d).2.1 ∧ ((sizesS d).2.1 : Int) ≤ most := by
  unfold applyS at h0 ⊢
  split
  · rename_i h
    rw [if_pos h] at h0
    exact absurd h0 h
  rename_i h
  rw [if_neg h] at h0
  split
  · rename_i h
    rw [if_pos h] at h0
    simp at h0
  rename_i h
  rw [if_neg h] at h0
  split
  · rename_i h
    rw [if_pos h] at h0
    simp at h0
  rename_i h
  rw [if_neg h] at h0
  exact ⟨(ap_ends _ _ _ _ _ (Nat.zero_le _)).2.2 h0, by omega⟩
theorem known1 : applyS [104, 101, 108, 108, 111] [5, 7, 144, 5, 2, 33, 33] 99 = ([104, 101, 108, 108, 111, 33, 33], 0) := by decide +kernel
theorem known2 : applyS [97, 98] [2, 2, 145, 1, 2] 9 = ([], 3) := by decide +kernel
end Go.Proofs.Ytilfdeboeohnbaa.Delta
