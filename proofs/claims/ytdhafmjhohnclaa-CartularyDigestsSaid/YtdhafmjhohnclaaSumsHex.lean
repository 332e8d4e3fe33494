/- THE WALKS: hexadecimal and base 64. -/
import Derived.Test.YtdhafmjhohnclaaBytes
import Derived.Test.YtdhafmjhohnclaaSumsMath
namespace Go.Proofs.Ytdhafmjhohnclaa
open Go.RowKit Sums


set_option maxHeartbeats 400000 in
theorem hex_any (s : ByteArray) (w : World) (hs : (s.size : Int) ≤ 1000000) :
    Calls Try.prog 20 #[.string s] w fun e w' => e = .returned (.string ⟨(hexL s.data.toList).toArray⟩) ∧ Below w.heap.size w w' := by
  go_enter Try.func20, Try.ntmps20
  go_wp2
  go_loopw [3, 7] (fun v i wr => ∃ k : Nat, k ≤ s.size ∧ i = .int .i64 k ∧ ownsB wr w.heap.size v (hexL (s.data.toList.take k)) ∧ Below w.heap.size w wr) (fun _ i _ => s.size - (intOf i).toNat)
  case atStart => exact ⟨0, Nat.zero_le _, rfl, ownsB_nil _ _, Below.refl _ _⟩
  case round =>
    obtain ⟨k, hk, rfl, hown, hb⟩ := hrel
    by_cases hlt : k < s.size
    · have hby := s[k].toNat_lt
      go_wp2
      have i1 : (0 : Int) ≤ (s[k].toNat : Int) / 16 ∧ (s[k].toNat : Int) / 16 < 16 := by omega
      have i2 : (0 : Int) ≤ (s[k].toNat : Int) % 16 ∧ (s[k].toNat : Int) % 16 < 16 := by omega
      have e2 := low_w s[k]
      have hl : (hexL (s.data.toList.take k)).length + 2 ≤ 140737488355328 := by rw [hexL_length]; have := List.length_take_le k s.data.toList; omega
      have hB := hb.size
      go_region_law (refine step_append_bytes rfl (.tmp 10) (.tmp 21) rfl w.heap.size _ _ [hexDigits[((s[k].toNat : Int) / 16).toNat]'(show _ < 16 by omega), hexDigits[((s[k].toNat : Int) % 16).toNat]'(show _ < 16 by omega)] rfl (hown.alloc _) ⟨wr.heap.size, 0, none⟩ 2 rfl (new_cells wr _ _) hl (by simp; omega) ?_; intro v' w' hown' hg')
      all_goals go_wp2
      all_goals go_roundw
      all_goals first | (simp [intOf]; omega) | skip
      all_goals refine ⟨k + 1, by omega, by go_num, ?_, (hb.alloc hB _).drew.grown hg' (by simp; omega) fun k hk => (hown.lt k hk).1⟩
      all_goals
        rw [hexDigits_int _ i1.1 i1.2, hexDigits_int _ i2.1 i2.2] at hown'
        rw [take_snoc s k hlt, hexL_snoc]
        exact hown'
    · obtain rfl : k = s.size := by omega
      rw [take_all] at hown
      have hc := run_own_string wr _ _ _ hown
      go_wp2
      go_ret
      exact ⟨rfl, hb⟩
end Go.Proofs.Ytdhafmjhohnclaa
