/- THE WALK of 'SumsSums'. -/
import Derived.Test.YtdhafmjhohnclaaSumsAwake
namespace Go.Proofs.Ytdhafmjhohnclaa
open Go.RowKit Sums

theorem few_size (s : ByteArray) (n : Nat) : (fewB s n).size ≤ n := by
  unfold fewB
  split
  · rw [ByteArray.size_extract]; omega
  · omega

theorem sumsSums_walk (t : ByteArray) (ht : t.size ≤ maxLen) (w : World) :
    Calls Try.prog 3 #[.string t] w fun e w' => e = .returned (.bool true) ∧ Below w.heap.size w w' := by
  unfold maxLen at ht
  obtain ⟨f, hf⟩ : ∃ f, f = fewB t 2000 := ⟨_, rfl⟩
  have hs : (f.size : Int) ≤ 9223372036854775807 := by have := few_size t 2000; rw [hf]; omega
  have c0 := few_any t 2000 w (by omega) (by omega)
  rw [← hf] at c0
  have C0 := Lib.hid c0
  clear c0 hf
  go_enter Try.func3, Try.ntmps3
  go_wp2_with fail
  refine C0.out.mono ?_
  rintro e w1 ⟨rfl, rfl⟩
  go_wp2_with fail
  refine (awake_any _).mono ?_
  rintro e w1 ⟨rfl, hb1⟩
  go_wp2_with fail
  refine (crc32_any _ _ hs).mono ?_
  rintro e w2 ⟨rfl, hb2⟩
  go_wp2_with fail
  refine (refCrc_any _ _ hs).mono ?_
  rintro e w3 ⟨rfl, rfl⟩
  go_wp2_with fail
  refine (adler32_any _ _ hs).mono ?_
  rintro e w3 ⟨rfl, hb3⟩
  go_wp2_with fail
  refine (refAdler_any _ _ hs).mono ?_
  rintro e w4 ⟨rfl, rfl⟩
  go_wp2
  go_ret
  exact ⟨rfl, (hb1.trans (hb2.mono hb1.size)).trans (hb3.mono (Nat.le_trans hb1.size hb2.size))⟩
end Go.Proofs.Ytdhafmjhohnclaa
