/- THE WALK: the statements' head, 'awake', answers true. -/
import Derived.Test.YtilfdeboeohnbaaDeltaApply
import Derived.Test.YtilfdeboeohnbaaDeltaEnds
namespace Go.Proofs.Ytilfdeboeohnbaa
open Go.RowKit Delta

set_option maxHeartbeats 400000 in
theorem awake_any (w : World) : Calls Try.prog 13 #[] w fun e w' => e = .returned (.bool true) ∧ Below w.heap.size w w' := by
  have k1 : ∀ W : World, Calls Try.prog 9 #[.string ⟨#[104, 101, 108, 108, 111]⟩, .string ⟨#[5, 7, 144, 5, 2, 33, 33]⟩, .int .i64 99] W fun e w' => e = .returned (.tuple #[.string ⟨#[104, 101, 108, 108, 111, 33, 33]⟩, .int .i64 0]) ∧ Below W.heap.size W w' :=
    fun W => (apply_any ⟨#[104, 101, 108, 108, 111]⟩ ⟨#[5, 7, 144, 5, 2, 33, 33]⟩ 99 W (by decide) (by decide)).mono fun e w' ⟨he, hw⟩ => ⟨by rw [he]; show Ending.returned (applyV (applyS [104, 101, 108, 108, 111] [5, 7, 144, 5, 2, 33, 33] 99)) = _; rw [known1]; rfl, hw⟩
  have k2 : ∀ W : World, Calls Try.prog 9 #[.string ⟨#[97, 98]⟩, .string ⟨#[2, 2, 145, 1, 2]⟩, .int .i64 9] W fun e w' => e = .returned (.tuple #[.string ⟨#[]⟩, .int .i64 3]) ∧ Below W.heap.size W w' :=
    fun W => (apply_any ⟨#[97, 98]⟩ ⟨#[2, 2, 145, 1, 2]⟩ 9 W (by decide) (by decide)).mono fun e w' ⟨he, hw⟩ => ⟨by rw [he]; show Ending.returned (applyV (applyS [97, 98] [2, 2, 145, 1, 2] 9)) = _; rw [known2]; rfl, hw⟩
  have K1 := Lib.hid k1
  have K2 := Lib.hid k2
  clear k1 k2
  go_enter Try.func13, Try.ntmps13
  go_wp2_with fail
  refine (K1.out _).mono ?_
  rintro e w1 ⟨rfl, hb1⟩
  go_wp2_with fail
  refine (K2.out _).mono ?_
  rintro e w2 ⟨rfl, hb2⟩
  go_wp2
  go_ret
  exact ⟨rfl, hb1.trans (hb2.mono hb1.size)⟩
end Go.Proofs.Ytilfdeboeohnbaa
