/- THE WALKS of leap, Days and length, the program's and the reference's. Conditions: none. -/
import Derived.Test.YtgojmckfabhkaaaDoorWorld
import Derived.Test.YtgojmckfabhkaaaDoorRows
import Derived.WalkKit
import Derived.WalkSpells
import Derived.Handy
import Derived.Lib.Hide
import Derived.IntWalk
import Derived.LoopTactic
import Derived.Deep.QuietTactic
import Derived.BigQuiet
namespace Go.Proofs.YtgojmckfabhkaaaDoor
open Go.RowKit
set_option linter.unusedVariables false

/-- Has the year a day more? -/
def lpB (y : Int) : Bool := y % 4 == 0 && (!(y % 100 == 0) || y % 400 == 0)
def lp (y : Int) : Int := if lpB y then 1 else 0
/-- A month's days; 0: there is no such month. -/
def dim (y m : Int) : Int := if m = 2 then 28 + lp y else if m = 4 ∨ m = 6 ∨ m = 9 ∨ m = 11 then 30 else if 1 ≤ m ∧ m ≤ 12 then 31 else 0

theorem tmod_zero (y k : Int) : (y.tmod k == 0) = (y % k == 0) := by
  have h : y.tmod k = 0 ↔ y % k = 0 := by rw [← Int.dvd_iff_tmod_eq_zero, ← Int.dvd_iff_emod_eq_zero]
  by_cases h1 : y % k = 0
  · rw [h.2 h1, h1]
  · have h2 : ¬ y.tmod k = 0 := fun e => h1 (h.1 e)
    rw [beq_eq_false_iff_ne.2 h1, beq_eq_false_iff_ne.2 h2]
theorem lpB_iff (y : Int) : lpB y = true ↔ y % 4 = 0 ∧ (y % 100 ≠ 0 ∨ y % 400 = 0) := by unfold lpB; simp
theorem lp_le (y : Int) : 0 ≤ lp y ∧ lp y ≤ 1 := by unfold lp; split <;> omega

set_option maxHeartbeats 400000 in
theorem leap_any (y : Int) (w : World) :
    Calls Tryd.prog 70 #[.int .i64 y] w fun e w' => e = .returned (.bool (lpB y)) ∧ w = w' := by
  have t4 := tmod_zero y 4
  have t100 := tmod_zero y 100
  have t400 := tmod_zero y 400
  obtain ⟨b4, h4⟩ : ∃ b, (y % 4 == 0) = b := ⟨_, rfl⟩
  obtain ⟨b100, h100⟩ : ∃ b, (y % 100 == 0) = b := ⟨_, rfl⟩
  obtain ⟨b400, h400⟩ : ∃ b, (y % 400 == 0) = b := ⟨_, rfl⟩
  have hl : lpB y = (b4 && (!b100 || b400)) := by unfold lpB; rw [h4, h100, h400]
  rw [h4] at t4
  rw [h100] at t100
  rw [h400] at t400
  rw [hl]
  have n100 : (y.tmod 100 != 0) = !b100 := by rw [bne, t100]
  clear h4 h100 h400 hl
  go_enter Tryd.func70, Tryd.ntmps70
  cases b4 <;> cases b100 <;> cases b400
  all_goals
    go_wp2
    go_ret
    exact ⟨rfl, rfl⟩

theorem lpB_ref (y : Int) : ((y % 4 == 0 && !(y % 100 == 0)) || y % 400 == 0) = lpB y := by
  unfold lpB
  by_cases h : y % 400 = 0
  · have h4 : y % 4 = 0 := by omega
    simp [h, h4]
  · have h' : (y % 400 == 0) = false := beq_eq_false_iff_ne.2 h
    rw [h']
    simp

theorem dim_two (y : Int) : dim y 2 = if lpB y then 29 else 28 := by unfold dim lp; simp; split <;> rfl

set_option maxHeartbeats 400000 in
theorem days_any (y m : Int) (w : World) :
    Calls Tryd.prog 57 #[.int .i64 y, .int .i64 m] w fun e w' => e = .returned (.int .i64 (dim y m)) ∧ w = w' := by
  by_cases h2 : m = 2
  · subst h2
    rw [dim_two]
    have hl := fun w => leap_any y w
    obtain ⟨b, hb⟩ : ∃ b, lpB y = b := ⟨_, rfl⟩
    rw [hb] at hl ⊢
    clear hb
    go_enter Tryd.func57, Tryd.ntmps57
    go_wp2_with fail
    refine (hl _).mono ?_
    rintro e w' ⟨rfl, rfl⟩
    cases b
    all_goals
      go_wp2
      go_ret
      exact ⟨rfl, rfl⟩
  · obtain ⟨d, hd⟩ : ∃ d, d = dim y m := ⟨_, rfl⟩
    rw [← hd]
    have hd2 : d = if m = 4 ∨ m = 6 ∨ m = 9 ∨ m = 11 then 30 else if 1 ≤ m ∧ m ≤ 12 then 31 else 0 := by rw [hd]; unfold dim; rw [if_neg h2]
    have HD := Lib.hid hd2
    have q2 : (m == 2) = false := beq_eq_false_iff_ne.2 h2
    clear hd hd2 h2
    go_enter Tryd.func57, Tryd.ntmps57
    go_wp2_with fail
    all_goals
      go_ret
      refine ⟨?_, rfl⟩
      rw [HD.out]
      simp only [beq_iff_eq, beq_eq_false_iff_ne] at *
      first
        | (rw [if_pos (by omega)]; rfl)
        | (rw [if_neg (by omega), if_pos (by omega)]; rfl)
        | (rw [if_neg (by omega), if_neg (by omega)]; rfl)

end Go.Proofs.YtgojmckfabhkaaaDoor
