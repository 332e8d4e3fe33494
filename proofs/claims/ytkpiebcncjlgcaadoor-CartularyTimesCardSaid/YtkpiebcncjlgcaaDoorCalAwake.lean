/- THE WALK: the statements' head, 'awake', answers true. Conditions: the library's table stands. -/
import Derived.Test.YtkpiebcncjlgcaaDoorCalStamp
import Derived.Test.YtkpiebcncjlgcaaDoorCalUnstamp
namespace Go.Proofs.YtkpiebcncjlgcaaDoor
open Go.RowKit
set_option linter.unusedVariables false

theorem stamp_known : stampOf 1136214245 = [50, 48, 48, 54, 48, 49, 48, 50, 49, 53, 48, 52, 48, 53] := by
  have e1 : stampOf 1136214245 = stampL 2006 1 2 15 4 5 := by decide +kernel
  rw [e1]
  have h2006 : Lib.decDigits 2006 = [50, 48, 48, 54] := by rw [dig_big (by omega), dig_big (by omega), dig_big (by omega), Lib.decDigits_one (by omega)]; rfl
  have h15 : Lib.decDigits 15 = [49, 53] := by rw [dig_big (by omega), Lib.decDigits_one (by omega)]; rfl
  have h1 : Lib.decDigits 1 = [49] := by rw [Lib.decDigits_one (by omega)]; rfl
  have h2 : Lib.decDigits 2 = [50] := by rw [Lib.decDigits_one (by omega)]; rfl
  have h4 : Lib.decDigits 4 = [52] := by rw [Lib.decDigits_one (by omega)]; rfl
  have h5 : Lib.decDigits 5 = [53] := by rw [Lib.decDigits_one (by omega)]; rfl
  show padL 4 (Lib.decDigits 2006) ++ padL 2 (Lib.decDigits 1) ++ padL 2 (Lib.decDigits 2) ++ padL 2 (Lib.decDigits 15) ++ padL 2 (Lib.decDigits 4) ++ padL 2 (Lib.decDigits 5) = _
  rw [h2006, h15, h1, h2, h4, h5]
  rfl
theorem unstamp_known : unstampR ⟨#[50, 48, 48, 48, 48, 50, 50, 57, 48, 48, 48, 48, 48, 48]⟩ (951782400, 0) := by
  have hd : digs ⟨#[50, 48, 48, 48, 48, 50, 50, 57, 48, 48, 48, 48, 48, 48]⟩ := by
    unfold digs
    decide
  refine ⟨fun h => absurd hd h, fun _ => ?_⟩
  have e : okD 2000 2 29 0 0 0 := by
    have : dim 2000 2 = 29 := by decide
    exact ⟨by omega, by omega, by omega, by rw [this]; omega, by omega, by omega, by omega, by omega, by omega, by omega⟩
  have e2 : secF 2000 2 29 0 0 0 = 951782400 := by decide
  exact ⟨fun _ => by show _ = (secF 2000 2 29 0 0 0, 0); rw [e2], fun h => absurd e h⟩

set_option maxHeartbeats 400000 in
theorem awake_any (w : World) (ht : tabOk w) : Calls Tryd.prog 11 #[] w fun e w' => e = .returned (.bool true) ∧ Below w.heap.size w w' := by
  have k1 : Calls Tryd.prog 16 #[.int .i64 1136214245] w fun e w' => e = .returned (.tuple #[.string ⟨#[50, 48, 48, 54, 48, 49, 48, 50, 49, 53, 48, 52, 48, 53]⟩, .int .i64 0]) ∧ Below w.heap.size w w' := by
    have := stamp_in 1136214245 w (by omega) (by omega) ht
    rw [stamp_known] at this
    exact this
  have k2 : ∀ W : World, Calls Tryd.prog 14 #[.string ⟨#[50, 48, 48, 48, 48, 50, 50, 57, 48, 48, 48, 48, 48, 48]⟩] W fun e w' => e = .returned (.tuple #[.int .i64 951782400, .int .i64 0]) ∧ Below W.heap.size W w' :=
    fun W => unstamp_14 _ W (by rfl) (951782400, 0) unstamp_known
  have K1 := Lib.hid k1
  have K2 := Lib.hid k2
  clear k1 k2 ht
  go_enter Tryd.func11, Tryd.ntmps11
  go_wp2_with fail
  refine K1.out.mono ?_
  rintro e w1 ⟨rfl, hb1⟩
  go_wp2_with fail
  refine (K2.out _).mono ?_
  rintro e w2 ⟨rfl, hb2⟩
  go_wp2
  go_ret
  exact ⟨rfl, hb1.trans (hb2.mono hb1.size)⟩
end Go.Proofs.YtkpiebcncjlgcaaDoor
