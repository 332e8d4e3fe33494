/- THE WALK of From. Conditions: none. -/
import Derived.Test.YtgojmckfabhkaaaDoorCalMath
namespace Go.Proofs.YtgojmckfabhkaaaDoor
open Go.RowKit
set_option linter.unusedVariables false

/-! What From answers, of a day D. -/
def fX (D : Int) : Int := (D + 306) % 146097
def fE (D : Int) : Int := (D + 306) / 146097
def fY (D : Int) : Int := (fX D - fX D / 1460 + fX D / 36524 - fX D / 146096) / 365
def fR (D : Int) : Int := fX D - (365 * fY D + fY D / 4 - fY D / 100)
def fM (D : Int) : Int := (5 * fR D + 2) / 153
def dY (D : Int) : Int := if fM D < 10 then 400 * fE D + fY D else 400 * fE D + fY D + 1
def dM (D : Int) : Int := if fM D < 10 then fM D + 3 else fM D - 9
def dD (D : Int) : Int := fR D - (153 * fM D + 2) / 5 + 1

theorem date_ok (D : Int) (h0 : 0 ≤ D) (h1 : D ≤ 3652058) : okD (dY D) (dM D) (dD D) 0 0 0 ∧ ordF (dY D) (dM D) (dD D) = D := by
  obtain ⟨E, Y, R, M, e1, e2, e3, e4, _, _, _, _, _, _, _, _, h1, h2⟩ := from_math D h0 h1
  have a1 : fE D = E := e1
  have a2 : fY D = Y := e2
  have a3 : fR D = R := by unfold fR; rw [a2]; exact e3
  have a4 : fM D = M := by unfold fM; rw [a3]; exact e4
  unfold dY dM dD
  rw [a1, a2, a3, a4]
  by_cases h : M < 10
  · rw [if_pos h, if_pos h]; exact h1 h
  · rw [if_neg h, if_neg h]; exact h2 (by omega)

/-- The day of a second, and the second of the day. -/
def dayOf (t : Int) : Int := (t + 62135596800) / 86400
def secIn (t : Int) : Int := (t + 62135596800) % 86400
def fromV (t : Int) : Value := dateV (dY (dayOf t)) (dM (dayOf t)) (dD (dayOf t)) (secIn t / 3600) (secIn t / 60 % 60) (secIn t % 60) ((dayOf t + 1) % 7)

set_option maxRecDepth 100000 in
set_option maxHeartbeats 4000000 in
theorem from_in (t : Int) (w : World) (h1 : -62135596800 ≤ t) (h2 : t ≤ 253402300799) :
    Calls Tryd.prog 26 #[.int .i64 t] w fun e w' => e = .returned (.tuple #[fromV t, .int .i64 0]) ∧ Below w.heap.size w w' := by
  obtain ⟨D, hD⟩ : ∃ D, D = dayOf t := ⟨_, rfl⟩
  obtain ⟨S, hS⟩ : ∃ S, S = secIn t := ⟨_, rfl⟩
  have hV : fromV t = dateV (dY D) (dM D) (dD D) (S / 3600) (S / 60 % 60) (S % 60) ((D + 1) % 7) := by unfold fromV; rw [← hD, ← hS]
  rw [hV]
  have e1 : (t + 62135596800) / 86400 = D := hD.symm
  have e2 : (t + 62135596800) % 86400 = S := hS.symm
  have hD0 : 0 ≤ D ∧ D ≤ 3652058 := by omega
  have hS0 : 0 ≤ S ∧ S < 86400 := by omega
  obtain ⟨E, Y, R, M, k1, k2, k3, k4, b1, b2, b3, b4, b5, b6, b7, b8, _, _⟩ := from_math D hD0.1 hD0.2
  obtain ⟨X, hX⟩ : ∃ X, X = (D + 306) % 146097 := ⟨_, rfl⟩
  have hX0 : 0 ≤ X ∧ X < 146097 := by omega
  rw [← hX] at k2 k3
  have a1 : fE D = E := k1
  have a2 : fY D = Y := by unfold fY fX; rw [← hX]; exact k2
  have a3 : fR D = R := by unfold fR; rw [a2]; unfold fX; rw [← hX]; exact k3
  have a4 : fM D = M := by unfold fM; rw [a3]; exact k4
  have hX' : (D + 306) % 146097 = X := hX.symm
  have hR0 : 365 * Y + Y / 4 - Y / 100 ≤ X ∧ X ≤ 365 * Y + Y / 4 - Y / 100 + 365 := by omega
  clear hV hD hS hX
  by_cases hM : M < 10
  · have v1 : dY D = 400 * E + Y := by unfold dY; rw [a4, if_pos hM, a1, a2]
    have v2 : dM D = M + 3 := by unfold dM; rw [a4, if_pos hM]
    have v3 : dD D = R - (153 * M + 2) / 5 + 1 := by unfold dD; rw [a3, a4]
    rw [v1, v2, v3]
    clear v1 v2 v3 a1 a2 a3 a4
    go_enter Tryd.func26, Tryd.ntmps26
    go_wp2
    go_returns
    exact ⟨rfl, ((Below.refl _ _).alloc (Nat.le_refl _) _).alloc (by simp) _⟩
  · have v1 : dY D = 400 * E + Y + 1 := by unfold dY; rw [a4, if_neg hM, a1, a2]
    have v2 : dM D = M - 9 := by unfold dM; rw [a4, if_neg hM]
    have v3 : dD D = R - (153 * M + 2) / 5 + 1 := by unfold dD; rw [a3, a4]
    rw [v1, v2, v3]
    clear v1 v2 v3 a1 a2 a3 a4
    go_enter Tryd.func26, Tryd.ntmps26
    go_wp2
    go_returns
    refine ⟨?_, ((Below.refl _ _).alloc (Nat.le_refl _) _).alloc (by simp) _⟩
    rw [show M + 3 - 12 = M - 9 by omega]
    rfl

set_option maxRecDepth 100000 in
set_option maxHeartbeats 1000000 in
theorem from_out (t : Int) (w : World) (h : t < -62135596800 ∨ 253402300799 < t) :
    Calls Tryd.prog 26 #[.int .i64 t] w fun e w' => e = .returned (.tuple #[dateV 0 0 0 0 0 0 0, .int .i64 1]) ∧ Below w.heap.size w w' := by
  by_cases h1 : t < -62135596800
  · clear h
    go_enter Tryd.func26, Tryd.ntmps26
    go_wp2
    go_returns
    exact ⟨rfl, by first | exact Below.refl _ _ | exact (Below.refl _ _).alloc (Nat.le_refl _) _⟩
  · have h2 : 253402300799 < t := by omega
    clear h
    go_enter Tryd.func26, Tryd.ntmps26
    go_wp2
    go_returns
    exact ⟨rfl, by first | exact Below.refl _ _ | exact (Below.refl _ _).alloc (Nat.le_refl _) _⟩
end Go.Proofs.YtgojmckfabhkaaaDoor
