/- THE PLAIN LAW OF THE CALENDAR: the date of a day; no program in sight. No conditions. -/
import Derived.Test.YtgojmckfabhkaaaDoorCalUnix
namespace Go.Proofs.YtgojmckfabhkaaaDoor
open Go

/-- Within 400 years that begin with March: the year and the day of the year. -/
theorem year_of (x : Int) (h0 : 0 ≤ x) (h1 : x < 146097) : ∃ Y R : Int, (x - x / 1460 + x / 36524 - x / 146096) / 365 = Y ∧ x - (365 * Y + Y / 4 - Y / 100) = R ∧ 0 ≤ Y ∧ Y ≤ 399 ∧ 0 ≤ R ∧ R ≤ 365 ∧ (R = 365 → (Y + 1) % 4 = 0 ∧ ((Y + 1) % 100 ≠ 0 ∨ (Y + 1) % 400 = 0)) := by
  refine ⟨_, _, rfl, rfl, ?_⟩
  by_cases hx : x = 146096
  · subst hx; decide
  · obtain ⟨c, hc⟩ : ∃ c, c = x / 36524 := ⟨_, rfl⟩
    have h3 : x / 146096 = 0 := by omega
    have hc3 : 0 ≤ c ∧ c ≤ 3 := by omega
    obtain ⟨r, hr⟩ : ∃ r, r = x - 36524 * c := ⟨_, rfl⟩
    have hr2 : 0 ≤ r ∧ r < 36524 := by omega
    obtain ⟨q, hq⟩ : ∃ q, q = r / 1461 := ⟨_, rfl⟩
    obtain ⟨s, hs⟩ : ∃ s, s = r - 1461 * q := ⟨_, rfl⟩
    have hs2 : 0 ≤ s ∧ s < 1461 := by omega
    have hq2 : 0 ≤ q ∧ q ≤ 24 := by omega
    have hx2 : x = 36524 * c + 1461 * q + s := by omega
    rw [← hc, h3]
    obtain ⟨k, hk⟩ : ∃ k, k = x / 1460 - 25 * c - q := ⟨_, rfl⟩
    have hk2 : (k = 0 ∧ 24 * c + q + s < 1460) ∨ (k = 1 ∧ 1460 ≤ 24 * c + q + s) := by omega
    have hY : (x - x / 1460 + c - 0) / 365 = 100 * c + 4 * q + (s - k) / 365 := by omega
    rw [hY]
    obtain ⟨j, hj⟩ : ∃ j, j = (s - k) / 365 := ⟨_, rfl⟩
    have hj2 : 0 ≤ j ∧ j ≤ 3 ∧ 365 * j ≤ s ∧ s ≤ 365 * j + 365 ∧ (s = 365 * j + 365 → j = 3) := by omega
    rw [← hj]
    have e4 : (100 * c + 4 * q + j) / 4 = 25 * c + q := by omega
    have e100 : (100 * c + 4 * q + j) / 100 = c := by omega
    rw [e4, e100]
    refine ⟨by omega, by omega, by omega, by omega, fun hR => ?_⟩
    have hj3 : j = 3 := by omega
    have hs3 : s = 1460 := by omega
    have hq23 : q ≤ 23 := by omega
    subst hj3
    constructor
    · omega
    · left; omega

theorem lp_of (y : Int) (h : y % 4 = 0 ∧ (y % 100 ≠ 0 ∨ y % 400 = 0)) : lp y = 1 := by unfold lp; rw [if_pos ((lpB_iff y).2 h)]
theorem dim_val (y m : Int) : (m = 2 → dim y m = 28 + lp y) ∧ ((m = 4 ∨ m = 6 ∨ m = 9 ∨ m = 11) → dim y m = 30) ∧ ((m = 1 ∨ m = 3 ∨ m = 5 ∨ m = 7 ∨ m = 8 ∨ m = 10 ∨ m = 12) → dim y m = 31) := by
  refine ⟨fun h => ?_, fun h => ?_, fun h => ?_⟩
  · unfold dim; rw [if_pos h]
  · unfold dim; rw [if_neg (by omega), if_pos h]
  · unfold dim; rw [if_neg (by omega), if_neg (by omega), if_pos (by omega)]

/-- The month and its day, of a day of a year that begins with March. -/
theorem month_of (y R : Int) (h0 : 0 ≤ R) (h1 : R ≤ 365) (hl : R = 365 → lp (y + 1) = 1) : 0 ≤ (5 * R + 2) / 153 ∧ (5 * R + 2) / 153 ≤ 11 ∧ 1 ≤ R - (153 * ((5 * R + 2) / 153) + 2) / 5 + 1 ∧
    ((5 * R + 2) / 153 < 10 → R - (153 * ((5 * R + 2) / 153) + 2) / 5 + 1 ≤ dim y ((5 * R + 2) / 153 + 3)) ∧ (10 ≤ (5 * R + 2) / 153 → R - (153 * ((5 * R + 2) / 153) + 2) / 5 + 1 ≤ dim (y + 1) ((5 * R + 2) / 153 - 9)) := by
  obtain ⟨M, hM⟩ : ∃ M, M = (5 * R + 2) / 153 := ⟨_, rfl⟩
  rw [← hM]
  have hM0 : 0 ≤ M ∧ M ≤ 11 := by omega
  refine ⟨hM0.1, hM0.2, by omega, fun hlt => ?_, fun hge => ?_⟩
  · obtain ⟨_, d30, d31⟩ := dim_val y (M + 3)
    have hm : M = 0 ∨ M = 1 ∨ M = 2 ∨ M = 3 ∨ M = 4 ∨ M = 5 ∨ M = 6 ∨ M = 7 ∨ M = 8 ∨ M = 9 := by omega
    rcases hm with rfl | rfl | rfl | rfl | rfl | rfl | rfl | rfl | rfl | rfl
    all_goals
      first
        | (rw [d31 (by omega)]; omega)
        | (rw [d30 (by omega)]; omega)
  · obtain ⟨d28, _, d31⟩ := dim_val (y + 1) (M - 9)
    have hlp := lp_le (y + 1)
    have hm : M = 10 ∨ M = 11 := by omega
    rcases hm with rfl | rfl
    · rw [d31 (by omega)]; omega
    · rw [d28 (by omega)]
      by_cases h : R = 365
      · rw [hl h]; omega
      · omega

/-- What From reckons of a day. -/
theorem from_math (D : Int) (h0 : 0 ≤ D) (h1 : D ≤ 3652058) : ∃ E Y R M : Int, (D + 306) / 146097 = E ∧
    ((D + 306) % 146097 - (D + 306) % 146097 / 1460 + (D + 306) % 146097 / 36524 - (D + 306) % 146097 / 146096) / 365 = Y ∧ (D + 306) % 146097 - (365 * Y + Y / 4 - Y / 100) = R ∧ (5 * R + 2) / 153 = M ∧
    0 ≤ E ∧ E ≤ 25 ∧ 0 ≤ Y ∧ Y ≤ 399 ∧ 0 ≤ R ∧ R ≤ 365 ∧ 0 ≤ M ∧ M ≤ 11 ∧
    (M < 10 → okD (400 * E + Y) (M + 3) (R - (153 * M + 2) / 5 + 1) 0 0 0 ∧ ordF (400 * E + Y) (M + 3) (R - (153 * M + 2) / 5 + 1) = D) ∧
    (10 ≤ M → okD (400 * E + Y + 1) (M - 9) (R - (153 * M + 2) / 5 + 1) 0 0 0 ∧ ordF (400 * E + Y + 1) (M - 9) (R - (153 * M + 2) / 5 + 1) = D) := by
  obtain ⟨x, hx⟩ : ∃ x, x = (D + 306) % 146097 := ⟨_, rfl⟩
  obtain ⟨E, hE⟩ : ∃ E, E = (D + 306) / 146097 := ⟨_, rfl⟩
  have hx2 : 0 ≤ x ∧ x < 146097 := by omega
  have hE2 : 0 ≤ E ∧ E ≤ 25 := by omega
  have hz : D + 306 = 146097 * E + x := by omega
  obtain ⟨Y, R, hY, hR, hY0, hY1, hR0, hR1, hL⟩ := year_of x hx2.1 hx2.2
  have hl : R = 365 → lp (400 * E + Y + 1) = 1 := fun h => lp_of _ (by have := hL h; omega)
  obtain ⟨m0, m1, m2, m3, m4⟩ := month_of (400 * E + Y) R hR0 hR1 hl
  obtain ⟨M, hM⟩ : ∃ M, M = (5 * R + 2) / 153 := ⟨_, rfl⟩
  rw [← hM] at m0 m1 m2 m3 m4
  have e1 : (400 * E + Y) / 4 = 100 * E + Y / 4 := by omega
  have e2 : (400 * E + Y) / 100 = 4 * E + Y / 100 := by omega
  have e3 : (400 * E + Y) / 400 = E := by omega
  refine ⟨E, Y, R, M, by rw [hE], by rw [← hx]; exact hY, by rw [← hx]; exact hR, hM.symm, hE2.1, hE2.2, hY0, hY1, hR0, hR1, m0, m1, fun hlt => ?_, fun hge => ?_⟩
  · have ho : ordF (400 * E + Y) (M + 3) (R - (153 * M + 2) / 5 + 1) = D := by
      unfold ordF
      rw [if_neg (by omega), show M + 3 - 3 = M by omega, e1, e2, e3]
      omega
    exact ⟨⟨by omega, by omega, by omega, m3 hlt, by omega, by omega, by omega, by omega, by omega, by omega⟩, ho⟩
  · have ho : ordF (400 * E + Y + 1) (M - 9) (R - (153 * M + 2) / 5 + 1) = D := by
      unfold ordF
      rw [if_pos (by omega), show M - 9 - 3 + 12 = M by omega, show 400 * E + Y + 1 - 1 = 400 * E + Y by omega, e1, e2, e3]
      omega
    exact ⟨⟨by omega, by omega, by omega, m4 hge, by omega, by omega, by omega, by omega, by omega, by omega⟩, ho⟩
end Go.Proofs.YtgojmckfabhkaaaDoor
