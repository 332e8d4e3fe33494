/- THE WALK of Unix. Conditions: none. -/
import Derived.Test.YtgojmckfabhkaaaDoorCalWalks
namespace Go.Proofs.YtgojmckfabhkaaaDoor
open Go.RowKit
set_option linter.unusedVariables false

theorem days_q (y m : Int) (w : World) :
    Calls Tryd.prog 57 #[.int .i64 y, .int .i64 m] w fun e w' => e = .returned (.int .i64 (dim y m)) ∧ w' = w :=
  (days_any y m w).mono fun e w' ⟨he, hw⟩ => ⟨he, hw.symm⟩

/-- The days from the year 1's first on, as Unix reckons them. -/
def ordF (y m d : Int) : Int :=
  if m < 3 then 365 * (y - 1) + (y - 1) / 4 - (y - 1) / 100 + (y - 1) / 400 + (153 * (m - 3 + 12) + 2) / 5 + d - 1 - 306
  else 365 * y + y / 4 - y / 100 + y / 400 + (153 * (m - 3) + 2) / 5 + d - 1 - 306
def secF (y m d h n s : Int) : Int := -62135596800 + 86400 * ordF y m d + 3600 * h + 60 * n + s
/-- Is it a date? -/
def okD (y m d h n s : Int) : Prop := 1 ≤ y ∧ y ≤ 9999 ∧ 1 ≤ d ∧ d ≤ dim y m ∧ 0 ≤ h ∧ h ≤ 23 ∧ 0 ≤ n ∧ n ≤ 59 ∧ 0 ≤ s ∧ s ≤ 59
theorem okD_month {y m d h n s : Int} (k : okD y m d h n s) : 1 ≤ m ∧ m ≤ 12 := by
  have h1 := k.2.2.1
  have h2 := k.2.2.2.1
  have h3 : 1 ≤ dim y m := by omega
  unfold dim at h3
  split at h3
  · omega
  · split at h3
    · omega
    · split at h3
      · assumption
      · omega
def dateV (y m d h n s k : Int) : Value := .agg #[.int .i64 y, .int .i64 m, .int .i64 d, .int .i64 h, .int .i64 n, .int .i64 s, .int .i64 k]

set_option maxRecDepth 100000 in
set_option maxHeartbeats 2000000 in
theorem unix_ok (a b c d h f k : Int) (w : World) (hok : okD a b c d h f) :
    Calls Tryd.prog 42 #[.agg #[.int .i64 a, .int .i64 b, .int .i64 c, .int .i64 d, .int .i64 h, .int .i64 f, .int .i64 k]] w fun e w' => e = .returned (.tuple #[.int .i64 (secF a b c d h f), .int .i64 0]) ∧ Below w.heap.size w w' := by
  obtain ⟨hb1, hb2⟩ := okD_month hok
  obtain ⟨h1, h2, h3, h4, h5, h6, h7, h8, h9, h10⟩ := hok
  have hdq : ∀ W, _ := fun W => days_q a b W
  have hd31 : dim a b ≤ 31 := by unfold dim; have := lp_le a; split <;> (try split) <;> (try split) <;> omega
  generalize dim a b = D at h4 hdq hd31
  have d1 : decide (a < 1) = false := by simp; omega
  have d2 : decide (9999 < a) = false := by simp; omega
  have d3 : decide (c < 1) = false := by simp; omega
  have d4 : decide (D < c) = false := by simp; omega
  have d5 : decide (d < 0) = false := by simp; omega
  have d6 : decide (23 < d) = false := by simp; omega
  have d7 : decide (h < 0) = false := by simp; omega
  have d8 : decide (59 < h) = false := by simp; omega
  have d9 : decide (f < 0) = false := by simp; omega
  have d10 : decide (59 < f) = false := by simp; omega
  by_cases hm : b < 3
  · have hF : secF a b c d h f = -62135596800 + 86400 * (365 * (a - 1) + (a - 1) / 4 - (a - 1) / 100 + (a - 1) / 400 + (153 * (b - 3 + 12) + 2) / 5 + c - 1 - 306) + 3600 * d + 60 * h + f := by unfold secF ordF; rw [if_pos hm]
    have HF := Lib.hid hF
    clear hF
    go_enter Tryd.func42, Tryd.ntmps42
    go_wp2_with fail
    go_quiet ((go_at_call 57; exact Calls.quiet_of_same (hdq _)))
    go_wp2
    go_quiet (fail)
    go_wp2
    go_returns
    exact ⟨by rw [HF.out]; rfl, by first | exact below_drewN ((Below.refl _ _).alloc (Nat.le_refl _) _) _ | exact below_drewN (below_drewN ((Below.refl _ _).alloc (Nat.le_refl _) _) _) _⟩
  · have hF : secF a b c d h f = -62135596800 + 86400 * (365 * a + a / 4 - a / 100 + a / 400 + (153 * (b - 3) + 2) / 5 + c - 1 - 306) + 3600 * d + 60 * h + f := by unfold secF ordF; rw [if_neg hm]
    have HF := Lib.hid hF
    clear hF
    go_enter Tryd.func42, Tryd.ntmps42
    go_wp2_with fail
    go_quiet ((go_at_call 57; exact Calls.quiet_of_same (hdq _)))
    go_wp2
    go_quiet (fail)
    go_wp2
    go_returns
    exact ⟨by rw [HF.out]; rfl, by first | exact below_drewN ((Below.refl _ _).alloc (Nat.le_refl _) _) _ | exact below_drewN (below_drewN ((Below.refl _ _).alloc (Nat.le_refl _) _) _) _⟩

set_option maxRecDepth 100000 in
set_option maxHeartbeats 4000000 in
theorem unix_bad (a b c d h f k : Int) (w : World) (hok : ¬ okD a b c d h f) :
    Calls Tryd.prog 42 #[.agg #[.int .i64 a, .int .i64 b, .int .i64 c, .int .i64 d, .int .i64 h, .int .i64 f, .int .i64 k]] w fun e w' => e = .returned (.tuple #[.int .i64 0, .int .i64 1]) ∧ Below w.heap.size w w' := by
  have hdq : ∀ W, _ := fun W => days_q a b W
  unfold okD at hok
  generalize dim a b = D at hok hdq
  by_cases c1 : a < 1
  · have d1 : decide (a < 1) = true := by simp; omega
    clear hok
    go_enter Tryd.func42, Tryd.ntmps42
    go_wp2_with fail
    go_quiet ((go_at_call 57; exact Calls.quiet_of_same (hdq _)))
    go_wp2
    go_returns
    exact ⟨rfl, below_drewN ((Below.refl _ _).alloc (Nat.le_refl _) _) _⟩
  · have d1 : decide (a < 1) = false := by simp; omega
    by_cases c2 : 9999 < a
    · have d2 : decide (9999 < a) = true := by simp; omega
      clear hok
      go_enter Tryd.func42, Tryd.ntmps42
      go_wp2_with fail
      go_quiet ((go_at_call 57; exact Calls.quiet_of_same (hdq _)))
      go_wp2
      go_returns
      exact ⟨rfl, below_drewN ((Below.refl _ _).alloc (Nat.le_refl _) _) _⟩
    · have d2 : decide (9999 < a) = false := by simp; omega
      by_cases c3 : c < 1
      · have d3 : decide (c < 1) = true := by simp; omega
        clear hok
        go_enter Tryd.func42, Tryd.ntmps42
        go_wp2_with fail
        go_quiet ((go_at_call 57; exact Calls.quiet_of_same (hdq _)))
        go_wp2
        go_returns
        exact ⟨rfl, below_drewN ((Below.refl _ _).alloc (Nat.le_refl _) _) _⟩
      · have d3 : decide (c < 1) = false := by simp; omega
        by_cases c4 : D < c
        · have d4 : decide (D < c) = true := by simp; omega
          clear hok
          go_enter Tryd.func42, Tryd.ntmps42
          go_wp2_with fail
          go_quiet ((go_at_call 57; exact Calls.quiet_of_same (hdq _)))
          go_wp2
          go_returns
          exact ⟨rfl, below_drewN ((Below.refl _ _).alloc (Nat.le_refl _) _) _⟩
        · have d4 : decide (D < c) = false := by simp; omega
          by_cases c5 : d < 0
          · have d5 : decide (d < 0) = true := by simp; omega
            clear hok
            go_enter Tryd.func42, Tryd.ntmps42
            go_wp2_with fail
            go_quiet ((go_at_call 57; exact Calls.quiet_of_same (hdq _)))
            go_wp2
            go_returns
            exact ⟨rfl, below_drewN ((Below.refl _ _).alloc (Nat.le_refl _) _) _⟩
          · have d5 : decide (d < 0) = false := by simp; omega
            by_cases c6 : 23 < d
            · have d6 : decide (23 < d) = true := by simp; omega
              clear hok
              go_enter Tryd.func42, Tryd.ntmps42
              go_wp2_with fail
              go_quiet ((go_at_call 57; exact Calls.quiet_of_same (hdq _)))
              go_wp2
              go_returns
              exact ⟨rfl, below_drewN ((Below.refl _ _).alloc (Nat.le_refl _) _) _⟩
            · have d6 : decide (23 < d) = false := by simp; omega
              by_cases c7 : h < 0
              · have d7 : decide (h < 0) = true := by simp; omega
                clear hok
                go_enter Tryd.func42, Tryd.ntmps42
                go_wp2_with fail
                go_quiet ((go_at_call 57; exact Calls.quiet_of_same (hdq _)))
                go_wp2
                go_returns
                exact ⟨rfl, below_drewN ((Below.refl _ _).alloc (Nat.le_refl _) _) _⟩
              · have d7 : decide (h < 0) = false := by simp; omega
                by_cases c8 : 59 < h
                · have d8 : decide (59 < h) = true := by simp; omega
                  clear hok
                  go_enter Tryd.func42, Tryd.ntmps42
                  go_wp2_with fail
                  go_quiet ((go_at_call 57; exact Calls.quiet_of_same (hdq _)))
                  go_wp2
                  go_returns
                  exact ⟨rfl, below_drewN ((Below.refl _ _).alloc (Nat.le_refl _) _) _⟩
                · have d8 : decide (59 < h) = false := by simp; omega
                  by_cases c9 : f < 0
                  · have d9 : decide (f < 0) = true := by simp; omega
                    clear hok
                    go_enter Tryd.func42, Tryd.ntmps42
                    go_wp2_with fail
                    go_quiet ((go_at_call 57; exact Calls.quiet_of_same (hdq _)))
                    go_wp2
                    go_returns
                    exact ⟨rfl, below_drewN ((Below.refl _ _).alloc (Nat.le_refl _) _) _⟩
                  · have d9 : decide (f < 0) = false := by simp; omega
                    by_cases c10 : 59 < f
                    · have d10 : decide (59 < f) = true := by simp; omega
                      clear hok
                      go_enter Tryd.func42, Tryd.ntmps42
                      go_wp2_with fail
                      go_quiet ((go_at_call 57; exact Calls.quiet_of_same (hdq _)))
                      go_wp2
                      go_returns
                      exact ⟨rfl, below_drewN ((Below.refl _ _).alloc (Nat.le_refl _) _) _⟩
                    · have d10 : decide (59 < f) = false := by simp; omega
                      exact absurd (by omega) hok
end Go.Proofs.YtgojmckfabhkaaaDoor
