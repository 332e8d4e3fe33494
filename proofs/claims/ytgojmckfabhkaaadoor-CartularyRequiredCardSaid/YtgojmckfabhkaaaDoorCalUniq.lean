/- PLAIN LAWS OF THE CALENDAR: the first days of months and years; a day has one date. No program in sight. No conditions. -/
import Derived.Test.YtgojmckfabhkaaaDoorCalMath
namespace Go.Proofs.YtgojmckfabhkaaaDoor
open Go

theorem lp_step (y : Int) : y / 4 - y / 100 + y / 400 - ((y - 1) / 4 - (y - 1) / 100 + (y - 1) / 400) = lp y := by
  have h := lpB_iff y
  unfold lp
  cases hb : lpB y with
  | true =>
    rw [hb] at h
    have := h.1 rfl
    simp only [if_true]
    omega
  | false =>
    rw [hb] at h
    have : ¬ (y % 4 = 0 ∧ (y % 100 ≠ 0 ∨ y % 400 = 0)) := fun e => by have := h.2 e; cases this
    simp
    omega
/-- The day on which a month begins. -/
def mo (y m : Int) : Int := ordF y m 1
theorem ordF_day (y m d : Int) : ordF y m d = mo y m + d - 1 := by unfold mo ordF; split <;> omega
/-- The day on which a year begins. -/
def ja (y : Int) : Int := 365 * (y - 1) + (y - 1) / 4 - (y - 1) / 100 + (y - 1) / 400
theorem mo_val (y m : Int) (h1 : 1 ≤ m) (h2 : m ≤ 12) : mo y m = ja y + (if m = 1 then 0 else if m = 2 then 31 else if m = 3 then 59 + lp y else if m = 4 then 90 + lp y else if m = 5 then 120 + lp y else if m = 6 then 151 + lp y else if m = 7 then 181 + lp y else if m = 8 then 212 + lp y else if m = 9 then 243 + lp y else if m = 10 then 273 + lp y else if m = 11 then 304 + lp y else 334 + lp y) := by
  have hl := lp_step y
  unfold mo ordF ja
  have hm : m = 1 ∨ m = 2 ∨ m = 3 ∨ m = 4 ∨ m = 5 ∨ m = 6 ∨ m = 7 ∨ m = 8 ∨ m = 9 ∨ m = 10 ∨ m = 11 ∨ m = 12 := by omega
  rcases hm with rfl | rfl | rfl | rfl | rfl | rfl | rfl | rfl | rfl | rfl | rfl | rfl
  all_goals
    simp
    try omega
theorem mo_succ (y m : Int) (h1 : 1 ≤ m) (h2 : m ≤ 11) : mo y (m + 1) = mo y m + dim y m := by
  rw [mo_val y (m + 1) (by omega) (by omega), mo_val y m h1 (by omega)]
  have hm : m = 1 ∨ m = 2 ∨ m = 3 ∨ m = 4 ∨ m = 5 ∨ m = 6 ∨ m = 7 ∨ m = 8 ∨ m = 9 ∨ m = 10 ∨ m = 11 := by omega
  rcases hm with rfl | rfl | rfl | rfl | rfl | rfl | rfl | rfl | rfl | rfl | rfl
  all_goals
    simp [dim]
    try omega
theorem ja_succ (y : Int) : ja (y + 1) = ja y + 365 + lp y := by
  have hl := lp_step y
  unfold ja
  rw [show y + 1 - 1 = y by omega]
  omega
theorem mo_first (y : Int) : mo y 1 = ja y := by rw [mo_val y 1 (by omega) (by omega)]; simp
theorem mo_last (y : Int) : mo y 12 + 31 = ja (y + 1) := by rw [mo_val y 12 (by omega) (by omega), ja_succ]; simp; omega
theorem ja_le (a : Int) : ∀ n : Nat, ja a + 365 * n ≤ ja (a + n)
  | 0 => by simp
  | n + 1 => by
    have h := ja_le a n
    have h2 := ja_succ (a + n)
    have h3 := lp_le (a + n)
    rw [show a + ((n + 1 : Nat) : Int) = a + n + 1 by omega, h2]
    omega
theorem ja_mono (a b : Int) (h : a ≤ b) : ja a ≤ ja b := by
  have := ja_le a (b - a).toNat
  rw [show a + ((b - a).toNat : Int) = b by omega] at this
  omega
/-- A date lies within its year. -/
theorem ord_in_year (y m d : Int) (h1 : 1 ≤ m) (h2 : m ≤ 12) (h3 : 1 ≤ d) (h4 : d ≤ dim y m) : ja y ≤ ordF y m d ∧ ordF y m d < ja (y + 1) := by
  have hl := lp_le y
  rw [ordF_day, mo_val y m h1 h2, ja_succ]
  have hm : m = 1 ∨ m = 2 ∨ m = 3 ∨ m = 4 ∨ m = 5 ∨ m = 6 ∨ m = 7 ∨ m = 8 ∨ m = 9 ∨ m = 10 ∨ m = 11 ∨ m = 12 := by omega
  rcases hm with rfl | rfl | rfl | rfl | rfl | rfl | rfl | rfl | rfl | rfl | rfl | rfl
  all_goals
    simp [dim] at h4 ⊢
    omega
/-- A day has one date. -/
theorem ord_inj (y m d y' m' d' : Int) (h1 : 1 ≤ m) (h2 : m ≤ 12) (h3 : 1 ≤ d) (h4 : d ≤ dim y m) (k1 : 1 ≤ m') (k2 : m' ≤ 12) (k3 : 1 ≤ d') (k4 : d' ≤ dim y' m') (e : ordF y m d = ordF y' m' d') : y = y' ∧ m = m' ∧ d = d' := by
  have a := ord_in_year y m d h1 h2 h3 h4
  have b := ord_in_year y' m' d' k1 k2 k3 k4
  have hy : y = y' := by
    rcases Int.lt_trichotomy y y' with h | h | h
    · have := ja_mono (y + 1) y' (by omega); omega
    · exact h
    · have := ja_mono (y' + 1) y (by omega); omega
  subst hy
  rw [ordF_day, ordF_day] at e
  have hlt : ∀ p q : Int, 1 ≤ p → q ≤ 12 → p < q → mo y p + dim y p ≤ mo y q := by
    intro p q hp hq hpq
    obtain ⟨n, hn⟩ : ∃ n : Nat, q = p + 1 + n := ⟨(q - p - 1).toNat, by omega⟩
    subst hn
    clear hpq e a b
    induction n with
    | zero =>
      rw [show p + 1 + ((0 : Nat) : Int) = p + 1 by simp, mo_succ y p hp (by omega)]
      omega
    | succ n ih =>
      have h := ih (by omega)
      rw [show p + 1 + ((n + 1 : Nat) : Int) = p + 1 + n + 1 by omega, mo_succ y (p + 1 + n) (by omega) (by omega)]
      have hd := (dim_val y (p + 1 + n))
      have : 0 ≤ dim y (p + 1 + n) := by
        have hl := lp_le y
        unfold dim
        split
        · omega
        · split
          · omega
          · split <;> omega
      omega
  have hm : m = m' := by
    rcases Int.lt_trichotomy m m' with h | h | h
    · have := hlt m m' h1 k2 h; omega
    · exact h
    · have := hlt m' m k1 h2 h; omega
  subst hm
  exact ⟨rfl, rfl, by omega⟩
end Go.Proofs.YtgojmckfabhkaaaDoor
