/- THE WALK of 'CalendarYears'. Conditions: the library's table stands. -/
import Derived.Test.YtkpiebcncjlgcaaDoorCalAwake
namespace Go.Proofs.YtkpiebcncjlgcaaDoor
open Go.RowKit
set_option linter.unusedVariables false

/-- The days of the months ahead of month m. -/
def cumd (y m : Int) : Int := if m ≤ 1 then 0 else if m = 2 then 31 else if m = 3 then 59 + lp y else if m = 4 then 90 + lp y else if m = 5 then 120 + lp y else if m = 6 then 151 + lp y else if m = 7 then 181 + lp y else if m = 8 then 212 + lp y else if m = 9 then 243 + lp y else if m = 10 then 273 + lp y else if m = 11 then 304 + lp y else if m = 12 then 334 + lp y else 365 + lp y
theorem cumd_succ (y m : Int) (h0 : 0 ≤ m) (h1 : m ≤ 13) : cumd y (m + 1) = cumd y m + dim y m := by
  have hm : m = 0 ∨ m = 1 ∨ m = 2 ∨ m = 3 ∨ m = 4 ∨ m = 5 ∨ m = 6 ∨ m = 7 ∨ m = 8 ∨ m = 9 ∨ m = 10 ∨ m = 11 ∨ m = 12 ∨ m = 13 := by omega
  rcases hm with rfl | rfl | rfl | rfl | rfl | rfl | rfl | rfl | rfl | rfl | rfl | rfl | rfl | rfl
  all_goals
    simp [cumd, dim]
    try omega
theorem lp_id (y : Int) : y / 4 - y / 100 + y / 400 - ((y - 1) / 4 - (y - 1) / 100 + (y - 1) / 400) = lp y := by
  have h := lpB_iff y
  unfold lp
  cases hb : lpB y with
  | true =>
    rw [hb] at h
    have := h.1 rfl
    simp only [if_true]
    omega
  | false =>
    rw [hb] at h
    have : ¬ (y % 4 = 0 ∧ (y % 100 ≠ 0 ∨ y % 400 = 0)) := fun e => by have := h.2 e; cases this
    simp
    omega
theorem year_sec (y : Int) : secF (y + 1) 1 1 0 0 0 - secF y 1 1 0 0 0 = 86400 * (365 + lp y) := by
  have := lp_id y
  unfold secF ordF
  rw [if_pos (by omega), if_pos (by omega), show y + 1 - 1 = y by omega]
  omega
theorem okD_first (y : Int) (h1 : 1 ≤ y) (h2 : y ≤ 9999) : okD y 1 1 0 0 0 := by
  have : dim y 1 = 31 := (dim_val y 1).2.2 (by omega)
  exact ⟨h1, h2, by omega, by rw [this]; omega, by omega, by omega, by omega, by omega, by omega, by omega⟩
theorem dim_range (y m : Int) : ((m < 1 ∨ 12 < m) → dim y m = 0) ∧ (1 ≤ m → m ≤ 12 → 28 ≤ dim y m ∧ dim y m ≤ 31) := by
  have hl := lp_le y
  refine ⟨fun h => ?_, fun h1 h2 => ?_⟩
  · unfold dim; rw [if_neg (by omega), if_neg (by omega), if_neg (by omega)]
  · unfold dim
    split
    · omega
    · split
      · omega
      · rw [if_pos ⟨h1, h2⟩]; omega

set_option maxRecDepth 100000 in
set_option maxHeartbeats 4000000 in
theorem calendarYears_walk (y : Int) (hy : (Lit.int .i64 y).wf = true) (w : World) (ht : tabOk w) :
    Calls Tryd.prog 5 #[.int .i64 y] w fun e w' => e = .returned (.bool true) ∧ Below w.heap.size w w' := by
  have HT := Lib.hid ht
  clear ht
  have hlp := lp_le y
  go_enter Tryd.func5, Tryd.ntmps5
  go_wp2
  go_loop [3, 4] (fun nv mv => ∃ m : Int, 0 ≤ m ∧ m ≤ 14 ∧ mv = .int .i64 m ∧ nv = .int .i64 (cumd y m)) (fun _ mv => 14 - (intOf mv).toNat)
  case atStart => exact ⟨0, by omega, by omega, rfl, by simp [cumd]⟩
  case round =>
    obtain ⟨m, hm0, hm1, rfl, rfl⟩ := hrel
    by_cases h13 : m ≤ 13
    · have hcs := cumd_succ y m hm0 h13
      have hcb : 0 ≤ cumd y m ∧ cumd y m ≤ 366 := by unfold cumd; repeat' split
                                                     all_goals omega
      have hdr := dim_range y m
      have hday : ∀ W, _ := fun W => days_any y m W
      generalize dim y m = d at hcs hdr hday
      generalize cumd y m = n at hcs hcb
      have HCS := Lib.hid hcs
      clear hcs
      by_cases hin : 1 ≤ m ∧ m ≤ 12
      · have hd := hdr.2 hin.1 hin.2
        have e0 : (d == 0) = false := by rw [beq_eq_false_iff_ne]; omega
        have c1 : ¬ m < 1 := by omega
        have c2 : ¬ 12 < m := by omega
        have c3 : ¬ 31 < d := by omega
        have c4 : ¬ d < 28 := by omega
        have c5 : 0 < d := by omega
        clear hdr
        go_wp2_with fail
        refine (hday _).mono ?_
        rintro e w1 ⟨rfl, rfl⟩
        go_wp2
        go_round
        case rel => exact ⟨m + 1, by omega, by omega, rfl, by rw [HCS.out]⟩
        case measure => simp [intOf]; omega
      · have hd := hdr.1 (by omega)
        subst hd
        clear hdr
        by_cases c1 : m < 1
        · go_wp2_with fail
          refine (hday _).mono ?_
          rintro e w1 ⟨rfl, rfl⟩
          go_wp2
          go_round
          case rel => exact ⟨m + 1, by omega, by omega, rfl, by rw [HCS.out]; go_num⟩
          case measure => simp [intOf]; omega
        · have c2 : 12 < m := by omega
          go_wp2_with fail
          refine (hday _).mono ?_
          rintro e w1 ⟨rfl, rfl⟩
          go_wp2
          go_round
          case rel => exact ⟨m + 1, by omega, by omega, rfl, by rw [HCS.out]; go_num⟩
          case measure => simp [intOf]; omega
    · obtain rfl : m = 14 := by omega
      have hc : cumd y 14 = 365 + lp y := by simp [cumd]
      rw [hc]
      clear hc
      have hyb : -9223372036854775808 ≤ y ∧ y ≤ 9223372036854775807 := by simpa [Lit.wf, IntKind.min, IntKind.max, IntKind.signed, IntKind.bits] using hy
      have hl1 : lp y = 0 ∨ lp y = 1 := by omega
      by_cases hr : 1 ≤ y ∧ y ≤ 9998
      · have u1 := fun W => unix_ok y 1 1 0 0 0 0 W (okD_first y hr.1 (by omega))
        have u2 := fun W => unix_ok (y + 1) 1 1 0 0 0 0 W (okD_first (y + 1) (by omega) (by omega))
        have hsec := year_sec y
        have hs1 : -62135596800 ≤ secF y 1 1 0 0 0 ∧ secF y 1 1 0 0 0 ≤ 253402300799 := by unfold secF ordF; rw [if_pos (by omega)]; omega
        generalize secF y 1 1 0 0 0 = s1 at u1 hsec hs1
        generalize secF (y + 1) 1 1 0 0 0 = s2 at u2 hsec
        have U1 := Lib.hid u1
        have U2 := Lib.hid u2
        have c1 : ¬ y < 1 := by omega
        have c2 : ¬ 9998 < y := by omega
        clear u1 u2
        rcases hl1 with hl | hl
        all_goals
          rw [hl] at hsec ⊢
          clear hl hlp
          go_wp2_with fail
          refine (U1.out _).mono ?_
          rintro e w1 ⟨rfl, hb1⟩
          have T1 := HT.out.below hb1
          have HT1 := Lib.hid T1
          clear T1
          go_wp2_with fail
          refine (U2.out _).mono ?_
          rintro e w2 ⟨rfl, hb2⟩
          have HT2 := Lib.hid (HT1.out.below hb2)
          go_wp2_with fail
          refine (awake_any _ HT2.out).mono ?_
          rintro e w3 ⟨rfl, hb3⟩
          have s1' := hb1.size
          have s2' := hb2.size
          go_wp2
          go_ret
          exact ⟨rfl, (hb1.trans (hb2.mono s1')).trans (hb3.mono (by omega))⟩
      · have hr2 : y < 1 ∨ ¬ y < 1 ∧ 9998 < y := by omega
        rcases hl1 with hl | hl
        all_goals
          rw [hl]
          clear hl hlp
          rcases hr2 with c1 | ⟨c1, c2⟩
          all_goals
            go_wp2_with fail
            refine (awake_any _ HT.out).mono ?_
            rintro e w3 ⟨rfl, hb3⟩
            go_wp2
            go_ret
            exact ⟨rfl, hb3⟩
end Go.Proofs.YtkpiebcncjlgcaaDoor
