/- THE WALK of the reference's Unix: dates. Conditions: the seven numbers lie in memory. -/
import Derived.Test.YtkpiebcncjlgcaaDoorCalSeven
namespace Go.Proofs.YtkpiebcncjlgcaaDoor
open Go.RowKit
set_option linter.unusedVariables false

set_option maxRecDepth 100000 in
set_option maxHeartbeats 8000000 in
theorem refUnix_ok (a b c d h f : Int) (g cap : Nat) (w : World) (hg : g < w.heap.size) (hs : seven7 w g a b c d h f) (hok : okD a b c d h f) :
    Calls Tryd.prog 9 #[.slice (some ⟨g, 0, none⟩) 7 cap] w fun e w' => e = .returned (.tuple #[.int .i64 (secF a b c d h f), .bool true]) ∧ Below w.heap.size w w' := by
  obtain ⟨hb1, hb2⟩ := okD_month hok
  have hsec : secF a b c d h f = 86400 * (mo a b + (c - 1)) + 3600 * d + 60 * h + f - 62135596800 := by
    have := ordF_day a b c
    unfold secF
    omega
  have hmb := mo_bound a b
  unfold okD at hok
  have hdl := dim_le' a b
  have hdq : ∀ W, _ := fun W => refDays_any a b W
  generalize hD : dim a b = D at hok hdq
  obtain ⟨k0, k1, k2, k3, k4, k5⟩ := hs
  have HDQ := Lib.hid hdq
  have HSV : RowKit.Hid (∀ w', Below w.heap.size w w' → (w'.cell? ⟨g, 0, none⟩ = some (.int .i64 a) ∧ w'.cell? ⟨g, 1, none⟩ = some (.int .i64 b) ∧ w'.cell? ⟨g, 2, none⟩ = some (.int .i64 c) ∧ w'.cell? ⟨g, 3, none⟩ = some (.int .i64 d) ∧ w'.cell? ⟨g, 4, none⟩ = some (.int .i64 h) ∧ w'.cell? ⟨g, 5, none⟩ = some (.int .i64 f) ∧ Below w.heap.size w w')) := Lib.hid (fun w' hb => by
    have e : ∀ o, w'.cell? ⟨g, o, none⟩ = w.cell? ⟨g, o, none⟩ := fun o => hb.cell (p := ⟨g, o, none⟩) hg
    exact ⟨(e 0).trans k0, (e 1).trans k1, (e 2).trans k2, (e 3).trans k3, (e 4).trans k4, (e 5).trans k5, hb⟩)
  have hbr : Below w.heap.size w w := Below.refl _ _
  have hbd : Below w.heap.size w w.drew := (Below.refl _ _).drew
  have HDIM := Lib.hid hD
  clear hdq hD
  obtain ⟨o1, o2, o3, o4, o5, o6, o7, o8, o9, o10⟩ := hok
  have hc31 : c ≤ 31 := by have := HDIM.out; omega
  have d1 : decide (a < 1) = false := by simp; omega
  have d2 : decide (9999 < a) = false := by simp; omega
  have d3 : decide (c < 1) = false := by simp; omega
  have d4 : decide (D < c) = false := by simp; omega
  have d5 : decide (d < 0) = false := by simp; omega
  have d6 : decide (23 < d) = false := by simp; omega
  have d7 : decide (h < 0) = false := by simp; omega
  have d8 : decide (59 < h) = false := by simp; omega
  have d9 : decide (f < 0) = false := by simp; omega
  have d10 : decide (59 < f) = false := by simp; omega
  have hmb' := hmb o1 o2 hb1 hb2
  clear hmb
  rw [hsec]
  clear hsec
  go_enter Tryd.func9, Tryd.ntmps9
  go_wp2_with fail
  try simp only [List.append_eq, List.cons_append, List.nil_append]
  refine region_class (fun w' => w'.cell? ⟨g, 0, none⟩ = some (.int .i64 a) ∧ w'.cell? ⟨g, 1, none⟩ = some (.int .i64 b) ∧ w'.cell? ⟨g, 2, none⟩ = some (.int .i64 c) ∧ w'.cell? ⟨g, 3, none⟩ = some (.int .i64 d) ∧ w'.cell? ⟨g, 4, none⟩ = some (.int .i64 h) ∧ w'.cell? ⟨g, 5, none⟩ = some (.int .i64 f) ∧ Below w.heap.size w w') (by kernel_rfl) (by kernel_rfl) (HSV.out _ hbd) ?_
  repeat (first
    | (refine qskip (by rfl) ?_
       simp only [Act.put, List.setIfInBounds_toArray, List.set_cons_zero, List.set_cons_succ])
    | (refine qtake (v := ?_) (by rfl) (fun w9 hSw => ?_) ?_
       rotate_left
       · (try dsimp only at hSw)
         obtain ⟨k0, k1, k2, k3, k4, k5, -⟩ := hSw
         go_simp
         try with_reducible rfl
       simp only [Act.put, List.setIfInBounds_toArray, List.set_cons_zero, List.set_cons_succ])
    | (refine qcall (v := .int .i64 D) (f := 13) (args := #[.int .i64 a, .int .i64 b]) (by rfl) (fun w9 => ?_) (fun w9 hSw => ?_) ?_
       · go_simp
       · (try dsimp only at hSw)
         obtain ⟨-, -, -, -, -, -, hbw⟩ := hSw
         go_at_call 13
         refine (HDQ.out _).mono ?_
         rintro e w' ⟨rfl, hb⟩
         exact ⟨rfl, HSV.out _ (below_next' hbw hb)⟩
       simp only [Act.put, List.setIfInBounds_toArray, List.set_cons_zero, List.set_cons_succ]))
  refine wpQuiet_nil ?_
  intro wq hSq
  have hq := hSq.2.2.2.2.2.2
  clear hSq
  clear d1 d2 d3 d4 d5 d6 d7 d8 d9 d10 hbd hbr
  have hcell := HSV.out _ hq
  obtain ⟨m0, m1, m2, m3, m4, m5, -⟩ := hcell
  have HQ := Lib.hid hq
  clear hq k0 k1 k2 k3 k4 k5
  have hq0 : 0 ≤ (a - 1) / 400 ∧ (a - 1) / 400 ≤ 24 := by omega
  have hqa : 1 + (a - 1) / 400 * 400 ≤ a := by omega
  have hjb := ja_base ((a - 1) / 400)
  have HJB := Lib.hid hjb
  clear hjb
  go_wp2
  go_loop [4, 5] (fun nv yv => ∃ y : Int, 1 ≤ y ∧ y ≤ a ∧ yv = .int .i64 y ∧ nv = .int .i64 (ja y)) (fun _ yv => 20000 - (intOf yv).toNat)
  case atStart => exact ⟨1 + (a - 1) / 400 * 400, by omega, by omega, by go_num, by rw [HJB.out]⟩
  case round =>
    obtain ⟨y, hy1, hy2, rfl, rfl⟩ := hrel
    have hyb := ja_bound y hy1 (by omega)
    by_cases hlt : y < a
    · have hjs := ja_succ y
      have hlp := lp_le y
      have hlen := fun W => length_any y W
      generalize lp y = l at hjs hlp hlen
      generalize ja y = n at hyb hjs
      have HJS := Lib.hid (show ja (y + 1) = n + (365 + l) by omega)
      clear hjs
      go_wp2_with fail
      refine (hlen _).mono ?_
      rintro e w1 ⟨rfl, rfl⟩
      go_wp2
      go_round
      case rel => exact ⟨y + 1, by omega, by omega, rfl, by rw [HJS.out]⟩
      case measure => simp [intOf]; omega
    · obtain rfl : y = a := by omega
      have hmf := mo_first y
      have HMF := Lib.hid hmf
      clear hmf hlt hy1
      generalize hn : ja y = n at hyb
      have HN := Lib.hid hn
      clear hn
      go_wp2
      go_loopw [4, 6] (fun nv mv wr => ∃ m : Int, 1 ≤ m ∧ m ≤ b ∧ mv = .int .i64 m ∧ nv = .int .i64 (mo y m) ∧ Below w.heap.size w wr) (fun _ mv _ => 20 - (intOf mv).toNat)
      case atStart => exact ⟨1, by omega, by omega, rfl, by rw [HMF.out, HN.out], HQ.out⟩
      case round =>
        obtain ⟨m, hm1, hm2, rfl, rfl, hbm⟩ := hrel
        have hcell := HSV.out _ hbm
        clear m0 m1 m2 m3 m4 m5
        obtain ⟨m0, m1, m2, m3, m4, m5, -⟩ := hcell
        have HBM := Lib.hid hbm
        clear hbm
        have hmm := mo_bound y m (by omega) (by omega) hm1 (by omega)
        by_cases hltm : m < b
        · have hms := mo_succ y m hm1 (by omega)
          have hdd : 0 ≤ dim y m ∧ dim y m ≤ 31 := by
            have e2 := dim_le' y m
            have e3 := lp_le y
            refine ⟨?_, e2⟩
            unfold dim
            repeat' split
            all_goals omega
          have hdd2 := fun W => refDays_any y m W
          generalize dim y m = dd at hms hdd hdd2
          generalize mo y m = n at hmm hms
          have HMS := Lib.hid hms
          have HDD := Lib.hid hdd2
          clear hms hdd2
          go_wp2_with fail
          refine (HDD.out _).mono ?_
          rintro e w1 ⟨rfl, hb1⟩
          have HB1 := Lib.hid (below_next' HBM.out hb1)
          clear hb1
          go_wp2
          refine ⟨⟨m + 1, by omega, by omega, rfl, by rw [HMS.out], HB1.out⟩, by simp [intOf]; omega⟩
        · obtain rfl : m = b := by omega
          have HX := Lib.hid hltm
          clear hltm
          go_wp2_with fail
          go_quiet (fail)
          go_wp2
          go_returns
          exact ⟨rfl, below_drewN HBM.out _⟩
end Go.Proofs.YtkpiebcncjlgcaaDoor
