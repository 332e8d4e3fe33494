/- THE WALK of the reference's Unix: dates that are none, by their day or later. Conditions: the seven numbers lie in memory. -/
import Derived.Test.YtkpiebcncjlgcaaDoorCalSeven
namespace Go.Proofs.YtkpiebcncjlgcaaDoor
open Go.RowKit
set_option linter.unusedVariables false

set_option maxRecDepth 100000 in
set_option maxHeartbeats 8000000 in
theorem refUnix_bad2 (a b c d h f : Int) (g cap : Nat) (w : World) (hg : g < w.heap.size) (hs : seven7 w g a b c d h f) (c1 : ¬ a < 1) (c2 : ¬ 9999 < a) (c3 : ¬ c < 1) (hok : dim a b < c ∨ d < 0 ∨ 23 < d ∨ h < 0 ∨ 59 < h ∨ f < 0 ∨ 59 < f) :
    Calls Tryd.prog 9 #[.slice (some ⟨g, 0, none⟩) 7 cap] w fun e w' => e = .returned (.tuple #[.int .i64 0, .bool false]) ∧ Below w.heap.size w w' := by
  have hdq : ∀ W, _ := fun W => refDays_any a b W
  generalize hD : dim a b = D at hok hdq
  obtain ⟨k0, k1, k2, k3, k4, k5⟩ := hs
  have HDQ := Lib.hid hdq
  have HSV : RowKit.Hid (∀ w', Below w.heap.size w w' → (w'.cell? ⟨g, 0, none⟩ = some (.int .i64 a) ∧ w'.cell? ⟨g, 1, none⟩ = some (.int .i64 b) ∧ w'.cell? ⟨g, 2, none⟩ = some (.int .i64 c) ∧ w'.cell? ⟨g, 3, none⟩ = some (.int .i64 d) ∧ w'.cell? ⟨g, 4, none⟩ = some (.int .i64 h) ∧ w'.cell? ⟨g, 5, none⟩ = some (.int .i64 f) ∧ Below w.heap.size w w')) := Lib.hid (fun w' hb => by
    have e : ∀ o, w'.cell? ⟨g, o, none⟩ = w.cell? ⟨g, o, none⟩ := fun o => hb.cell (p := ⟨g, o, none⟩) hg
    exact ⟨(e 0).trans k0, (e 1).trans k1, (e 2).trans k2, (e 3).trans k3, (e 4).trans k4, (e 5).trans k5, hb⟩)
  have hbr : Below w.heap.size w w := Below.refl _ _
  have hbd : Below w.heap.size w w.drew := (Below.refl _ _).drew
  have HDIM := Lib.hid hD
  clear hdq hD
  have d1 : decide (a < 1) = false := by simp; omega
  have d2 : decide (9999 < a) = false := by simp; omega
  have d3 : decide (c < 1) = false := by simp; omega
  have HOK := Lib.hid hok
  clear hok c1 c2 c3 k0 k1 k2 k3 k4 k5
  go_enter Tryd.func9, Tryd.ntmps9
  go_wp2_with fail
  try simp only [List.append_eq, List.cons_append, List.nil_append]
  refine region_class (fun w' => w'.cell? ⟨g, 0, none⟩ = some (.int .i64 a) ∧ w'.cell? ⟨g, 1, none⟩ = some (.int .i64 b) ∧ w'.cell? ⟨g, 2, none⟩ = some (.int .i64 c) ∧ w'.cell? ⟨g, 3, none⟩ = some (.int .i64 d) ∧ w'.cell? ⟨g, 4, none⟩ = some (.int .i64 h) ∧ w'.cell? ⟨g, 5, none⟩ = some (.int .i64 f) ∧ Below w.heap.size w w') (by kernel_rfl) (by kernel_rfl) (HSV.out _ hbd) ?_
  repeat (first
    | (refine qskip (by rfl) ?_
       simp only [Act.put, List.setIfInBounds_toArray, List.set_cons_zero, List.set_cons_succ])
    | (refine qtake (v := ?_) (by rfl) (fun w9 hSw => ?_) ?_
       rotate_left
       · (try dsimp only at hSw)
         obtain ⟨k0, k1, k2, k3, k4, k5, -⟩ := hSw
         go_simp
         try with_reducible rfl
       simp only [Act.put, List.setIfInBounds_toArray, List.set_cons_zero, List.set_cons_succ])
    | (refine qcall (v := .int .i64 D) (f := 13) (args := #[.int .i64 a, .int .i64 b]) (by rfl) (fun w9 => ?_) (fun w9 hSw => ?_) ?_
       · go_simp
       · (try dsimp only at hSw)
         obtain ⟨-, -, -, -, -, -, hbw⟩ := hSw
         go_at_call 13
         refine (HDQ.out _).mono ?_
         rintro e w' ⟨rfl, hb⟩
         exact ⟨rfl, HSV.out _ (below_next' hbw hb)⟩
       simp only [Act.put, List.setIfInBounds_toArray, List.set_cons_zero, List.set_cons_succ]))
  by_cases c4 : D < c
  · have d4 : decide (D < c) = true := by simp; omega
    simp only [d4]
    clear c4 d4
    repeat (first
      | (refine qskip (by rfl) ?_
         simp only [Act.put, List.setIfInBounds_toArray, List.set_cons_zero, List.set_cons_succ])
      | (refine qtake (v := ?_) (by rfl) (fun w9 hSw => ?_) ?_
         rotate_left
         · (try dsimp only at hSw)
           obtain ⟨k0, k1, k2, k3, k4, k5, -⟩ := hSw
           go_simp
           try with_reducible rfl
         simp only [Act.put, List.setIfInBounds_toArray, List.set_cons_zero, List.set_cons_succ])
      | (refine qcall (v := .int .i64 D) (f := 13) (args := #[.int .i64 a, .int .i64 b]) (by rfl) (fun w9 => ?_) (fun w9 hSw => ?_) ?_
         · go_simp
         · (try dsimp only at hSw)
           obtain ⟨-, -, -, -, -, -, hbw⟩ := hSw
           go_at_call 13
           refine (HDQ.out _).mono ?_
           rintro e w' ⟨rfl, hb⟩
           exact ⟨rfl, HSV.out _ (below_next' hbw hb)⟩
         simp only [Act.put, List.setIfInBounds_toArray, List.set_cons_zero, List.set_cons_succ]))
    refine wpQuiet_nil ?_
    intro wq hSq
    have hq := hSq.2.2.2.2.2.2
    clear hSq
    clear d1 d2 d3
    go_wp2
    go_returns
    exact ⟨rfl, hq⟩
  · have d4 : decide (D < c) = false := by simp; omega
    have C4 := Lib.hid c4
    simp only [d4]
    clear c4 d4
    repeat (first
      | (refine qskip (by rfl) ?_
         simp only [Act.put, List.setIfInBounds_toArray, List.set_cons_zero, List.set_cons_succ])
      | (refine qtake (v := ?_) (by rfl) (fun w9 hSw => ?_) ?_
         rotate_left
         · (try dsimp only at hSw)
           obtain ⟨k0, k1, k2, k3, k4, k5, -⟩ := hSw
           go_simp
           try with_reducible rfl
         simp only [Act.put, List.setIfInBounds_toArray, List.set_cons_zero, List.set_cons_succ])
      | (refine qcall (v := .int .i64 D) (f := 13) (args := #[.int .i64 a, .int .i64 b]) (by rfl) (fun w9 => ?_) (fun w9 hSw => ?_) ?_
         · go_simp
         · (try dsimp only at hSw)
           obtain ⟨-, -, -, -, -, -, hbw⟩ := hSw
           go_at_call 13
           refine (HDQ.out _).mono ?_
           rintro e w' ⟨rfl, hb⟩
           exact ⟨rfl, HSV.out _ (below_next' hbw hb)⟩
         simp only [Act.put, List.setIfInBounds_toArray, List.set_cons_zero, List.set_cons_succ]))
    by_cases c5 : d < 0
    · have d5 : decide (d < 0) = true := by simp; omega
      simp only [d5]
      clear c5 d5
      repeat (first
        | (refine qskip (by rfl) ?_
           simp only [Act.put, List.setIfInBounds_toArray, List.set_cons_zero, List.set_cons_succ])
        | (refine qtake (v := ?_) (by rfl) (fun w9 hSw => ?_) ?_
           rotate_left
           · (try dsimp only at hSw)
             obtain ⟨k0, k1, k2, k3, k4, k5, -⟩ := hSw
             go_simp
             try with_reducible rfl
           simp only [Act.put, List.setIfInBounds_toArray, List.set_cons_zero, List.set_cons_succ])
        | (refine qcall (v := .int .i64 D) (f := 13) (args := #[.int .i64 a, .int .i64 b]) (by rfl) (fun w9 => ?_) (fun w9 hSw => ?_) ?_
           · go_simp
           · (try dsimp only at hSw)
             obtain ⟨-, -, -, -, -, -, hbw⟩ := hSw
             go_at_call 13
             refine (HDQ.out _).mono ?_
             rintro e w' ⟨rfl, hb⟩
             exact ⟨rfl, HSV.out _ (below_next' hbw hb)⟩
           simp only [Act.put, List.setIfInBounds_toArray, List.set_cons_zero, List.set_cons_succ]))
      refine wpQuiet_nil ?_
      intro wq hSq
      have hq := hSq.2.2.2.2.2.2
      clear hSq
      clear d1 d2 d3
      go_wp2
      go_returns
      exact ⟨rfl, hq⟩
    · have d5 : decide (d < 0) = false := by simp; omega
      have C5 := Lib.hid c5
      simp only [d5]
      clear c5 d5
      repeat (first
        | (refine qskip (by rfl) ?_
           simp only [Act.put, List.setIfInBounds_toArray, List.set_cons_zero, List.set_cons_succ])
        | (refine qtake (v := ?_) (by rfl) (fun w9 hSw => ?_) ?_
           rotate_left
           · (try dsimp only at hSw)
             obtain ⟨k0, k1, k2, k3, k4, k5, -⟩ := hSw
             go_simp
             try with_reducible rfl
           simp only [Act.put, List.setIfInBounds_toArray, List.set_cons_zero, List.set_cons_succ])
        | (refine qcall (v := .int .i64 D) (f := 13) (args := #[.int .i64 a, .int .i64 b]) (by rfl) (fun w9 => ?_) (fun w9 hSw => ?_) ?_
           · go_simp
           · (try dsimp only at hSw)
             obtain ⟨-, -, -, -, -, -, hbw⟩ := hSw
             go_at_call 13
             refine (HDQ.out _).mono ?_
             rintro e w' ⟨rfl, hb⟩
             exact ⟨rfl, HSV.out _ (below_next' hbw hb)⟩
           simp only [Act.put, List.setIfInBounds_toArray, List.set_cons_zero, List.set_cons_succ]))
      by_cases c6 : 23 < d
      · have d6 : decide (23 < d) = true := by simp; omega
        simp only [d6]
        clear c6 d6
        repeat (first
          | (refine qskip (by rfl) ?_
             simp only [Act.put, List.setIfInBounds_toArray, List.set_cons_zero, List.set_cons_succ])
          | (refine qtake (v := ?_) (by rfl) (fun w9 hSw => ?_) ?_
             rotate_left
             · (try dsimp only at hSw)
               obtain ⟨k0, k1, k2, k3, k4, k5, -⟩ := hSw
               go_simp
               try with_reducible rfl
             simp only [Act.put, List.setIfInBounds_toArray, List.set_cons_zero, List.set_cons_succ])
          | (refine qcall (v := .int .i64 D) (f := 13) (args := #[.int .i64 a, .int .i64 b]) (by rfl) (fun w9 => ?_) (fun w9 hSw => ?_) ?_
             · go_simp
             · (try dsimp only at hSw)
               obtain ⟨-, -, -, -, -, -, hbw⟩ := hSw
               go_at_call 13
               refine (HDQ.out _).mono ?_
               rintro e w' ⟨rfl, hb⟩
               exact ⟨rfl, HSV.out _ (below_next' hbw hb)⟩
             simp only [Act.put, List.setIfInBounds_toArray, List.set_cons_zero, List.set_cons_succ]))
        refine wpQuiet_nil ?_
        intro wq hSq
        have hq := hSq.2.2.2.2.2.2
        clear hSq
        clear d1 d2 d3
        go_wp2
        go_returns
        exact ⟨rfl, hq⟩
      · have d6 : decide (23 < d) = false := by simp; omega
        have C6 := Lib.hid c6
        simp only [d6]
        clear c6 d6
        repeat (first
          | (refine qskip (by rfl) ?_
             simp only [Act.put, List.setIfInBounds_toArray, List.set_cons_zero, List.set_cons_succ])
          | (refine qtake (v := ?_) (by rfl) (fun w9 hSw => ?_) ?_
             rotate_left
             · (try dsimp only at hSw)
               obtain ⟨k0, k1, k2, k3, k4, k5, -⟩ := hSw
               go_simp
               try with_reducible rfl
             simp only [Act.put, List.setIfInBounds_toArray, List.set_cons_zero, List.set_cons_succ])
          | (refine qcall (v := .int .i64 D) (f := 13) (args := #[.int .i64 a, .int .i64 b]) (by rfl) (fun w9 => ?_) (fun w9 hSw => ?_) ?_
             · go_simp
             · (try dsimp only at hSw)
               obtain ⟨-, -, -, -, -, -, hbw⟩ := hSw
               go_at_call 13
               refine (HDQ.out _).mono ?_
               rintro e w' ⟨rfl, hb⟩
               exact ⟨rfl, HSV.out _ (below_next' hbw hb)⟩
             simp only [Act.put, List.setIfInBounds_toArray, List.set_cons_zero, List.set_cons_succ]))
        by_cases c7 : h < 0
        · have d7 : decide (h < 0) = true := by simp; omega
          simp only [d7]
          clear c7 d7
          repeat (first
            | (refine qskip (by rfl) ?_
               simp only [Act.put, List.setIfInBounds_toArray, List.set_cons_zero, List.set_cons_succ])
            | (refine qtake (v := ?_) (by rfl) (fun w9 hSw => ?_) ?_
               rotate_left
               · (try dsimp only at hSw)
                 obtain ⟨k0, k1, k2, k3, k4, k5, -⟩ := hSw
                 go_simp
                 try with_reducible rfl
               simp only [Act.put, List.setIfInBounds_toArray, List.set_cons_zero, List.set_cons_succ])
            | (refine qcall (v := .int .i64 D) (f := 13) (args := #[.int .i64 a, .int .i64 b]) (by rfl) (fun w9 => ?_) (fun w9 hSw => ?_) ?_
               · go_simp
               · (try dsimp only at hSw)
                 obtain ⟨-, -, -, -, -, -, hbw⟩ := hSw
                 go_at_call 13
                 refine (HDQ.out _).mono ?_
                 rintro e w' ⟨rfl, hb⟩
                 exact ⟨rfl, HSV.out _ (below_next' hbw hb)⟩
               simp only [Act.put, List.setIfInBounds_toArray, List.set_cons_zero, List.set_cons_succ]))
          refine wpQuiet_nil ?_
          intro wq hSq
          have hq := hSq.2.2.2.2.2.2
          clear hSq
          clear d1 d2 d3
          go_wp2
          go_returns
          exact ⟨rfl, hq⟩
        · have d7 : decide (h < 0) = false := by simp; omega
          have C7 := Lib.hid c7
          simp only [d7]
          clear c7 d7
          repeat (first
            | (refine qskip (by rfl) ?_
               simp only [Act.put, List.setIfInBounds_toArray, List.set_cons_zero, List.set_cons_succ])
            | (refine qtake (v := ?_) (by rfl) (fun w9 hSw => ?_) ?_
               rotate_left
               · (try dsimp only at hSw)
                 obtain ⟨k0, k1, k2, k3, k4, k5, -⟩ := hSw
                 go_simp
                 try with_reducible rfl
               simp only [Act.put, List.setIfInBounds_toArray, List.set_cons_zero, List.set_cons_succ])
            | (refine qcall (v := .int .i64 D) (f := 13) (args := #[.int .i64 a, .int .i64 b]) (by rfl) (fun w9 => ?_) (fun w9 hSw => ?_) ?_
               · go_simp
               · (try dsimp only at hSw)
                 obtain ⟨-, -, -, -, -, -, hbw⟩ := hSw
                 go_at_call 13
                 refine (HDQ.out _).mono ?_
                 rintro e w' ⟨rfl, hb⟩
                 exact ⟨rfl, HSV.out _ (below_next' hbw hb)⟩
               simp only [Act.put, List.setIfInBounds_toArray, List.set_cons_zero, List.set_cons_succ]))
          by_cases c8 : 59 < h
          · have d8 : decide (59 < h) = true := by simp; omega
            simp only [d8]
            clear c8 d8
            repeat (first
              | (refine qskip (by rfl) ?_
                 simp only [Act.put, List.setIfInBounds_toArray, List.set_cons_zero, List.set_cons_succ])
              | (refine qtake (v := ?_) (by rfl) (fun w9 hSw => ?_) ?_
                 rotate_left
                 · (try dsimp only at hSw)
                   obtain ⟨k0, k1, k2, k3, k4, k5, -⟩ := hSw
                   go_simp
                   try with_reducible rfl
                 simp only [Act.put, List.setIfInBounds_toArray, List.set_cons_zero, List.set_cons_succ])
              | (refine qcall (v := .int .i64 D) (f := 13) (args := #[.int .i64 a, .int .i64 b]) (by rfl) (fun w9 => ?_) (fun w9 hSw => ?_) ?_
                 · go_simp
                 · (try dsimp only at hSw)
                   obtain ⟨-, -, -, -, -, -, hbw⟩ := hSw
                   go_at_call 13
                   refine (HDQ.out _).mono ?_
                   rintro e w' ⟨rfl, hb⟩
                   exact ⟨rfl, HSV.out _ (below_next' hbw hb)⟩
                 simp only [Act.put, List.setIfInBounds_toArray, List.set_cons_zero, List.set_cons_succ]))
            refine wpQuiet_nil ?_
            intro wq hSq
            have hq := hSq.2.2.2.2.2.2
            clear hSq
            clear d1 d2 d3
            go_wp2
            go_returns
            exact ⟨rfl, hq⟩
          · have d8 : decide (59 < h) = false := by simp; omega
            have C8 := Lib.hid c8
            simp only [d8]
            clear c8 d8
            repeat (first
              | (refine qskip (by rfl) ?_
                 simp only [Act.put, List.setIfInBounds_toArray, List.set_cons_zero, List.set_cons_succ])
              | (refine qtake (v := ?_) (by rfl) (fun w9 hSw => ?_) ?_
                 rotate_left
                 · (try dsimp only at hSw)
                   obtain ⟨k0, k1, k2, k3, k4, k5, -⟩ := hSw
                   go_simp
                   try with_reducible rfl
                 simp only [Act.put, List.setIfInBounds_toArray, List.set_cons_zero, List.set_cons_succ])
              | (refine qcall (v := .int .i64 D) (f := 13) (args := #[.int .i64 a, .int .i64 b]) (by rfl) (fun w9 => ?_) (fun w9 hSw => ?_) ?_
                 · go_simp
                 · (try dsimp only at hSw)
                   obtain ⟨-, -, -, -, -, -, hbw⟩ := hSw
                   go_at_call 13
                   refine (HDQ.out _).mono ?_
                   rintro e w' ⟨rfl, hb⟩
                   exact ⟨rfl, HSV.out _ (below_next' hbw hb)⟩
                 simp only [Act.put, List.setIfInBounds_toArray, List.set_cons_zero, List.set_cons_succ]))
            by_cases c9 : f < 0
            · have d9 : decide (f < 0) = true := by simp; omega
              simp only [d9]
              clear c9 d9
              repeat (first
                | (refine qskip (by rfl) ?_
                   simp only [Act.put, List.setIfInBounds_toArray, List.set_cons_zero, List.set_cons_succ])
                | (refine qtake (v := ?_) (by rfl) (fun w9 hSw => ?_) ?_
                   rotate_left
                   · (try dsimp only at hSw)
                     obtain ⟨k0, k1, k2, k3, k4, k5, -⟩ := hSw
                     go_simp
                     try with_reducible rfl
                   simp only [Act.put, List.setIfInBounds_toArray, List.set_cons_zero, List.set_cons_succ])
                | (refine qcall (v := .int .i64 D) (f := 13) (args := #[.int .i64 a, .int .i64 b]) (by rfl) (fun w9 => ?_) (fun w9 hSw => ?_) ?_
                   · go_simp
                   · (try dsimp only at hSw)
                     obtain ⟨-, -, -, -, -, -, hbw⟩ := hSw
                     go_at_call 13
                     refine (HDQ.out _).mono ?_
                     rintro e w' ⟨rfl, hb⟩
                     exact ⟨rfl, HSV.out _ (below_next' hbw hb)⟩
                   simp only [Act.put, List.setIfInBounds_toArray, List.set_cons_zero, List.set_cons_succ]))
              refine wpQuiet_nil ?_
              intro wq hSq
              have hq := hSq.2.2.2.2.2.2
              clear hSq
              clear d1 d2 d3
              go_wp2
              go_returns
              exact ⟨rfl, hq⟩
            · have d9 : decide (f < 0) = false := by simp; omega
              have C9 := Lib.hid c9
              simp only [d9]
              clear c9 d9
              repeat (first
                | (refine qskip (by rfl) ?_
                   simp only [Act.put, List.setIfInBounds_toArray, List.set_cons_zero, List.set_cons_succ])
                | (refine qtake (v := ?_) (by rfl) (fun w9 hSw => ?_) ?_
                   rotate_left
                   · (try dsimp only at hSw)
                     obtain ⟨k0, k1, k2, k3, k4, k5, -⟩ := hSw
                     go_simp
                     try with_reducible rfl
                   simp only [Act.put, List.setIfInBounds_toArray, List.set_cons_zero, List.set_cons_succ])
                | (refine qcall (v := .int .i64 D) (f := 13) (args := #[.int .i64 a, .int .i64 b]) (by rfl) (fun w9 => ?_) (fun w9 hSw => ?_) ?_
                   · go_simp
                   · (try dsimp only at hSw)
                     obtain ⟨-, -, -, -, -, -, hbw⟩ := hSw
                     go_at_call 13
                     refine (HDQ.out _).mono ?_
                     rintro e w' ⟨rfl, hb⟩
                     exact ⟨rfl, HSV.out _ (below_next' hbw hb)⟩
                   simp only [Act.put, List.setIfInBounds_toArray, List.set_cons_zero, List.set_cons_succ]))
              by_cases c10 : 59 < f
              · have d10 : decide (59 < f) = true := by simp; omega
                simp only [d10]
                clear c10 d10
                repeat (first
                  | (refine qskip (by rfl) ?_
                     simp only [Act.put, List.setIfInBounds_toArray, List.set_cons_zero, List.set_cons_succ])
                  | (refine qtake (v := ?_) (by rfl) (fun w9 hSw => ?_) ?_
                     rotate_left
                     · (try dsimp only at hSw)
                       obtain ⟨k0, k1, k2, k3, k4, k5, -⟩ := hSw
                       go_simp
                       try with_reducible rfl
                     simp only [Act.put, List.setIfInBounds_toArray, List.set_cons_zero, List.set_cons_succ])
                  | (refine qcall (v := .int .i64 D) (f := 13) (args := #[.int .i64 a, .int .i64 b]) (by rfl) (fun w9 => ?_) (fun w9 hSw => ?_) ?_
                     · go_simp
                     · (try dsimp only at hSw)
                       obtain ⟨-, -, -, -, -, -, hbw⟩ := hSw
                       go_at_call 13
                       refine (HDQ.out _).mono ?_
                       rintro e w' ⟨rfl, hb⟩
                       exact ⟨rfl, HSV.out _ (below_next' hbw hb)⟩
                     simp only [Act.put, List.setIfInBounds_toArray, List.set_cons_zero, List.set_cons_succ]))
                refine wpQuiet_nil ?_
                intro wq hSq
                have hq := hSq.2.2.2.2.2.2
                clear hSq
                clear d1 d2 d3
                go_wp2
                go_returns
                exact ⟨rfl, hq⟩
              · have d10 : decide (59 < f) = false := by simp; omega
                have C10 := Lib.hid c10
                exact absurd HOK.out (by have := C4.out; have := C5.out; have := C6.out; have := C7.out; have := C8.out; have := C9.out; omega)
end Go.Proofs.YtkpiebcncjlgcaaDoor
