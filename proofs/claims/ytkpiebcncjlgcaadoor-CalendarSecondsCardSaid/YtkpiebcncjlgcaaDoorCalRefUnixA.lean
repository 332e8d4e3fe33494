/- THE WALK of the reference's Unix: dates that are none, seen at once. Conditions: the seven numbers lie in memory. -/
import Derived.Test.YtkpiebcncjlgcaaDoorCalSeven
namespace Go.Proofs.YtkpiebcncjlgcaaDoor
open Go.RowKit
set_option linter.unusedVariables false

set_option maxRecDepth 100000 in
set_option maxHeartbeats 4000000 in
theorem refUnix_bad1 (a b c d h f : Int) (g cap : Nat) (w : World) (hg : g < w.heap.size) (hs : seven7 w g a b c d h f) (hok : a < 1 ∨ 9999 < a ∨ c < 1) :
    Calls Tryd.prog 9 #[.slice (some ⟨g, 0, none⟩) 7 cap] w fun e w' => e = .returned (.tuple #[.int .i64 0, .bool false]) ∧ Below w.heap.size w w' := by
  obtain ⟨k0, k1, k2, k3, k4, k5⟩ := hs
  have hbr : Below w.heap.size w w := Below.refl _ _
  by_cases c1 : a < 1
  · have d1 : decide (a < 1) = true := by simp; omega
    clear hok
    go_enter Tryd.func9, Tryd.ntmps9
    go_wp2_with fail
    try simp only [List.append_eq, List.cons_append, List.nil_append]
    go_quiet (fail)
    go_wp2
    go_returns
    exact ⟨rfl, below_drewN hbr _⟩
  · have d1 : decide (a < 1) = false := by simp; omega
    by_cases c2 : 9999 < a
    · have d2 : decide (9999 < a) = true := by simp; omega
      clear hok
      go_enter Tryd.func9, Tryd.ntmps9
      go_wp2_with fail
      try simp only [List.append_eq, List.cons_append, List.nil_append]
      go_quiet (fail)
      go_wp2
      go_returns
      exact ⟨rfl, below_drewN hbr _⟩
    · have d2 : decide (9999 < a) = false := by simp; omega
      by_cases c3 : c < 1
      · have d3 : decide (c < 1) = true := by simp; omega
        clear hok
        go_enter Tryd.func9, Tryd.ntmps9
        go_wp2_with fail
        try simp only [List.append_eq, List.cons_append, List.nil_append]
        go_quiet (fail)
        go_wp2
        go_returns
        exact ⟨rfl, below_drewN hbr _⟩
      · have d3 : decide (c < 1) = false := by simp; omega
        omega
end Go.Proofs.YtkpiebcncjlgcaaDoor
