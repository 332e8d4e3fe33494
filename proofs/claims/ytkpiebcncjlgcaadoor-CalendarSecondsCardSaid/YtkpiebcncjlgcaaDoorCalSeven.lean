/- THE WALK of the reference's Unix. Conditions: the seven numbers lie in memory. -/
import Derived.Test.YtkpiebcncjlgcaaDoorCalUniq
import Derived.Test.YtkpiebcncjlgcaaDoorCalUnstamp
import Derived.Test.YtkpiebcncjlgcaaDoorQuietC
namespace Go.Proofs.YtkpiebcncjlgcaaDoor
open Go.RowKit
set_option linter.unusedVariables false

/-- Seven numbers from a cell on. -/
def seven7 (w : World) (g : Nat) (a b c d h f : Int) : Prop := w.cell? ⟨g, 0, none⟩ = some (.int .i64 a) ∧ w.cell? ⟨g, 1, none⟩ = some (.int .i64 b) ∧ w.cell? ⟨g, 2, none⟩ = some (.int .i64 c) ∧ w.cell? ⟨g, 3, none⟩ = some (.int .i64 d) ∧ w.cell? ⟨g, 4, none⟩ = some (.int .i64 h) ∧ w.cell? ⟨g, 5, none⟩ = some (.int .i64 f)
theorem below_next' {a w w' : World} (h : Below a.heap.size a w) (hb : Below w.heap.size w w') : Below a.heap.size a w' := h.trans (hb.mono h.size)
theorem dim_le' (y m : Int) : dim y m ≤ 31 := by unfold dim; have := lp_le y; split <;> (try split) <;> (try split) <;> omega
theorem ja_base (q : Int) : ja (1 + q * 400) = q * 146097 := by
  unfold ja
  have e : 1 + q * 400 - 1 = q * 400 := by omega
  rw [e]
  have e4 : q * 400 / 4 = q * 100 := by omega
  have e100 : q * 400 / 100 = q * 4 := by omega
  have e400 : q * 400 / 400 = q := by omega
  rw [e4, e100, e400]
  omega
theorem ja_bound (y : Int) (h1 : 1 ≤ y) (h2 : y ≤ 10000) : 0 ≤ ja y ∧ ja y ≤ 3652059 := by unfold ja; omega
theorem mo_bound (y m : Int) (h1 : 1 ≤ y) (h2 : y ≤ 9999) (h3 : 1 ≤ m) (h4 : m ≤ 12) : 0 ≤ mo y m ∧ mo y m ≤ 3652059 := by
  have a := ja_bound y h1 (by omega)
  have b := ja_bound (y + 1) (by omega) (by omega)
  have hs := ja_succ y
  have hl := lp_le y
  rw [mo_val y m h3 h4]
  repeat' split
  all_goals omega
end Go.Proofs.YtkpiebcncjlgcaaDoor
