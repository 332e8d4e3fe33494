/- THE WALKS of the small functions: Find, Digits, Number of the document's; number, digits, Cut at one byte of the program's. No conditions. -/
import Derived.Test.YtgojmckfabhkaaaDoorRows
import Derived.WalkKit
import Derived.WalkSpells
import Derived.Handy
import Derived.Lib.Hide
import Derived.Deep.RegionLaw
import Derived.BigQuiet
import Derived.Test.YtgojmckfabhkaaaDoorWorld
import Derived.Test.YtgojmckfabhkaaaDoorSemMath
import Derived.Test.YtgojmckfabhkaaaDoorSemLib
namespace Go.Proofs.YtgojmckfabhkaaaDoor.Sem
open Go Go.RowKit
set_option linter.unusedVariables false

theorem dig_iff (c : UInt8) : isDig c = true ↔ 48 ≤ c.toNat ∧ c.toNat ≤ 57 := by unfold isDig; simp
theorem dig_not (c : UInt8) : isDig c = false ↔ c.toNat < 48 ∨ 57 < c.toNat := by
  cases h : isDig c with
  | true => have := (dig_iff c).1 h; simp; omega
  | false => simp; apply Decidable.byContradiction; intro hn; have := (dig_iff c).2 (by omega); rw [h] at this; cases this

/-- What 'Find' answers. -/
def FindV (l : List UInt8) (c : UInt8) : Int := if c ∈ l then ((cutA c l).length : Int) else -1

end Go.Proofs.YtgojmckfabhkaaaDoor.Sem
