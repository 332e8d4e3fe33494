/- THE WALKS: semver.Canonical at what is no version; Compare and byWords at versions that end in stamps; the document's Parse whole. Conditions: bounds on lengths. -/
import Derived.Test.YtkpiebcncjlgcaaDoorSemI1
import Derived.Test.YtkpiebcncjlgcaaDoorSemI2
import Derived.Test.YtkpiebcncjlgcaaDoorSemK
import Derived.Test.YtkpiebcncjlgcaaDoorSemT
namespace Go.Proofs.YtkpiebcncjlgcaaDoor.Sem
open Go Go.RowKit
set_option linter.unusedVariables false

theorem rparse_all (l : List UInt8) (w : World) (hz : l.length ≤ 1000) :
    Calls Tryd.prog 21 #[.string (tx l)] w fun e w' => RP l e ∧ Below w.heap.size w w' := by
  by_cases hl : 2 ≤ l.length ∧ l.length ≤ 100 ∧ l.head? = some 118
  · by_cases hm : (43 : UInt8) ∈ l.tail
    · exact rparse_plus l w hl hm
    · exact rparse_noplus l w hl hm
  · exact rparse_front_none l w hz hl

set_option maxRecDepth 100000 in
theorem canonical_none (l : List UInt8) (w : World) (hz : l.length ≤ 1000000) (h : pparse l = none) :
    Calls Tryd.prog 22 #[.string (tx l)] w fun e w' => e = .returned (.string ⟨#[]⟩) ∧ Below w.heap.size w w' := by
  have HP := Lib.hid (parse_none l w hz h)
  unfold zerA at HP
  clear h
  go_enter Tryd.func22, Tryd.ntmps22
  go_wp2_with fail
  refine HP.out.mono ?_
  rintro e w1 ⟨rfl, hb⟩
  have HB := Lib.hid (hb.alloc hb.size (.cells #[.string ⟨#[]⟩, .string ⟨#[]⟩, .string ⟨#[]⟩, .string ⟨#[]⟩, .string ⟨#[]⟩, .int .i64 0] 49))
  clear hb
  go_wp2
  go_ret
  exact ⟨rfl, HB.out⟩

theorem byWords_end (C x y : List UInt8) (w : World) (hC : Ends C) (hx : 46 ∉ x) (hy : 46 ∉ y) (hx0 : x ≠ []) (hy0 : y ≠ []) (hl : x.length = y.length) (hd : digitsB x = digitsB y) (hz : (C ++ x).length ≤ 1000) :
    Calls Tryd.prog 42 #[.string (tx (C ++ x)), .string (tx (C ++ y))] w fun e w' => e = .returned (.int .i64 (Lib.compareBytes x y)) ∧ Below w.heap.size w w' := by
  by_cases h : x = y
  · subst h
    rw [cmp_self]
    exact byWords_same _ w
  · exact byWords_last C x y w hC hx hy hx0 hy0 h hl hd hz
end Go.Proofs.YtkpiebcncjlgcaaDoor.Sem
