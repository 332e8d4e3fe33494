/- WHAT THE ROW's CONDITION GIVES THE WALK of CartularyTimes: the library's table of the powers of ten stands. -/
import Derived.Test.YtkpiebcncjlgcaaDoorCalLaid
namespace Go.Proofs.YtkpiebcncjlgcaaDoor
open Go Go.ChangeShapes Go.WideShapes Go.ChangeAt Go.WideMaps Go.WideElems Go.RowKit

theorem times_laid {W : World} (h : laidMetH Tryd.prog Rows.cartularyTimesRow.laid W) : tabOk W := by
  rw [MakeChecks.laidMetH_plain _ _ _ (by kernel_rfl)] at h
  obtain ⟨ps, ⟨g0, t0, cs0, f0, p0, q0, hg0, ht0, hv0, hd0, ⟨g1, t1, cs1, f1, p1, q1, hg1, ht1, hv1, hd1, ⟨g2, t2, cs2, f2, p2, q2, hg2, ht2, hv2, hd2, _, _⟩, _⟩, _⟩, _, _⟩ := h
  obtain rfl := Option.some.inj (gPow.symm.trans hg2)
  obtain rfl := Option.some.inj (tPow.symm.trans ht2)
  rw [pow_data] at hd2
  unfold tabOk Lib.TabIs
  rw [hv2, ← Lib.cells_of_tab Tryd.underlying98 Tryd.underlying87 (by kernel_rfl) (by kernel_rfl) hd2]
end Go.Proofs.YtkpiebcncjlgcaaDoor
