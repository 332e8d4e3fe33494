/- THE WALKS of the law's 'list' and 'same', and the reference's Unix of any seven numbers. Conditions: none. -/
import Derived.Test.YtkpiebcncjlgcaaDoorCalRefUnixA
import Derived.Test.YtkpiebcncjlgcaaDoorCalRefUnixB
import Derived.Test.YtkpiebcncjlgcaaDoorCalRefUnixG
namespace Go.Proofs.YtkpiebcncjlgcaaDoor
open Go.RowKit
set_option linter.unusedVariables false

/-- Seven numbers make a block. -/
def block7 (w : World) (g : Nat) (a b c d h f k : Int) : Prop := ∃ T, w.heap[g]? = some (.cells #[.int .i64 a, .int .i64 b, .int .i64 c, .int .i64 d, .int .i64 h, .int .i64 f, .int .i64 k] T (0, 0))
theorem block7.below {B : Nat} {w w' : World} {g : Nat} {a b c d h f k : Int} (q : block7 w g a b c d h f k) (hb : Below B w w') (hg : g < B) : block7 w' g a b c d h f k := by
  obtain ⟨T, q⟩ := q
  exact ⟨T, below_heap hb q hg⟩
theorem block7.lt {w : World} {g : Nat} {a b c d h f k : Int} (q : block7 w g a b c d h f k) : g < w.heap.size := by
  obtain ⟨T, q⟩ := q
  exact lt_of_block q
theorem block7.cells {w : World} {g : Nat} {a b c d h f k : Int} (q : block7 w g a b c d h f k) : w.cell? ⟨g, 0, none⟩ = some (.int .i64 a) ∧ w.cell? ⟨g, 1, none⟩ = some (.int .i64 b) ∧ w.cell? ⟨g, 2, none⟩ = some (.int .i64 c) ∧ w.cell? ⟨g, 3, none⟩ = some (.int .i64 d) ∧ w.cell? ⟨g, 4, none⟩ = some (.int .i64 h) ∧ w.cell? ⟨g, 5, none⟩ = some (.int .i64 f) ∧ w.cell? ⟨g, 6, none⟩ = some (.int .i64 k) := by
  obtain ⟨T, q⟩ := q
  exact ⟨cell_at q 0, cell_at q 1, cell_at q 2, cell_at q 3, cell_at q 4, cell_at q 5, cell_at q 6⟩
theorem block7.seven {w : World} {g : Nat} {a b c d h f k : Int} (q : block7 w g a b c d h f k) : seven7 w g a b c d h f := by
  obtain ⟨q0, q1, q2, q3, q4, q5, q6⟩ := q.cells
  exact ⟨q0, q1, q2, q3, q4, q5⟩

/-- What the reference's Unix answers. -/
def refR (a b c d h f : Int) (r : Int × Bool) : Prop := (okD a b c d h f → r = (secF a b c d h f, true)) ∧ (¬ okD a b c d h f → r = (0, false))
theorem refUnix_any (a b c d h f k : Int) (g : Nat) (w : World) (hs : block7 w g a b c d h f k) (r : Int × Bool) (hr : refR a b c d h f r) :
    Calls Tryd.prog 9 #[.slice (some ⟨g, 0, none⟩) 7 7] w fun e w' => e = .returned (.tuple #[.int .i64 r.1, .bool r.2]) ∧ Below w.heap.size w w' := by
  by_cases ho : okD a b c d h f
  · rw [hr.1 ho]; exact refUnix_ok a b c d h f g 7 w hs.lt hs.seven ho
  · rw [hr.2 ho]
    by_cases h1 : a < 1 ∨ 9999 < a ∨ c < 1
    · exact refUnix_bad1 a b c d h f g 7 w hs.lt hs.seven h1
    · refine refUnix_bad2 a b c d h f g 7 w hs.lt hs.seven (by omega) (by omega) (by omega) ?_
      unfold okD at ho
      omega

set_option maxHeartbeats 1000000 in
theorem list_any (a b c d h f k : Int) (w : World) :
    Calls Tryd.prog 10 #[.agg #[.int .i64 a, .int .i64 b, .int .i64 c, .int .i64 d, .int .i64 h, .int .i64 f, .int .i64 k]] w fun e w' => ∃ g, e = .returned (.slice (some ⟨g, 0, none⟩) 7 7) ∧ block7 w' g a b c d h f k ∧ w.heap.size ≤ g ∧ Below w.heap.size w w' := by
  go_enter Tryd.func10, Tryd.ntmps10
  go_wp2
  go_ret
  exact ⟨_, rfl, ⟨_, heap_alloc_two _ _ _⟩, by simp, ((Below.refl _ _).alloc (Nat.le_refl _) _).alloc (by simp) _⟩
end Go.Proofs.YtkpiebcncjlgcaaDoor
