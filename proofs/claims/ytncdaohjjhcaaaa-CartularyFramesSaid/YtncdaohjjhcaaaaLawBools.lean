/- A SLICE OF BOOLS THAT CAME IN, opened. No conditions. -/
import Derived.Test.YtncdaohjjhcaaaaLaw
import Derived.Deep.Grids
import Derived.Test.YtncdaohjjhcaaaaWorld
namespace Go.Proofs.Ytncdaohjjhcaaaa
open Go Go.RowKit Go.ChangeShapes
/-- A slice of bools in memory: cell i says Z i. -/
structure BoolsIn (w : World) (A : Option Addr) (n cap : Nat) (Z : Nat → Bool) : Prop where
  le : n ≤ cap
  small : cap ≤ maxLen
  at_ : ∀ i, i < n → ∃ ad, A = some ad ∧ ad.block < w.heap.size ∧ w.cell? (ad.add i) = some (.bool (Z i))
theorem boolsIn_of {H : Type} {enc : TypeId × Value → H} {w : World} {held : Bool} {A : Option Addr} {n cap fuel : Nat} {x : DataW H × List MemPlace}
    (hc : Try.prog.cellsOf 4 = 1) (h : DataW.trod enc Try.prog w 0 (fun _ => true) held fuel 47 [.slice A n cap] = some x) : ∃ Z, BoolsIn w A n cap Z := by
  rcases Go.Deep.open_bools Try.underlying47 Try.underlying4 hc h with ⟨hcs, hx⟩ | ⟨a, len', cap', B, hcs, _, hl, hm, hx, hcell⟩
  · simp only [List.cons.injEq, Value.slice.injEq, and_true] at hcs
    obtain ⟨rfl, rfl, rfl⟩ := hcs
    exact ⟨fun _ => false, Nat.le_refl _, Nat.zero_le _, fun i hi => absurd hi (by omega)⟩
  · simp only [List.cons.injEq, Value.slice.injEq, and_true] at hcs
    obtain ⟨rfl, rfl, rfl⟩ := hcs
    refine ⟨B, hl, hm, fun i hi => ?_⟩
    have hi' : i < cap := by omega
    have hb := World.block_lt_of_cell? w (a.add i) (hcell i hi')
    rw [block_of_add] at hb
    exact ⟨a, rfl, hb, hcell i hi'⟩
end Go.Proofs.Ytncdaohjjhcaaaa
