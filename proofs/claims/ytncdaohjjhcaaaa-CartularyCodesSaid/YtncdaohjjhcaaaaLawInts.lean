/- A SLICE OF INTEGERS THAT CAME IN, opened. No conditions. -/
import Derived.Test.YtncdaohjjhcaaaaLaw
import Derived.Test.YtncdaohjjhcaaaaCodT
import Derived.ChangeSlices
namespace Go.Proofs.Ytncdaohjjhcaaaa
open Go Go.RowKit Go.ChangeShapes
theorem intsIn_of {H : Type} {enc : TypeId × Value → H} {w : World} {spare : Nat → Bool} {held : Bool} {A : Option Addr} {n cap fuel : Nat} {x : DataW H × List MemPlace}
    (hc : Try.prog.cellsOf 3 = 1) (h : DataW.trod enc Try.prog w 0 spare held fuel 22 [.slice A n cap] = some x) : ∃ L, IntsIn w A n cap L := by
  rcases open_ints Try.underlying22 Try.underlying3 hc h with ⟨hcs, hx⟩ | ⟨a, len', cap', zs, hcs, _, hl, hm, hz, hx, hcell, hws⟩
  · simp only [List.cons.injEq, Value.slice.injEq, and_true] at hcs
    obtain ⟨rfl, rfl, rfl⟩ := hcs
    exact ⟨[], rfl, Nat.le_refl _, Nat.zero_le _, fun _ => ⟨rfl, rfl⟩, fun i hi => absurd hi (by omega)⟩
  · simp only [List.cons.injEq, Value.slice.injEq, and_true] at hcs
    obtain ⟨rfl, rfl, rfl⟩ := hcs
    have hn : n ≤ zs.length := by rw [hz]; split <;> omega
    refine ⟨zs.take n, by simp; omega, hl, hm, (fun h => by cases h), ?_⟩
    intro i hi
    have hi' : i < zs.length := by omega
    have hb := World.block_lt_of_cell? w (a.add i) (hcell i hi')
    rw [block_of_add] at hb
    refine ⟨a, rfl, hb, ?_⟩
    have e : (zs.take n).getD i 0 = zs.getD i 0 := by simp [List.getD, List.getElem?_take, hi]
    rw [e]
    exact hcell i hi'
end Go.Proofs.Ytncdaohjjhcaaaa
