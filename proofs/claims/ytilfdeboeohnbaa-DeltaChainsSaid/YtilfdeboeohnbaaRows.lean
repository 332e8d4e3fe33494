/-
  No cell of these rows narrows 'for every input' (looked for: loops, veiled, ifaces, maps, wideKeys, modest, calm, conditions, laid).
  DERIVED. THE GIVEN ROWS OF THIS SEAT. 5 by the template 'for every input the law returns true; each argument reads behind the call as it read before'; 0 by the template 'total and deterministic' (their statements: YtilfdeboeohnbaaTotals.lean).
  GIVEN WITH THE SEED: the statements are not yours to turn. If you find one false, say at which input.
  Laid BY PROGRAM, IN A SANDBOX (cutbox-rows.mjs): the forced cells as the released guide's own fill.sh prints them over the translation eafb9e37e7ac8f2f… (all of the seat's roots in one cut). By AI agents, Wed Nov 11 2026. No macro, syntax, notation, axiom, sorry.
-/
import Derived.Test.YtilfdeboeohnbaaChecked
import GoSem.Claim
import GoSem.ClaimJoined
import GoSem.ClaimMapViews
import Derived.JoinedTies
import Derived.KernelRfl
namespace Go.Proofs.Ytilfdeboeohnbaa
/- THE CELL 'sum', in the pinned program and in every row, IS THE sha256 OF THE DUMP (.gsa) THAT YtilfdeboeohnbaaProg.lean LOADS. Nothing in Lean hashes anything: it is a label: what it is worth is what the hold of that sum in a sandbox is worth. -/
noncomputable def Try.pinned : Pinned := { name := "ytilfdeboeohnbaa", sum := "eafb9e37e7ac8f2f3bdb6616fe19c661d578e56a807a928030763bf1ad3c9940", checked := Try.checked }
namespace Rows
def none {H : Type} : Left H := { results := [], args := [] }

/-- 'cartularylaw10.DeltaApplies': WHATEVER THE INPUT: true; the input reads as it did. -/
def deltaAppliesSpec : ChangeSpec := { name := "deltaApplies", fn := fun _ => fun
  | [d1, d2, d3] => { results := [.lit (.bool true)], args := [d1, d2, d3] }
  | _ => none }
def deltaAppliesRow : OpenClaim := { program := "ytilfdeboeohnbaa", sum := "eafb9e37e7ac8f2f3bdb6616fe19c661d578e56a807a928030763bf1ad3c9940", func := "cartulary/cartularylaw10.DeltaApplies", spec := "deltaApplies", unfollowed := true, recurses := true, apart := false }
def DeltaAppliesSaid : Prop := deltaAppliesRow.holds Try.pinned (OpenSpec.ofChange deltaAppliesSpec)

/-- ITS FALSE NEIGHBOUR: 'it returns false'. Refute it at one input. -/
def deltaAppliesWrong : ChangeSpec := { name := "deltaApplies", fn := fun _ => fun
  | [d1, d2, d3] => { results := [.lit (.bool false)], args := [d1, d2, d3] }
  | _ => none }
def DeltaAppliesWrongFalsely : Prop := deltaAppliesRow.holds Try.pinned (OpenSpec.ofChange deltaAppliesWrong)

/-- 'cartularylaw10.DeltaBases': WHATEVER THE INPUT: true; the input reads as it did. -/
def deltaBasesSpec : ChangeSpec := { name := "deltaBases", fn := fun _ => fun
  | [d1, d2, d3] => { results := [.lit (.bool true)], args := [d1, d2, d3] }
  | _ => none }
def deltaBasesRow : OpenClaim := { program := "ytilfdeboeohnbaa", sum := "eafb9e37e7ac8f2f3bdb6616fe19c661d578e56a807a928030763bf1ad3c9940", func := "cartulary/cartularylaw10.DeltaBases", spec := "deltaBases", unfollowed := true, recurses := true, apart := false }
def DeltaBasesSaid : Prop := deltaBasesRow.holds Try.pinned (OpenSpec.ofChange deltaBasesSpec)

/-- ITS FALSE NEIGHBOUR: 'it returns false'. Refute it at one input. -/
def deltaBasesWrong : ChangeSpec := { name := "deltaBases", fn := fun _ => fun
  | [d1, d2, d3] => { results := [.lit (.bool false)], args := [d1, d2, d3] }
  | _ => none }
def DeltaBasesWrongFalsely : Prop := deltaBasesRow.holds Try.pinned (OpenSpec.ofChange deltaBasesWrong)

/-- 'cartularylaw10.DeltaMakes': WHATEVER THE INPUT: true; the input reads as it did. -/
def deltaMakesSpec : ChangeSpec := { name := "deltaMakes", fn := fun _ => fun
  | [d1, d2] => { results := [.lit (.bool true)], args := [d1, d2] }
  | _ => none }
def deltaMakesRow : OpenClaim := { program := "ytilfdeboeohnbaa", sum := "eafb9e37e7ac8f2f3bdb6616fe19c661d578e56a807a928030763bf1ad3c9940", func := "cartulary/cartularylaw10.DeltaMakes", spec := "deltaMakes", unfollowed := true, recurses := true, apart := false }
def DeltaMakesSaid : Prop := deltaMakesRow.holds Try.pinned (OpenSpec.ofChange deltaMakesSpec)

/-- ITS FALSE NEIGHBOUR: 'it returns false'. Refute it at one input. -/
def deltaMakesWrong : ChangeSpec := { name := "deltaMakes", fn := fun _ => fun
  | [d1, d2] => { results := [.lit (.bool false)], args := [d1, d2] }
  | _ => none }
def DeltaMakesWrongFalsely : Prop := deltaMakesRow.holds Try.pinned (OpenSpec.ofChange deltaMakesWrong)

/-- 'cartularylaw10.DeltaChains': WHATEVER THE INPUT: true; the input reads as it did. -/
def deltaChainsSpec : ChangeSpec := { name := "deltaChains", fn := fun _ => fun
  | [d] => { results := [.lit (.bool true)], args := [d] }
  | _ => none }
def deltaChainsRow : OpenClaim := { program := "ytilfdeboeohnbaa", sum := "eafb9e37e7ac8f2f3bdb6616fe19c661d578e56a807a928030763bf1ad3c9940", func := "cartulary/cartularylaw10.DeltaChains", spec := "deltaChains", unfollowed := true, recurses := true, apart := false }
def DeltaChainsSaid : Prop := deltaChainsRow.holds Try.pinned (OpenSpec.ofChange deltaChainsSpec)

/-- ITS FALSE NEIGHBOUR: 'it returns false'. Refute it at one input. -/
def deltaChainsWrong : ChangeSpec := { name := "deltaChains", fn := fun _ => fun
  | [d] => { results := [.lit (.bool false)], args := [d] }
  | _ => none }
def DeltaChainsWrongFalsely : Prop := deltaChainsRow.holds Try.pinned (OpenSpec.ofChange deltaChainsWrong)

/-- 'cartularylaw10.DeltaNothing': WHATEVER THE INPUT: true; the input reads as it did. -/
def deltaNothingSpec : ChangeSpec := { name := "deltaNothing", fn := fun _ => fun
  | [d] => { results := [.lit (.bool true)], args := [d] }
  | _ => none }
def deltaNothingRow : OpenClaim := { program := "ytilfdeboeohnbaa", sum := "eafb9e37e7ac8f2f3bdb6616fe19c661d578e56a807a928030763bf1ad3c9940", func := "cartulary/cartularylaw10.DeltaNothing", spec := "deltaNothing", unfollowed := true, recurses := true, apart := false }
def DeltaNothingSaid : Prop := deltaNothingRow.holds Try.pinned (OpenSpec.ofChange deltaNothingSpec)

/-- ITS FALSE NEIGHBOUR: 'it returns false'. Refute it at one input. -/
def deltaNothingWrong : ChangeSpec := { name := "deltaNothing", fn := fun _ => fun
  | [d] => { results := [.lit (.bool false)], args := [d] }
  | _ => none }
def DeltaNothingWrongFalsely : Prop := deltaNothingRow.holds Try.pinned (OpenSpec.ofChange deltaNothingWrong)

/- THE SECOND FORM. 'bulk': how many values and letters a reading holds, each counted each time it is reached (what is shared counts as often as it is met; a slice's spare places count too). A statement '..UptoSaid' is the law's where the arguments, and the package variables that the reading takes, are together of bulk at most 1048576: NARROWER than '..Said'. Prove '..Said' where nothing that the law and all that it calls make is longer than what came in: it says more and counts as full. Else prove '..UptoSaid'. A law counts once. -/
mutual
def uptoBulk {H : Type} : DataW H → Nat
  | .lit (.string bytes) => bytes.length + 1
  | .lit _ => 1
  | .nil => 1
  | .ptr d => uptoBulk d + 1
  | .slice elems spare => uptoBulkAll elems + uptoBulkAll spare + 1
  | .agg parts => uptoBulkAll parts + 1
  | .iface _ d => uptoBulk d + 1
  | .map entries => uptoBulkEntries entries + 1
  | .held _ => 1
def uptoBulkAll {H : Type} : List (DataW H) → Nat
  | [] => 0
  | d :: r => uptoBulk d + uptoBulkAll r
def uptoBulkEntries {H : Type} : List (Lit × DataW H) → Nat
  | [] => 0
  | x :: r => uptoBulkEntry x + uptoBulkEntries r
def uptoBulkEntry {H : Type} : Lit × DataW H → Nat
  | (.string bytes, d) => bytes.length + uptoBulk d + 1
  | (_, d) => uptoBulk d + 1
 end
def uptoSmall : (H : Type) → List (DataW H) → Bool := fun _ ds => decide (uptoBulkAll ds ≤ 1048576)
def OpenSpec.upto (s : _root_.Go.ChangeSpec) : _root_.Go.OpenSpec := { _root_.Go.OpenSpec.ofChange s with cond := some uptoSmall }

/-- 'cartularylaw10.DeltaApplies', WHERE WHAT IT READS IS OF BULK AT MOST 1048576: true; the input reads as it did. -/
def deltaAppliesUptoRow : OpenClaim := { program := "ytilfdeboeohnbaa", sum := "eafb9e37e7ac8f2f3bdb6616fe19c661d578e56a807a928030763bf1ad3c9940", func := "cartulary/cartularylaw10.DeltaApplies", spec := "deltaApplies", unfollowed := true, recurses := true, apart := false, narrowed := true }
def DeltaAppliesUptoSaid : Prop := deltaAppliesUptoRow.holds Try.pinned (OpenSpec.upto deltaAppliesSpec)

/-- 'cartularylaw10.DeltaBases', WHERE WHAT IT READS IS OF BULK AT MOST 1048576: true; the input reads as it did. -/
def deltaBasesUptoRow : OpenClaim := { program := "ytilfdeboeohnbaa", sum := "eafb9e37e7ac8f2f3bdb6616fe19c661d578e56a807a928030763bf1ad3c9940", func := "cartulary/cartularylaw10.DeltaBases", spec := "deltaBases", unfollowed := true, recurses := true, apart := false, narrowed := true }
def DeltaBasesUptoSaid : Prop := deltaBasesUptoRow.holds Try.pinned (OpenSpec.upto deltaBasesSpec)

/-- 'cartularylaw10.DeltaMakes', WHERE WHAT IT READS IS OF BULK AT MOST 1048576: true; the input reads as it did. -/
def deltaMakesUptoRow : OpenClaim := { program := "ytilfdeboeohnbaa", sum := "eafb9e37e7ac8f2f3bdb6616fe19c661d578e56a807a928030763bf1ad3c9940", func := "cartulary/cartularylaw10.DeltaMakes", spec := "deltaMakes", unfollowed := true, recurses := true, apart := false, narrowed := true }
def DeltaMakesUptoSaid : Prop := deltaMakesUptoRow.holds Try.pinned (OpenSpec.upto deltaMakesSpec)

/-- 'cartularylaw10.DeltaChains', WHERE WHAT IT READS IS OF BULK AT MOST 1048576: true; the input reads as it did. -/
def deltaChainsUptoRow : OpenClaim := { program := "ytilfdeboeohnbaa", sum := "eafb9e37e7ac8f2f3bdb6616fe19c661d578e56a807a928030763bf1ad3c9940", func := "cartulary/cartularylaw10.DeltaChains", spec := "deltaChains", unfollowed := true, recurses := true, apart := false, narrowed := true }
def DeltaChainsUptoSaid : Prop := deltaChainsUptoRow.holds Try.pinned (OpenSpec.upto deltaChainsSpec)

/-- 'cartularylaw10.DeltaNothing', WHERE WHAT IT READS IS OF BULK AT MOST 1048576: true; the input reads as it did. -/
def deltaNothingUptoRow : OpenClaim := { program := "ytilfdeboeohnbaa", sum := "eafb9e37e7ac8f2f3bdb6616fe19c661d578e56a807a928030763bf1ad3c9940", func := "cartulary/cartularylaw10.DeltaNothing", spec := "deltaNothing", unfollowed := true, recurses := true, apart := false, narrowed := true }
def DeltaNothingUptoSaid : Prop := deltaNothingUptoRow.holds Try.pinned (OpenSpec.upto deltaNothingSpec)

end Rows
end Go.Proofs.Ytilfdeboeohnbaa
