/-
  No cell of these rows narrows 'for every input' (looked for: loops, veiled, ifaces, maps, wideKeys, modest, calm, conditions, laid).
  DERIVED. THE GIVEN ROWS OF THIS SEAT. 2 by the template 'for every input the law returns true; each argument reads behind the call as it read before'; 0 by the template 'total and deterministic' (their statements: YtncdaohjjhcaaaaTotals.lean).
  GIVEN WITH THE SEED: the statements are not yours to turn. If you find one false, say at which input.
  Laid BY PROGRAM, IN A SANDBOX (cutbox-rows.mjs): the forced cells as the released guide's own fill.sh prints them over the translation b3318bb41acfd2cd… (all of the seat's roots in one cut). By AI agents, Wed Nov 11 2026. No macro, syntax, notation, axiom, sorry.
-/
import Derived.Test.YtncdaohjjhcaaaaChecked
import GoSem.Claim
import GoSem.ClaimJoined
import GoSem.ClaimMapViews
import Derived.JoinedTies
import Derived.KernelRfl
namespace Go.Proofs.Ytncdaohjjhcaaaa
/- THE CELL 'sum', in the pinned program and in every row, IS THE sha256 OF THE DUMP (.gsa) THAT YtncdaohjjhcaaaaProg.lean LOADS. Nothing in Lean hashes anything: it is a label: what it is worth is what the hold of that sum in a sandbox is worth. -/
noncomputable def Try.pinned : Pinned := { name := "ytncdaohjjhcaaaa", sum := "b3318bb41acfd2cdb56d7cc2216c970f4e1e321dca02d33b091031166dff8eb0", checked := Try.checked }
namespace Rows
def none {H : Type} : Left H := { results := [], args := [] }

/-- 'cartularytop.CartularyCodes': WHATEVER THE INPUT: true; the input reads as it did. -/
def cartularyCodesSpec : ChangeSpec := { name := "cartularyCodes", fn := fun _ => fun
  | [d1, d2, d3] => { results := [.lit (.bool true)], args := [d1, d2, d3] }
  | _ => none }
def cartularyCodesRow : OpenClaim := { program := "ytncdaohjjhcaaaa", sum := "b3318bb41acfd2cdb56d7cc2216c970f4e1e321dca02d33b091031166dff8eb0", func := "cartulary/cartularytop.CartularyCodes", spec := "cartularyCodes", apart := false }
def CartularyCodesSaid : Prop := cartularyCodesRow.holds Try.pinned (OpenSpec.ofChange cartularyCodesSpec)

/-- ITS FALSE NEIGHBOUR: 'it returns false'. Refute it at one input. -/
def cartularyCodesWrong : ChangeSpec := { name := "cartularyCodes", fn := fun _ => fun
  | [d1, d2, d3] => { results := [.lit (.bool false)], args := [d1, d2, d3] }
  | _ => none }
def CartularyCodesWrongFalsely : Prop := cartularyCodesRow.holds Try.pinned (OpenSpec.ofChange cartularyCodesWrong)

/-- 'cartularytop.CartularyFrames': WHATEVER THE INPUT: true; the input reads as it did. -/
def cartularyFramesSpec : ChangeSpec := { name := "cartularyFrames", fn := fun _ => fun
  | [d1, d2] => { results := [.lit (.bool true)], args := [d1, d2] }
  | _ => none }
def cartularyFramesRow : OpenClaim := { program := "ytncdaohjjhcaaaa", sum := "b3318bb41acfd2cdb56d7cc2216c970f4e1e321dca02d33b091031166dff8eb0", func := "cartulary/cartularytop.CartularyFrames", spec := "cartularyFrames", unfollowed := true, recurses := true, apart := false }
def CartularyFramesSaid : Prop := cartularyFramesRow.holds Try.pinned (OpenSpec.ofChange cartularyFramesSpec)

/-- ITS FALSE NEIGHBOUR: 'it returns false'. Refute it at one input. -/
def cartularyFramesWrong : ChangeSpec := { name := "cartularyFrames", fn := fun _ => fun
  | [d1, d2] => { results := [.lit (.bool false)], args := [d1, d2] }
  | _ => none }
def CartularyFramesWrongFalsely : Prop := cartularyFramesRow.holds Try.pinned (OpenSpec.ofChange cartularyFramesWrong)

/- THE SECOND FORM. 'bulk': how many values and letters a reading holds, each counted each time it is reached (what is shared counts as often as it is met; a slice's spare places count too). A statement '..UptoSaid' is the law's where the arguments, and the package variables that the reading takes, are together of bulk at most 1048576: NARROWER than '..Said'. Prove '..Said' where nothing that the law and all that it calls make is longer than what came in: it says more and counts as full. Else prove '..UptoSaid'. A law counts once. -/
mutual
def uptoBulk {H : Type} : DataW H → Nat
  | .lit (.string bytes) => bytes.length + 1
  | .lit _ => 1
  | .nil => 1
  | .ptr d => uptoBulk d + 1
  | .slice elems spare => uptoBulkAll elems + uptoBulkAll spare + 1
  | .agg parts => uptoBulkAll parts + 1
  | .iface _ d => uptoBulk d + 1
  | .map entries => uptoBulkEntries entries + 1
  | .held _ => 1
def uptoBulkAll {H : Type} : List (DataW H) → Nat
  | [] => 0
  | d :: r => uptoBulk d + uptoBulkAll r
def uptoBulkEntries {H : Type} : List (Lit × DataW H) → Nat
  | [] => 0
  | x :: r => uptoBulkEntry x + uptoBulkEntries r
def uptoBulkEntry {H : Type} : Lit × DataW H → Nat
  | (.string bytes, d) => bytes.length + uptoBulk d + 1
  | (_, d) => uptoBulk d + 1
 end
def uptoSmall : (H : Type) → List (DataW H) → Bool := fun _ ds => decide (uptoBulkAll ds ≤ 1048576)
def OpenSpec.upto (s : _root_.Go.ChangeSpec) : _root_.Go.OpenSpec := { _root_.Go.OpenSpec.ofChange s with cond := some uptoSmall }

/-- 'cartularytop.CartularyCodes', WHERE WHAT IT READS IS OF BULK AT MOST 1048576: true; the input reads as it did. -/
def cartularyCodesUptoRow : OpenClaim := { program := "ytncdaohjjhcaaaa", sum := "b3318bb41acfd2cdb56d7cc2216c970f4e1e321dca02d33b091031166dff8eb0", func := "cartulary/cartularytop.CartularyCodes", spec := "cartularyCodes", apart := false, narrowed := true }
def CartularyCodesUptoSaid : Prop := cartularyCodesUptoRow.holds Try.pinned (OpenSpec.upto cartularyCodesSpec)

/-- 'cartularytop.CartularyFrames', WHERE WHAT IT READS IS OF BULK AT MOST 1048576: true; the input reads as it did. -/
def cartularyFramesUptoRow : OpenClaim := { program := "ytncdaohjjhcaaaa", sum := "b3318bb41acfd2cdb56d7cc2216c970f4e1e321dca02d33b091031166dff8eb0", func := "cartulary/cartularytop.CartularyFrames", spec := "cartularyFrames", unfollowed := true, recurses := true, apart := false, narrowed := true }
def CartularyFramesUptoSaid : Prop := cartularyFramesUptoRow.holds Try.pinned (OpenSpec.upto cartularyFramesSpec)

end Rows
end Go.Proofs.Ytncdaohjjhcaaaa
