/-
  No cell of these rows narrows 'for every input' (looked for: loops, veiled, ifaces, maps, wideKeys, modest, calm, conditions, laid).
  DERIVED. THE GIVEN ROWS OF THIS SEAT. 7 by the template 'for every input the law returns true; each argument reads behind the call as it read before'; 0 by the template 'total and deterministic' (their statements: YtdhafmjhohnclaaTotals.lean).
  GIVEN WITH THE SEED: the statements are not yours to turn. If you find one false, say at which input.
  Laid BY PROGRAM, IN A SANDBOX (cutbox-rows.mjs): the forced cells as the released guide's own fill.sh prints them over the translation bb7616ff9ae14be1… (all of the seat's roots in one cut). By AI agents, Wed Nov 11 2026. No macro, syntax, notation, axiom, sorry.
-/
import Derived.Test.YtdhafmjhohnclaaChecked
import GoSem.Claim
import GoSem.ClaimJoined
import GoSem.ClaimMapViews
import Derived.JoinedTies
import Derived.KernelRfl
namespace Go.Proofs.Ytdhafmjhohnclaa
/- THE CELL 'sum', in the pinned program and in every row, IS THE sha256 OF THE DUMP (.gsa) THAT YtdhafmjhohnclaaProg.lean LOADS. Nothing in Lean hashes anything: it is a label: what it is worth is what the hold of that sum in a sandbox is worth. -/
noncomputable def Try.pinned : Pinned := { name := "ytdhafmjhohnclaa", sum := "bb7616ff9ae14be183c34efece679363aff1db8c4357b9b0b1a680d9430bf4a9", checked := Try.checked }
namespace Rows
def none {H : Type} : Left H := { results := [], args := [] }

/-- 'cartularylaw01.SumsSums': WHATEVER THE INPUT: true; the input reads as it did. -/
def sumsSumsSpec : ChangeSpec := { name := "sumsSums", fn := fun _ => fun
  | [d] => { results := [.lit (.bool true)], args := [d] }
  | _ => none }
def sumsSumsRow : OpenClaim := { program := "ytdhafmjhohnclaa", sum := "bb7616ff9ae14be183c34efece679363aff1db8c4357b9b0b1a680d9430bf4a9", func := "cartulary/cartularylaw01.SumsSums", spec := "sumsSums", apart := false }
def SumsSumsSaid : Prop := sumsSumsRow.holds Try.pinned (OpenSpec.ofChange sumsSumsSpec)

/-- ITS FALSE NEIGHBOUR: 'it returns false'. Refute it at one input. -/
def sumsSumsWrong : ChangeSpec := { name := "sumsSums", fn := fun _ => fun
  | [d] => { results := [.lit (.bool false)], args := [d] }
  | _ => none }
def SumsSumsWrongFalsely : Prop := sumsSumsRow.holds Try.pinned (OpenSpec.ofChange sumsSumsWrong)

/-- 'cartularylaw01.SumsParts': WHATEVER THE INPUT: true; the input reads as it did. -/
def sumsPartsSpec : ChangeSpec := { name := "sumsParts", fn := fun _ => fun
  | [d] => { results := [.lit (.bool true)], args := [d] }
  | _ => none }
def sumsPartsRow : OpenClaim := { program := "ytdhafmjhohnclaa", sum := "bb7616ff9ae14be183c34efece679363aff1db8c4357b9b0b1a680d9430bf4a9", func := "cartulary/cartularylaw01.SumsParts", spec := "sumsParts", apart := false }
def SumsPartsSaid : Prop := sumsPartsRow.holds Try.pinned (OpenSpec.ofChange sumsPartsSpec)

/-- ITS FALSE NEIGHBOUR: 'it returns false'. Refute it at one input. -/
def sumsPartsWrong : ChangeSpec := { name := "sumsParts", fn := fun _ => fun
  | [d] => { results := [.lit (.bool false)], args := [d] }
  | _ => none }
def SumsPartsWrongFalsely : Prop := sumsPartsRow.holds Try.pinned (OpenSpec.ofChange sumsPartsWrong)

/-- 'cartularylaw01.SumsApart': WHATEVER THE INPUT: true; the input reads as it did. -/
def sumsApartSpec : ChangeSpec := { name := "sumsApart", fn := fun _ => fun
  | [d1, d2, d3] => { results := [.lit (.bool true)], args := [d1, d2, d3] }
  | _ => none }
def sumsApartRow : OpenClaim := { program := "ytdhafmjhohnclaa", sum := "bb7616ff9ae14be183c34efece679363aff1db8c4357b9b0b1a680d9430bf4a9", func := "cartulary/cartularylaw01.SumsApart", spec := "sumsApart", apart := false }
def SumsApartSaid : Prop := sumsApartRow.holds Try.pinned (OpenSpec.ofChange sumsApartSpec)

/-- ITS FALSE NEIGHBOUR: 'it returns false'. Refute it at one input. -/
def sumsApartWrong : ChangeSpec := { name := "sumsApart", fn := fun _ => fun
  | [d1, d2, d3] => { results := [.lit (.bool false)], args := [d1, d2, d3] }
  | _ => none }
def SumsApartWrongFalsely : Prop := sumsApartRow.holds Try.pinned (OpenSpec.ofChange sumsApartWrong)

/-- 'cartularylaw01.SumsDigits': WHATEVER THE INPUT: true; the input reads as it did. -/
def sumsDigitsSpec : ChangeSpec := { name := "sumsDigits", fn := fun _ => fun
  | [d1, d2] => { results := [.lit (.bool true)], args := [d1, d2] }
  | _ => none }
def sumsDigitsRow : OpenClaim := { program := "ytdhafmjhohnclaa", sum := "bb7616ff9ae14be183c34efece679363aff1db8c4357b9b0b1a680d9430bf4a9", func := "cartulary/cartularylaw01.SumsDigits", spec := "sumsDigits", apart := false }
def SumsDigitsSaid : Prop := sumsDigitsRow.holds Try.pinned (OpenSpec.ofChange sumsDigitsSpec)

/-- ITS FALSE NEIGHBOUR: 'it returns false'. Refute it at one input. -/
def sumsDigitsWrong : ChangeSpec := { name := "sumsDigits", fn := fun _ => fun
  | [d1, d2] => { results := [.lit (.bool false)], args := [d1, d2] }
  | _ => none }
def SumsDigitsWrongFalsely : Prop := sumsDigitsRow.holds Try.pinned (OpenSpec.ofChange sumsDigitsWrong)

/-- 'cartularylaw01.SumsNumbers': WHATEVER THE INPUT: true; the input reads as it did. -/
def sumsNumbersSpec : ChangeSpec := { name := "sumsNumbers", fn := fun _ => fun
  | [d1, d2, d3] => { results := [.lit (.bool true)], args := [d1, d2, d3] }
  | _ => none }
def sumsNumbersRow : OpenClaim := { program := "ytdhafmjhohnclaa", sum := "bb7616ff9ae14be183c34efece679363aff1db8c4357b9b0b1a680d9430bf4a9", func := "cartulary/cartularylaw01.SumsNumbers", spec := "sumsNumbers", apart := false }
def SumsNumbersSaid : Prop := sumsNumbersRow.holds Try.pinned (OpenSpec.ofChange sumsNumbersSpec)

/-- ITS FALSE NEIGHBOUR: 'it returns false'. Refute it at one input. -/
def sumsNumbersWrong : ChangeSpec := { name := "sumsNumbers", fn := fun _ => fun
  | [d1, d2, d3] => { results := [.lit (.bool false)], args := [d1, d2, d3] }
  | _ => none }
def SumsNumbersWrongFalsely : Prop := sumsNumbersRow.holds Try.pinned (OpenSpec.ofChange sumsNumbersWrong)

/-- 'cartularylaw01.SumsBack': WHATEVER THE INPUT: true; the input reads as it did. -/
def sumsBackSpec : ChangeSpec := { name := "sumsBack", fn := fun _ => fun
  | [d] => { results := [.lit (.bool true)], args := [d] }
  | _ => none }
def sumsBackRow : OpenClaim := { program := "ytdhafmjhohnclaa", sum := "bb7616ff9ae14be183c34efece679363aff1db8c4357b9b0b1a680d9430bf4a9", func := "cartulary/cartularylaw01.SumsBack", spec := "sumsBack", apart := false }
def SumsBackSaid : Prop := sumsBackRow.holds Try.pinned (OpenSpec.ofChange sumsBackSpec)

/-- ITS FALSE NEIGHBOUR: 'it returns false'. Refute it at one input. -/
def sumsBackWrong : ChangeSpec := { name := "sumsBack", fn := fun _ => fun
  | [d] => { results := [.lit (.bool false)], args := [d] }
  | _ => none }
def SumsBackWrongFalsely : Prop := sumsBackRow.holds Try.pinned (OpenSpec.ofChange sumsBackWrong)

/-- 'cartularytop.CartularyDigests': WHATEVER THE INPUT: true; the input reads as it did. -/
def cartularyDigestsSpec : ChangeSpec := { name := "cartularyDigests", fn := fun _ => fun
  | [d] => { results := [.lit (.bool true)], args := [d] }
  | _ => none }
def cartularyDigestsRow : OpenClaim := { program := "ytdhafmjhohnclaa", sum := "bb7616ff9ae14be183c34efece679363aff1db8c4357b9b0b1a680d9430bf4a9", func := "cartulary/cartularytop.CartularyDigests", spec := "cartularyDigests", unfollowed := true, recurses := true, apart := false }
def CartularyDigestsSaid : Prop := cartularyDigestsRow.holds Try.pinned (OpenSpec.ofChange cartularyDigestsSpec)

/-- ITS FALSE NEIGHBOUR: 'it returns false'. Refute it at one input. -/
def cartularyDigestsWrong : ChangeSpec := { name := "cartularyDigests", fn := fun _ => fun
  | [d] => { results := [.lit (.bool false)], args := [d] }
  | _ => none }
def CartularyDigestsWrongFalsely : Prop := cartularyDigestsRow.holds Try.pinned (OpenSpec.ofChange cartularyDigestsWrong)

/- THE SECOND FORM. 'bulk': how many values and letters a reading holds, each counted each time it is reached (what is shared counts as often as it is met; a slice's spare places count too). A statement '..UptoSaid' is the law's where the arguments, and the package variables that the reading takes, are together of bulk at most 1048576: NARROWER than '..Said'. Prove '..Said' where nothing that the law and all that it calls make is longer than what came in: it says more and counts as full. Else prove '..UptoSaid'. A law counts once. -/
mutual
def uptoBulk {H : Type} : DataW H → Nat
  | .lit (.string bytes) => bytes.length + 1
  | .lit _ => 1
  | .nil => 1
  | .ptr d => uptoBulk d + 1
  | .slice elems spare => uptoBulkAll elems + uptoBulkAll spare + 1
  | .agg parts => uptoBulkAll parts + 1
  | .iface _ d => uptoBulk d + 1
  | .map entries => uptoBulkEntries entries + 1
  | .held _ => 1
def uptoBulkAll {H : Type} : List (DataW H) → Nat
  | [] => 0
  | d :: r => uptoBulk d + uptoBulkAll r
def uptoBulkEntries {H : Type} : List (Lit × DataW H) → Nat
  | [] => 0
  | x :: r => uptoBulkEntry x + uptoBulkEntries r
def uptoBulkEntry {H : Type} : Lit × DataW H → Nat
  | (.string bytes, d) => bytes.length + uptoBulk d + 1
  | (_, d) => uptoBulk d + 1
 end
def uptoSmall : (H : Type) → List (DataW H) → Bool := fun _ ds => decide (uptoBulkAll ds ≤ 1048576)
def OpenSpec.upto (s : _root_.Go.ChangeSpec) : _root_.Go.OpenSpec := { _root_.Go.OpenSpec.ofChange s with cond := some uptoSmall }

/-- 'cartularylaw01.SumsSums', WHERE WHAT IT READS IS OF BULK AT MOST 1048576: true; the input reads as it did. -/
def sumsSumsUptoRow : OpenClaim := { program := "ytdhafmjhohnclaa", sum := "bb7616ff9ae14be183c34efece679363aff1db8c4357b9b0b1a680d9430bf4a9", func := "cartulary/cartularylaw01.SumsSums", spec := "sumsSums", apart := false, narrowed := true }
def SumsSumsUptoSaid : Prop := sumsSumsUptoRow.holds Try.pinned (OpenSpec.upto sumsSumsSpec)

/-- 'cartularylaw01.SumsParts', WHERE WHAT IT READS IS OF BULK AT MOST 1048576: true; the input reads as it did. -/
def sumsPartsUptoRow : OpenClaim := { program := "ytdhafmjhohnclaa", sum := "bb7616ff9ae14be183c34efece679363aff1db8c4357b9b0b1a680d9430bf4a9", func := "cartulary/cartularylaw01.SumsParts", spec := "sumsParts", apart := false, narrowed := true }
def SumsPartsUptoSaid : Prop := sumsPartsUptoRow.holds Try.pinned (OpenSpec.upto sumsPartsSpec)

/-- 'cartularylaw01.SumsApart', WHERE WHAT IT READS IS OF BULK AT MOST 1048576: true; the input reads as it did. -/
def sumsApartUptoRow : OpenClaim := { program := "ytdhafmjhohnclaa", sum := "bb7616ff9ae14be183c34efece679363aff1db8c4357b9b0b1a680d9430bf4a9", func := "cartulary/cartularylaw01.SumsApart", spec := "sumsApart", apart := false, narrowed := true }
def SumsApartUptoSaid : Prop := sumsApartUptoRow.holds Try.pinned (OpenSpec.upto sumsApartSpec)

/-- 'cartularylaw01.SumsDigits', WHERE WHAT IT READS IS OF BULK AT MOST 1048576: true; the input reads as it did. -/
def sumsDigitsUptoRow : OpenClaim := { program := "ytdhafmjhohnclaa", sum := "bb7616ff9ae14be183c34efece679363aff1db8c4357b9b0b1a680d9430bf4a9", func := "cartulary/cartularylaw01.SumsDigits", spec := "sumsDigits", apart := false, narrowed := true }
def SumsDigitsUptoSaid : Prop := sumsDigitsUptoRow.holds Try.pinned (OpenSpec.upto sumsDigitsSpec)

/-- 'cartularylaw01.SumsNumbers', WHERE WHAT IT READS IS OF BULK AT MOST 1048576: true; the input reads as it did. -/
def sumsNumbersUptoRow : OpenClaim := { program := "ytdhafmjhohnclaa", sum := "bb7616ff9ae14be183c34efece679363aff1db8c4357b9b0b1a680d9430bf4a9", func := "cartulary/cartularylaw01.SumsNumbers", spec := "sumsNumbers", apart := false, narrowed := true }
def SumsNumbersUptoSaid : Prop := sumsNumbersUptoRow.holds Try.pinned (OpenSpec.upto sumsNumbersSpec)

/-- 'cartularylaw01.SumsBack', WHERE WHAT IT READS IS OF BULK AT MOST 1048576: true; the input reads as it did. -/
def sumsBackUptoRow : OpenClaim := { program := "ytdhafmjhohnclaa", sum := "bb7616ff9ae14be183c34efece679363aff1db8c4357b9b0b1a680d9430bf4a9", func := "cartulary/cartularylaw01.SumsBack", spec := "sumsBack", apart := false, narrowed := true }
def SumsBackUptoSaid : Prop := sumsBackUptoRow.holds Try.pinned (OpenSpec.upto sumsBackSpec)

/-- 'cartularytop.CartularyDigests', WHERE WHAT IT READS IS OF BULK AT MOST 1048576: true; the input reads as it did. -/
def cartularyDigestsUptoRow : OpenClaim := { program := "ytdhafmjhohnclaa", sum := "bb7616ff9ae14be183c34efece679363aff1db8c4357b9b0b1a680d9430bf4a9", func := "cartulary/cartularytop.CartularyDigests", spec := "cartularyDigests", unfollowed := true, recurses := true, apart := false, narrowed := true }
def CartularyDigestsUptoSaid : Prop := cartularyDigestsUptoRow.holds Try.pinned (OpenSpec.upto cartularyDigestsSpec)

end Rows
end Go.Proofs.Ytdhafmjhohnclaa
