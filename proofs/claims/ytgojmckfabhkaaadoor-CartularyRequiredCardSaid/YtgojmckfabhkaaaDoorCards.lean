/-
  DERIVED. GIVEN WITH THE SEED: THE CARDS: each row of YtgojmckfabhkaaaDoorRows.lean that lists a variable, with what it lists TIED to the program's text (the seventh form; the later family's looks); each row that meets fmt, with fmt's text TOLD by the authors' own Lean function (tested against real Go, not proved from fmt's source: count such statements apart). THE CARD IS WHAT COUNTS. Prove the row's statement (the work); the ties are given (YtgojmckfabhkaaaDoorTie.lean); close each card by the builder's one call (the guide's Derived/Test/ToyasCard.lean, 'card_holds'). Laid BY PROGRAM, IN A SANDBOX (cutbox-door.mjs). By AI agents, Wed Nov 11 2026. No macro, syntax, notation, axiom, sorry.
-/
import Derived.Test.YtgojmckfabhkaaaDoorRows
import GoSem.ClaimSeven
namespace Go.Proofs.YtgojmckfabhkaaaDoor
namespace Rows

/-- THE TIED CARD OF 'cartularytop.CartularyRequired'. -/
def cartularyRequiredCard : Claim7 := { stood := { row := cartularyRequiredRow, standIns := [], harness := (true, "49ea4357ebc988db678011951dd8046ac18465be399a051369925bf55b73223c"), looks := false }, kinds := [], alts := [], laidByText := true, laidKinds := [.data, .data, .data, .data, .pinned], laidTests := true, laidLooks := .later }
def CartularyRequiredCardSaid : Prop := Claim7.holds Tryd.pinned (.plain (OpenSpec.ofChange cartularyRequiredSpec)) cartularyRequiredCard

/-- THE SECOND FORM's CARD OF 'cartularytop.CartularyRequired'. -/
def cartularyRequiredUptoCard : Claim7 := { stood := { row := cartularyRequiredUptoRow, standIns := [], harness := (true, "49ea4357ebc988db678011951dd8046ac18465be399a051369925bf55b73223c"), looks := false }, kinds := [], alts := [], laidByText := true, laidKinds := [.data, .data, .data, .data, .pinned], laidTests := true, laidLooks := .later }
def CartularyRequiredUptoCardSaid : Prop := Claim7.holds Tryd.pinned (.plain (OpenSpec.upto cartularyRequiredSpec)) cartularyRequiredUptoCard
end Rows
end Go.Proofs.YtgojmckfabhkaaaDoor
