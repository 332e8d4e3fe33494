/-
  DERIVED. GIVEN WITH THE SEED: THE CARDS: each row of YtkpiebcncjlgcaaDoorRows.lean that lists a variable, with what it lists TIED to the program's text (the seventh form; the later family's looks); each row that meets fmt, with fmt's text TOLD by the authors' own Lean function (tested against real Go, not proved from fmt's source: count such statements apart). THE CARD IS WHAT COUNTS. Prove the row's statement (the work); the ties are given (YtkpiebcncjlgcaaDoorTie.lean); close each card by the builder's one call (the guide's Derived/Test/ToyasCard.lean, 'card_holds'). Laid BY PROGRAM, IN A SANDBOX (cutbox-door.mjs). By AI agents, Wed Nov 11 2026. No macro, syntax, notation, axiom, sorry.
-/
import Derived.Test.YtkpiebcncjlgcaaDoorRows
import GoSem.ClaimSeven
namespace Go.Proofs.YtkpiebcncjlgcaaDoor
namespace Rows

/-- THE TIED CARD OF 'cartularylaw19.CalendarDates'. -/
def calendarDatesCard : Claim7 := { stood := { row := calendarDatesRow, standIns := [], harness := (true, "50ffffae0e95874f13047bf1c7598f22ddd147ff6ed750aa88e0aaee106d16d3"), looks := false }, kinds := [], alts := [], laidByText := true, laidKinds := [.data, .data, .data], laidTests := true, laidLooks := .later }
def CalendarDatesCardSaid : Prop := Claim7.holds Tryd.pinned (.plain (OpenSpec.ofChange calendarDatesSpec)) calendarDatesCard

/-- THE TIED CARD OF 'cartularylaw19.CalendarNext'. -/
def calendarNextCard : Claim7 := { stood := { row := calendarNextRow, standIns := [], harness := (true, "50ffffae0e95874f13047bf1c7598f22ddd147ff6ed750aa88e0aaee106d16d3"), looks := false }, kinds := [], alts := [], laidByText := true, laidKinds := [.data, .data, .data], laidTests := true, laidLooks := .later }
def CalendarNextCardSaid : Prop := Claim7.holds Tryd.pinned (.plain (OpenSpec.ofChange calendarNextSpec)) calendarNextCard

/-- THE TIED CARD OF 'cartularylaw19.CalendarYears'. -/
def calendarYearsCard : Claim7 := { stood := { row := calendarYearsRow, standIns := [], harness := (true, "50ffffae0e95874f13047bf1c7598f22ddd147ff6ed750aa88e0aaee106d16d3"), looks := false }, kinds := [], alts := [], laidByText := true, laidKinds := [.data, .data, .data], laidTests := true, laidLooks := .later }
def CalendarYearsCardSaid : Prop := Claim7.holds Tryd.pinned (.plain (OpenSpec.ofChange calendarYearsSpec)) calendarYearsCard

/-- THE TIED CARD OF 'cartularylaw19.CalendarSeconds'. -/
def calendarSecondsCard : Claim7 := { stood := { row := calendarSecondsRow, standIns := [], harness := (true, "50ffffae0e95874f13047bf1c7598f22ddd147ff6ed750aa88e0aaee106d16d3"), looks := false }, kinds := [], alts := [], laidByText := true, laidKinds := [.data, .data, .data], laidTests := true, laidLooks := .later }
def CalendarSecondsCardSaid : Prop := Claim7.holds Tryd.pinned (.plain (OpenSpec.ofChange calendarSecondsSpec)) calendarSecondsCard

/-- THE TIED CARD OF 'cartularytop.CartularyTimes'. -/
def cartularyTimesCard : Claim7 := { stood := { row := cartularyTimesRow, standIns := [], harness := (true, "50ffffae0e95874f13047bf1c7598f22ddd147ff6ed750aa88e0aaee106d16d3"), looks := false }, kinds := [], alts := [], laidByText := true, laidKinds := [.data, .data, .data, .data, .pinned], laidTests := true, laidLooks := .later }
def CartularyTimesCardSaid : Prop := Claim7.holds Tryd.pinned (.plain (OpenSpec.ofChange cartularyTimesSpec)) cartularyTimesCard

/-- THE SECOND FORM's CARD OF 'cartularylaw19.CalendarDates'. -/
def calendarDatesUptoCard : Claim7 := { stood := { row := calendarDatesUptoRow, standIns := [], harness := (true, "50ffffae0e95874f13047bf1c7598f22ddd147ff6ed750aa88e0aaee106d16d3"), looks := false }, kinds := [], alts := [], laidByText := true, laidKinds := [.data, .data, .data], laidTests := true, laidLooks := .later }
def CalendarDatesUptoCardSaid : Prop := Claim7.holds Tryd.pinned (.plain (OpenSpec.upto calendarDatesSpec)) calendarDatesUptoCard

/-- THE SECOND FORM's CARD OF 'cartularylaw19.CalendarNext'. -/
def calendarNextUptoCard : Claim7 := { stood := { row := calendarNextUptoRow, standIns := [], harness := (true, "50ffffae0e95874f13047bf1c7598f22ddd147ff6ed750aa88e0aaee106d16d3"), looks := false }, kinds := [], alts := [], laidByText := true, laidKinds := [.data, .data, .data], laidTests := true, laidLooks := .later }
def CalendarNextUptoCardSaid : Prop := Claim7.holds Tryd.pinned (.plain (OpenSpec.upto calendarNextSpec)) calendarNextUptoCard

/-- THE SECOND FORM's CARD OF 'cartularylaw19.CalendarYears'. -/
def calendarYearsUptoCard : Claim7 := { stood := { row := calendarYearsUptoRow, standIns := [], harness := (true, "50ffffae0e95874f13047bf1c7598f22ddd147ff6ed750aa88e0aaee106d16d3"), looks := false }, kinds := [], alts := [], laidByText := true, laidKinds := [.data, .data, .data], laidTests := true, laidLooks := .later }
def CalendarYearsUptoCardSaid : Prop := Claim7.holds Tryd.pinned (.plain (OpenSpec.upto calendarYearsSpec)) calendarYearsUptoCard

/-- THE SECOND FORM's CARD OF 'cartularylaw19.CalendarSeconds'. -/
def calendarSecondsUptoCard : Claim7 := { stood := { row := calendarSecondsUptoRow, standIns := [], harness := (true, "50ffffae0e95874f13047bf1c7598f22ddd147ff6ed750aa88e0aaee106d16d3"), looks := false }, kinds := [], alts := [], laidByText := true, laidKinds := [.data, .data, .data], laidTests := true, laidLooks := .later }
def CalendarSecondsUptoCardSaid : Prop := Claim7.holds Tryd.pinned (.plain (OpenSpec.upto calendarSecondsSpec)) calendarSecondsUptoCard

/-- THE SECOND FORM's CARD OF 'cartularytop.CartularyTimes'. -/
def cartularyTimesUptoCard : Claim7 := { stood := { row := cartularyTimesUptoRow, standIns := [], harness := (true, "50ffffae0e95874f13047bf1c7598f22ddd147ff6ed750aa88e0aaee106d16d3"), looks := false }, kinds := [], alts := [], laidByText := true, laidKinds := [.data, .data, .data, .data, .pinned], laidTests := true, laidLooks := .later }
def CartularyTimesUptoCardSaid : Prop := Claim7.holds Tryd.pinned (.plain (OpenSpec.upto cartularyTimesSpec)) cartularyTimesUptoCard
end Rows
end Go.Proofs.YtkpiebcncjlgcaaDoor
