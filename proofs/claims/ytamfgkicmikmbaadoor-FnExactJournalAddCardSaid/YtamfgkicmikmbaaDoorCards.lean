/-
  DERIVED. GIVEN WITH THE SEED: THE CARDS: each row of YtamfgkicmikmbaaDoorRows.lean that lists a variable, with what it lists TIED to the program's text (the seventh form; the later family's looks); each row that meets fmt, with fmt's text TOLD by the authors' own Lean function (tested against real Go, not proved from fmt's source: count such statements apart). THE CARD IS WHAT COUNTS. Prove the row's statement (the work); the ties are given (YtamfgkicmikmbaaDoorTie.lean); close each card by the builder's one call (the guide's Derived/Test/ToyasCard.lean, 'card_holds'). Laid BY PROGRAM, IN A SANDBOX (cutbox-door.mjs). By AI agents, Wed Nov 11 2026. No macro, syntax, notation, axiom, sorry.
-/
import Derived.Test.YtamfgkicmikmbaaDoorRows
import GoSem.ClaimSeven
namespace Go.Proofs.YtamfgkicmikmbaaDoor
namespace Rows

/-- THE TIED CARD OF 'laws.FnExactReadEntry'. -/
def fnExactReadEntryCard : Claim7 := { stood := { row := fnExactReadEntryRow, standIns := [], harness := (true, "91d6e7555a0363fe3e6302645abc2ed3673275926fb45515cf428db287c36dcd"), looks := true }, kinds := [], alts := [], laidByText := true, laidKinds := [.data, .data, .data, .data, .sentinel, .sentinel, .pinned], laidTests := true, laidLooks := .later }
def FnExactReadEntryCardSaid : Prop := Claim7.holds Tryd.pinned (.plain (OpenSpec.ofChange fnExactReadEntrySpec)) fnExactReadEntryCard

/-- THE TIED CARD OF 'laws.FnExactJournalRead'. -/
def fnExactJournalReadCard : Claim7 := { stood := { row := fnExactJournalReadRow, standIns := [], harness := (true, "91d6e7555a0363fe3e6302645abc2ed3673275926fb45515cf428db287c36dcd"), looks := true }, kinds := [], alts := [], laidByText := true, laidKinds := [.data, .data, .data, .data, .sentinel, .sentinel, .pinned], laidTests := true, laidLooks := .later }
def FnExactJournalReadCardSaid : Prop := Claim7.holds Tryd.pinned (.plain (OpenSpec.ofChange fnExactJournalReadSpec)) fnExactJournalReadCard

/-- THE TIED CARD OF 'laws.FnExactJournalAdd'. -/
def fnExactJournalAddCard : Claim7 := { stood := { row := fnExactJournalAddRow, standIns := [], harness := (true, "91d6e7555a0363fe3e6302645abc2ed3673275926fb45515cf428db287c36dcd"), looks := true }, kinds := [], alts := [], laidByText := true, laidKinds := [.data, .data, .data, .data, .sentinel, .sentinel, .pinned], laidTests := true, laidLooks := .later }
def FnExactJournalAddCardSaid : Prop := Claim7.holds Tryd.pinned (.plain (OpenSpec.ofChange fnExactJournalAddSpec)) fnExactJournalAddCard

/-- THE SECOND FORM's CARD OF 'laws.FnExactReadEntry'. -/
def fnExactReadEntryUptoCard : Claim7 := { stood := { row := fnExactReadEntryUptoRow, standIns := [], harness := (true, "91d6e7555a0363fe3e6302645abc2ed3673275926fb45515cf428db287c36dcd"), looks := true }, kinds := [], alts := [], laidByText := true, laidKinds := [.data, .data, .data, .data, .sentinel, .sentinel, .pinned], laidTests := true, laidLooks := .later }
def FnExactReadEntryUptoCardSaid : Prop := Claim7.holds Tryd.pinned (.plain (OpenSpec.upto fnExactReadEntrySpec)) fnExactReadEntryUptoCard

/-- THE SECOND FORM's CARD OF 'laws.FnExactJournalRead'. -/
def fnExactJournalReadUptoCard : Claim7 := { stood := { row := fnExactJournalReadUptoRow, standIns := [], harness := (true, "91d6e7555a0363fe3e6302645abc2ed3673275926fb45515cf428db287c36dcd"), looks := true }, kinds := [], alts := [], laidByText := true, laidKinds := [.data, .data, .data, .data, .sentinel, .sentinel, .pinned], laidTests := true, laidLooks := .later }
def FnExactJournalReadUptoCardSaid : Prop := Claim7.holds Tryd.pinned (.plain (OpenSpec.upto fnExactJournalReadSpec)) fnExactJournalReadUptoCard

/-- THE SECOND FORM's CARD OF 'laws.FnExactJournalAdd'. -/
def fnExactJournalAddUptoCard : Claim7 := { stood := { row := fnExactJournalAddUptoRow, standIns := [], harness := (true, "91d6e7555a0363fe3e6302645abc2ed3673275926fb45515cf428db287c36dcd"), looks := true }, kinds := [], alts := [], laidByText := true, laidKinds := [.data, .data, .data, .data, .sentinel, .sentinel, .pinned], laidTests := true, laidLooks := .later }
def FnExactJournalAddUptoCardSaid : Prop := Claim7.holds Tryd.pinned (.plain (OpenSpec.upto fnExactJournalAddSpec)) fnExactJournalAddUptoCard
end Rows
end Go.Proofs.YtamfgkicmikmbaaDoor
