/-
  DERIVED. GIVEN WITH THE SEED: THE CARDS: each row of YtnchmenpgmlpdaaDoorRows.lean that lists a variable, with what it lists TIED to the program's text (the seventh form; the later family's looks); each row that meets fmt, with fmt's text TOLD by the authors' own Lean function (tested against real Go, not proved from fmt's source: count such statements apart). THE CARD IS WHAT COUNTS. Prove the row's statement (the work); the ties are given (YtnchmenpgmlpdaaDoorTie.lean); close each card by the builder's one call (the guide's Derived/Test/ToyasCard.lean, 'card_holds'). Laid BY PROGRAM, IN A SANDBOX (cutbox-door.mjs). By AI agents, Wed Nov 11 2026. No macro, syntax, notation, axiom, sorry.
-/
import Derived.Test.YtnchmenpgmlpdaaDoorRows
import GoSem.ClaimSeven
namespace Go.Proofs.YtnchmenpgmlpdaaDoor
namespace Rows

/-- THE TIED CARD OF 'laws.FnExactShowEntry'. -/
def fnExactShowEntryCard : Claim7 := { stood := { row := fnExactShowEntryRow, standIns := [], harness := (true, "e15d06342576177bdcc74776a0f0dde9ab620c9d17f3b7fc3b5fe6cf7cf8c9b9"), looks := true }, kinds := [], alts := [], laidByText := true, laidKinds := [.data, .data, .data], laidTests := true, laidLooks := .later }
def FnExactShowEntryCardSaid : Prop := Claim7.holds Tryd.pinned (.plain (OpenSpec.ofChange fnExactShowEntrySpec)) fnExactShowEntryCard

/-- THE TIED CARD OF 'laws.FnExactReadEntry'. -/
def fnExactReadEntryCard : Claim7 := { stood := { row := fnExactReadEntryRow, standIns := [], harness := (true, "e15d06342576177bdcc74776a0f0dde9ab620c9d17f3b7fc3b5fe6cf7cf8c9b9"), looks := true }, kinds := [], alts := [], laidByText := true, laidKinds := [.data, .data, .data, .data, .sentinel, .sentinel, .pinned], laidTests := true, laidLooks := .later }
def FnExactReadEntryCardSaid : Prop := Claim7.holds Tryd.pinned (.plain (OpenSpec.ofChange fnExactReadEntrySpec)) fnExactReadEntryCard

/-- THE SECOND FORM's CARD OF 'laws.FnExactShowEntry'. -/
def fnExactShowEntryUptoCard : Claim7 := { stood := { row := fnExactShowEntryUptoRow, standIns := [], harness := (true, "e15d06342576177bdcc74776a0f0dde9ab620c9d17f3b7fc3b5fe6cf7cf8c9b9"), looks := true }, kinds := [], alts := [], laidByText := true, laidKinds := [.data, .data, .data], laidTests := true, laidLooks := .later }
def FnExactShowEntryUptoCardSaid : Prop := Claim7.holds Tryd.pinned (.plain (OpenSpec.upto fnExactShowEntrySpec)) fnExactShowEntryUptoCard

/-- THE SECOND FORM's CARD OF 'laws.FnExactReadEntry'. -/
def fnExactReadEntryUptoCard : Claim7 := { stood := { row := fnExactReadEntryUptoRow, standIns := [], harness := (true, "e15d06342576177bdcc74776a0f0dde9ab620c9d17f3b7fc3b5fe6cf7cf8c9b9"), looks := true }, kinds := [], alts := [], laidByText := true, laidKinds := [.data, .data, .data, .data, .sentinel, .sentinel, .pinned], laidTests := true, laidLooks := .later }
def FnExactReadEntryUptoCardSaid : Prop := Claim7.holds Tryd.pinned (.plain (OpenSpec.upto fnExactReadEntrySpec)) fnExactReadEntryUptoCard
end Rows
end Go.Proofs.YtnchmenpgmlpdaaDoor
