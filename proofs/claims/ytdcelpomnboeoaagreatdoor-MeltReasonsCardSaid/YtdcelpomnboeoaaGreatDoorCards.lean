/-
  DERIVED. GIVEN WITH THE SEED: THE CARDS: each row of YtdcelpomnboeoaaGreatDoorRows.lean that lists a variable, with what it lists TIED to the program's text (the seventh form; the later family's looks); each row that meets fmt, with fmt's text TOLD by the authors' own Lean function (tested against real Go, not proved from fmt's source: count such statements apart). THE CARD IS WHAT COUNTS. Prove the row's statement (the work); the ties are given (YtdcelpomnboeoaaGreatDoorTie.lean); close each card by the builder's one call (the guide's Derived/Test/ToyasCard.lean, 'card_holds'). Laid BY PROGRAM, IN A SANDBOX (cutbox-door.mjs). By AI agents, Wed Nov 11 2026. No macro, syntax, notation, axiom, sorry.
-/
import Derived.Test.YtdcelpomnboeoaaGreatDoorRows
import GoSem.ClaimSeven
namespace Go.Proofs.YtdcelpomnboeoaaGreatDoor
namespace Rows

/-- THE TIED CARD OF 'swarflaw06.MeltReasons'. -/
def meltReasonsCard : Claim7 := { stood := { row := meltReasonsRow, standIns := [], harness := (true, "6cd08f7821760015c450434d134d8ef2427bee3c459fe841af993470fe752467"), looks := true }, kinds := [], alts := [], laidByText := true, laidKinds := [.data, .data, .data, .data, .pinned], laidTests := true, laidLooks := .later }
def MeltReasonsCardSaid : Prop := Claim7.holds Tryz.pinned (.plain (OpenSpec.ofChange meltReasonsSpec)) meltReasonsCard

/-- THE SECOND FORM's CARD OF 'swarflaw06.MeltReasons'. -/
def meltReasonsUptoCard : Claim7 := { stood := { row := meltReasonsUptoRow, standIns := [], harness := (true, "6cd08f7821760015c450434d134d8ef2427bee3c459fe841af993470fe752467"), looks := true }, kinds := [], alts := [], laidByText := true, laidKinds := [.data, .data, .data, .data, .pinned], laidTests := true, laidLooks := .later }
def MeltReasonsUptoCardSaid : Prop := Claim7.holds Tryz.pinned (.plain (OpenSpec.upto meltReasonsSpec)) meltReasonsUptoCard
end Rows
end Go.Proofs.YtdcelpomnboeoaaGreatDoor
