/-
  DERIVED. GIVEN WITH THE SEED: THE CARDS: each row of YtdcelpomnboeoaaDoorRows.lean that lists a variable, with what it lists TIED to the program's text (the seventh form; the later family's looks); each row that meets fmt, with fmt's text TOLD by the authors' own Lean function (tested against real Go, not proved from fmt's source: count such statements apart). THE CARD IS WHAT COUNTS. Prove the row's statement (the work); the ties are given (YtdcelpomnboeoaaDoorTie.lean); close each card by the builder's one call (the guide's Derived/Test/ToyasCard.lean, 'card_holds'). Laid BY PROGRAM, IN A SANDBOX (cutbox-door.mjs). By AI agents, Wed Nov 11 2026. No macro, syntax, notation, axiom, sorry.
-/
import Derived.Test.YtdcelpomnboeoaaDoorRows
import GoSem.ClaimSeven
namespace Go.Proofs.YtdcelpomnboeoaaDoor
namespace Rows

/-- THE TIED CARD OF 'swarflaw06.MeltKnown'. -/
def meltKnownCard : Claim7 := { stood := { row := meltKnownRow, standIns := [], harness := (true, "db7f018e291a1379842093836ed02978ee2f588ca7f21d11efbbeee32c7f71c1"), looks := true }, kinds := [], alts := [], laidByText := true, laidKinds := [.data, .data, .data], laidTests := true, laidLooks := .later }
def MeltKnownCardSaid : Prop := Claim7.holds Tryd.pinned (.plain (OpenSpec.ofChange meltKnownSpec)) meltKnownCard

/-- THE TIED CARD OF 'swarflaw06.MeltRead'. -/
def meltReadCard : Claim7 := { stood := { row := meltReadRow, standIns := [], harness := (true, "db7f018e291a1379842093836ed02978ee2f588ca7f21d11efbbeee32c7f71c1"), looks := true }, kinds := [], alts := [], laidByText := true, laidKinds := [.data, .data, .data, .data, .pinned], laidTests := true, laidLooks := .later }
def MeltReadCardSaid : Prop := Claim7.holds Tryd.pinned (.plain (OpenSpec.ofChange meltReadSpec)) meltReadCard

/-- THE SECOND FORM's CARD OF 'swarflaw06.MeltKnown'. -/
def meltKnownUptoCard : Claim7 := { stood := { row := meltKnownUptoRow, standIns := [], harness := (true, "db7f018e291a1379842093836ed02978ee2f588ca7f21d11efbbeee32c7f71c1"), looks := true }, kinds := [], alts := [], laidByText := true, laidKinds := [.data, .data, .data], laidTests := true, laidLooks := .later }
def MeltKnownUptoCardSaid : Prop := Claim7.holds Tryd.pinned (.plain (OpenSpec.upto meltKnownSpec)) meltKnownUptoCard

/-- THE SECOND FORM's CARD OF 'swarflaw06.MeltRead'. -/
def meltReadUptoCard : Claim7 := { stood := { row := meltReadUptoRow, standIns := [], harness := (true, "db7f018e291a1379842093836ed02978ee2f588ca7f21d11efbbeee32c7f71c1"), looks := true }, kinds := [], alts := [], laidByText := true, laidKinds := [.data, .data, .data, .data, .pinned], laidTests := true, laidLooks := .later }
def MeltReadUptoCardSaid : Prop := Claim7.holds Tryd.pinned (.plain (OpenSpec.upto meltReadSpec)) meltReadUptoCard
end Rows
end Go.Proofs.YtdcelpomnboeoaaDoor
