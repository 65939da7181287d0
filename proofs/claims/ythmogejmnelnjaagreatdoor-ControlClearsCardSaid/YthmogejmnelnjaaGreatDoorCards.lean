/-
  DERIVED. GIVEN WITH THE SEED: THE CARDS: each row of YthmogejmnelnjaaGreatDoorRows.lean that lists a variable, with what it lists TIED to the program's text (the seventh form; the later family's looks); each row that meets fmt, with fmt's text TOLD by the authors' own Lean function (tested against real Go, not proved from fmt's source: count such statements apart). THE CARD IS WHAT COUNTS. Prove the row's statement (the work); the ties are given (YthmogejmnelnjaaGreatDoorTie.lean); close each card by the builder's one call (the guide's Derived/Test/ToyasCard.lean, 'card_holds'). Laid BY PROGRAM, IN A SANDBOX (cutbox-door.mjs). By AI agents, Wed Nov 11 2026. No macro, syntax, notation, axiom, sorry.
-/
import Derived.Test.YthmogejmnelnjaaGreatDoorRows
import GoSem.ClaimSeven
namespace Go.Proofs.YthmogejmnelnjaaGreatDoor
namespace Rows

/-- THE TIED CARD OF 'burrowlaw25.ControlClears'. -/
def controlClearsCard : Claim7 := { stood := { row := controlClearsRow, standIns := [], harness := (true, "21a968cd142d1cea1954b733b441584b1d96b47ce8d776acee3724ba7335d09b"), looks := true }, kinds := [], alts := [], laidByText := true, laidKinds := [.data, .data, .data, .data, .sentinel, .sentinel, .pinned], laidTests := true, laidLooks := .later }
def ControlClearsCardSaid : Prop := Claim7.holds Tryz.pinned (.plain (OpenSpec.ofChange controlClearsSpec)) controlClearsCard

/-- THE SECOND FORM's CARD OF 'burrowlaw25.ControlClears'. -/
def controlClearsUptoCard : Claim7 := { stood := { row := controlClearsUptoRow, standIns := [], harness := (true, "21a968cd142d1cea1954b733b441584b1d96b47ce8d776acee3724ba7335d09b"), looks := true }, kinds := [], alts := [], laidByText := true, laidKinds := [.data, .data, .data, .data, .sentinel, .sentinel, .pinned], laidTests := true, laidLooks := .later }
def ControlClearsUptoCardSaid : Prop := Claim7.holds Tryz.pinned (.plain (OpenSpec.upto controlClearsSpec)) controlClearsUptoCard
end Rows
end Go.Proofs.YthmogejmnelnjaaGreatDoor
