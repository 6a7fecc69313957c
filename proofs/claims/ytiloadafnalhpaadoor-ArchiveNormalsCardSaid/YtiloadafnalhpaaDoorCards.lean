/-
  DERIVED. GIVEN WITH THE SEED: THE CARDS: each row of YtiloadafnalhpaaDoorRows.lean that lists a variable, with what it lists TIED to the program's text (the seventh form; the later family's looks); each row that meets fmt, with fmt's text TOLD by the authors' own Lean function (tested against real Go, not proved from fmt's source: count such statements apart). THE CARD IS WHAT COUNTS. Prove the row's statement (the work); the ties are given (YtiloadafnalhpaaDoorTie.lean); close each card by the builder's one call (the guide's Derived/Test/ToyasCard.lean, 'card_holds'). Laid BY PROGRAM, IN A SANDBOX (cutbox-door.mjs). By AI agents, Wed Nov 11 2026. No macro, syntax, notation, axiom, sorry.
-/
import Derived.Test.YtiloadafnalhpaaDoorRows
import GoSem.ClaimSeven
namespace Go.Proofs.YtiloadafnalhpaaDoor
namespace Rows

/-- THE TIED CARD OF 'grapnellaw18.ArchiveNormals'. -/
def archiveNormalsCard : Claim7 := { stood := { row := archiveNormalsRow, standIns := [], harness := (true, "f0de19f0a7013c8b5b359fe4458125e0a0194995a3726c81eda4c1fb616583a5"), looks := true }, kinds := [], alts := [], laidByText := true, laidKinds := [.data, .pinned], laidTests := true, laidLooks := .later }
def ArchiveNormalsCardSaid : Prop := Claim7.holds Tryd.pinned (.plain (OpenSpec.ofChange archiveNormalsSpec)) archiveNormalsCard

/-- THE SECOND FORM's CARD OF 'grapnellaw18.ArchiveNormals'. -/
def archiveNormalsUptoCard : Claim7 := { stood := { row := archiveNormalsUptoRow, standIns := [], harness := (true, "f0de19f0a7013c8b5b359fe4458125e0a0194995a3726c81eda4c1fb616583a5"), looks := true }, kinds := [], alts := [], laidByText := true, laidKinds := [.data, .pinned], laidTests := true, laidLooks := .later }
def ArchiveNormalsUptoCardSaid : Prop := Claim7.holds Tryd.pinned (.plain (OpenSpec.upto archiveNormalsSpec)) archiveNormalsUptoCard
end Rows
end Go.Proofs.YtiloadafnalhpaaDoor
