/-
  DERIVED. GIVEN WITH THE SEED: THE CARDS: each row of YtdnnmopncndebaaDoorRows.lean that lists a variable, with what it lists TIED to the program's text (the seventh form; the later family's looks); each row that meets fmt, with fmt's text TOLD by the authors' own Lean function (tested against real Go, not proved from fmt's source: count such statements apart). THE CARD IS WHAT COUNTS. Prove the row's statement (the work); the ties are given (YtdnnmopncndebaaDoorTie.lean); close each card by the builder's one call (the guide's Derived/Test/ToyasCard.lean, 'card_holds'). Laid BY PROGRAM, IN A SANDBOX (cutbox-door.mjs). By AI agents, Wed Nov 11 2026. No macro, syntax, notation, axiom, sorry.
-/
import Derived.Test.YtdnnmopncndebaaDoorRows
import GoSem.ClaimSeven
namespace Go.Proofs.YtdnnmopncndebaaDoor
namespace Rows

/-- THE TIED CARD OF 'watersmeetlaw21.GraphTells'. -/
def graphTellsCard : Claim7 := { stood := { row := graphTellsRow, standIns := [], harness := (true, "f309ebfd6d6ac6391f86a97be9aa96cbfc6bfe48896e8164a217139c3fe06fc5"), looks := false }, kinds := [], alts := [], laidByText := true, laidKinds := [.data], laidTests := true, laidLooks := .later }
def GraphTellsCardSaid : Prop := Claim7.holds Tryd.pinned (.plain (OpenSpec.ofChange graphTellsSpec)) graphTellsCard

/-- THE TIED CARD OF 'watersmeetlaw21.GraphBlocks'. -/
def graphBlocksCard : Claim7 := { stood := { row := graphBlocksRow, standIns := [], harness := (true, "f309ebfd6d6ac6391f86a97be9aa96cbfc6bfe48896e8164a217139c3fe06fc5"), looks := false }, kinds := [], alts := [], laidByText := true, laidKinds := [.data], laidTests := true, laidLooks := .later }
def GraphBlocksCardSaid : Prop := Claim7.holds Tryd.pinned (.plain (OpenSpec.ofChange graphBlocksSpec)) graphBlocksCard

/-- THE SECOND FORM's CARD OF 'watersmeetlaw21.GraphTells'. -/
def graphTellsUptoCard : Claim7 := { stood := { row := graphTellsUptoRow, standIns := [], harness := (true, "f309ebfd6d6ac6391f86a97be9aa96cbfc6bfe48896e8164a217139c3fe06fc5"), looks := false }, kinds := [], alts := [], laidByText := true, laidKinds := [.data], laidTests := true, laidLooks := .later }
def GraphTellsUptoCardSaid : Prop := Claim7.holds Tryd.pinned (.plain (OpenSpec.upto graphTellsSpec)) graphTellsUptoCard

/-- THE SECOND FORM's CARD OF 'watersmeetlaw21.GraphBlocks'. -/
def graphBlocksUptoCard : Claim7 := { stood := { row := graphBlocksUptoRow, standIns := [], harness := (true, "f309ebfd6d6ac6391f86a97be9aa96cbfc6bfe48896e8164a217139c3fe06fc5"), looks := false }, kinds := [], alts := [], laidByText := true, laidKinds := [.data], laidTests := true, laidLooks := .later }
def GraphBlocksUptoCardSaid : Prop := Claim7.holds Tryd.pinned (.plain (OpenSpec.upto graphBlocksSpec)) graphBlocksUptoCard
end Rows
end Go.Proofs.YtdnnmopncndebaaDoor
