/-
  DERIVED. GIVEN WITH THE SEED: THE CARDS: each row of YtjfgfchnpghpfaaDoorRows.lean that lists a variable, with what it lists TIED to the program's text (the seventh form; the later family's looks); each row that meets fmt, with fmt's text TOLD by the authors' own Lean function (tested against real Go, not proved from fmt's source: count such statements apart). THE CARD IS WHAT COUNTS. Prove the row's statement (the work); the ties are given (YtjfgfchnpghpfaaDoorTie.lean); close each card by the builder's one call (the guide's Derived/Test/ToyasCard.lean, 'card_holds'). Laid BY PROGRAM, IN A SANDBOX (cutbox-door.mjs). By AI agents, Wed Nov 11 2026. No macro, syntax, notation, axiom, sorry.
-/
import Derived.Test.YtjfgfchnpghpfaaDoorRows
import GoSem.ClaimSeven
namespace Go.Proofs.YtjfgfchnpghpfaaDoor
namespace Rows

/-- THE TIED CARD OF 'letterbaglaw01.CivilSmall'. -/
def civilSmallCard : Claim7 := { stood := { row := civilSmallRow, standIns := [], harness := (true, "754355b8c7d9d3148e609c2057bc0d5d13b9617d175ee1c3f1c80a8587a41316"), looks := false }, kinds := [], alts := [], laidByText := true, laidKinds := [.data, .data, .data], laidTests := true, laidLooks := .later }
def CivilSmallCardSaid : Prop := Claim7.holds Tryd.pinned (.plain (OpenSpec.ofChange civilSmallSpec)) civilSmallCard

/-- THE SECOND FORM's CARD OF 'letterbaglaw01.CivilSmall'. -/
def civilSmallUptoCard : Claim7 := { stood := { row := civilSmallUptoRow, standIns := [], harness := (true, "754355b8c7d9d3148e609c2057bc0d5d13b9617d175ee1c3f1c80a8587a41316"), looks := false }, kinds := [], alts := [], laidByText := true, laidKinds := [.data, .data, .data], laidTests := true, laidLooks := .later }
def CivilSmallUptoCardSaid : Prop := Claim7.holds Tryd.pinned (.plain (OpenSpec.upto civilSmallSpec)) civilSmallUptoCard
end Rows
end Go.Proofs.YtjfgfchnpghpfaaDoor
