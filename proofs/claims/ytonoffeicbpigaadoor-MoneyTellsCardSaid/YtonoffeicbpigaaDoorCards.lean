/-
  DERIVED. GIVEN WITH THE SEED: THE CARDS: each row of YtonoffeicbpigaaDoorRows.lean that lists a variable, with what it lists TIED to the program's text (the seventh form; the later family's looks); each row that meets fmt, with fmt's text TOLD by the authors' own Lean function (tested against real Go, not proved from fmt's source: count such statements apart). THE CARD IS WHAT COUNTS. Prove the row's statement (the work); the ties are given (YtonoffeicbpigaaDoorTie.lean); close each card by the builder's one call (the guide's Derived/Test/ToyasCard.lean, 'card_holds'). Laid BY PROGRAM, IN A SANDBOX (cutbox-door.mjs). By AI agents, Wed Nov 11 2026. No macro, syntax, notation, axiom, sorry.
-/
import Derived.Test.YtonoffeicbpigaaDoorRows
import GoSem.ClaimSeven
namespace Go.Proofs.YtonoffeicbpigaaDoor
namespace Rows

/-- THE TIED CARD OF 'letterbaglaw02.MoneyTells'. -/
def moneyTellsCard : Claim7 := { stood := { row := moneyTellsRow, standIns := [], harness := (true, "9e7ffc2678e14b37cf318abadb1f8465bc4fb8ea52235f52ba0d3772d7bd078e"), looks := false }, kinds := [], alts := [], laidByText := true, laidKinds := [.data, .data, .data], laidTests := true, laidLooks := .later }
def MoneyTellsCardSaid : Prop := Claim7.holds Tryd.pinned (.plain (OpenSpec.ofChange moneyTellsSpec)) moneyTellsCard

/-- THE SECOND FORM's CARD OF 'letterbaglaw02.MoneyTells'. -/
def moneyTellsUptoCard : Claim7 := { stood := { row := moneyTellsUptoRow, standIns := [], harness := (true, "9e7ffc2678e14b37cf318abadb1f8465bc4fb8ea52235f52ba0d3772d7bd078e"), looks := false }, kinds := [], alts := [], laidByText := true, laidKinds := [.data, .data, .data], laidTests := true, laidLooks := .later }
def MoneyTellsUptoCardSaid : Prop := Claim7.holds Tryd.pinned (.plain (OpenSpec.upto moneyTellsSpec)) moneyTellsUptoCard
end Rows
end Go.Proofs.YtonoffeicbpigaaDoor
