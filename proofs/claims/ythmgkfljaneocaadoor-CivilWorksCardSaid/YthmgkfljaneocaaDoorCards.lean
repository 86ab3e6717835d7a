/-
  DERIVED. GIVEN WITH THE SEED: THE CARDS: each row of YthmgkfljaneocaaDoorRows.lean that lists a variable, with what it lists TIED to the program's text (the seventh form; the later family's looks); each row that meets fmt, with fmt's text TOLD by the authors' own Lean function (tested against real Go, not proved from fmt's source: count such statements apart). THE CARD IS WHAT COUNTS. Prove the row's statement (the work); the ties are given (YthmgkfljaneocaaDoorTie.lean); close each card by the builder's one call (the guide's Derived/Test/ToyasCard.lean, 'card_holds'). Laid BY PROGRAM, IN A SANDBOX (cutbox-door.mjs). By AI agents, Wed Nov 11 2026. No macro, syntax, notation, axiom, sorry.
-/
import Derived.Test.YthmgkfljaneocaaDoorRows
import GoSem.ClaimSeven
namespace Go.Proofs.YthmgkfljaneocaaDoor
namespace Rows

/-- THE TIED CARD OF 'letterbaglaw01.CivilWrong'. -/
def civilWrongCard : Claim7 := { stood := { row := civilWrongRow, standIns := [], harness := (true, "a3e6fb74c60dd84b572452196dd893bb6c6d956eddf191e61ac49d10fd48dc06"), looks := false }, kinds := [], alts := [], laidByText := true, laidKinds := [.data, .data, .data], laidTests := true, laidLooks := .later }
def CivilWrongCardSaid : Prop := Claim7.holds Tryd.pinned (.plain (OpenSpec.ofChange civilWrongSpec)) civilWrongCard

/-- THE TIED CARD OF 'letterbaglaw01.CivilReads'. -/
def civilReadsCard : Claim7 := { stood := { row := civilReadsRow, standIns := [], harness := (true, "a3e6fb74c60dd84b572452196dd893bb6c6d956eddf191e61ac49d10fd48dc06"), looks := false }, kinds := [], alts := [], laidByText := true, laidKinds := [.data, .data, .data], laidTests := true, laidLooks := .later }
def CivilReadsCardSaid : Prop := Claim7.holds Tryd.pinned (.plain (OpenSpec.ofChange civilReadsSpec)) civilReadsCard

/-- THE TIED CARD OF 'letterbaglaw01.CivilGoes'. -/
def civilGoesCard : Claim7 := { stood := { row := civilGoesRow, standIns := [], harness := (true, "a3e6fb74c60dd84b572452196dd893bb6c6d956eddf191e61ac49d10fd48dc06"), looks := false }, kinds := [], alts := [], laidByText := true, laidKinds := [.data, .data, .data], laidTests := true, laidLooks := .later }
def CivilGoesCardSaid : Prop := Claim7.holds Tryd.pinned (.plain (OpenSpec.ofChange civilGoesSpec)) civilGoesCard

/-- THE TIED CARD OF 'letterbaglaw01.CivilTurns'. -/
def civilTurnsCard : Claim7 := { stood := { row := civilTurnsRow, standIns := [], harness := (true, "a3e6fb74c60dd84b572452196dd893bb6c6d956eddf191e61ac49d10fd48dc06"), looks := false }, kinds := [], alts := [], laidByText := true, laidKinds := [.data, .data, .data], laidTests := true, laidLooks := .later }
def CivilTurnsCardSaid : Prop := Claim7.holds Tryd.pinned (.plain (OpenSpec.ofChange civilTurnsSpec)) civilTurnsCard

/-- THE TIED CARD OF 'letterbaglaw01.CivilYearly'. -/
def civilYearlyCard : Claim7 := { stood := { row := civilYearlyRow, standIns := [], harness := (true, "a3e6fb74c60dd84b572452196dd893bb6c6d956eddf191e61ac49d10fd48dc06"), looks := false }, kinds := [], alts := [], laidByText := true, laidKinds := [.data, .data, .data], laidTests := true, laidLooks := .later }
def CivilYearlyCardSaid : Prop := Claim7.holds Tryd.pinned (.plain (OpenSpec.ofChange civilYearlySpec)) civilYearlyCard

/-- THE TIED CARD OF 'letterbaglaw01.CivilWorks'. -/
def civilWorksCard : Claim7 := { stood := { row := civilWorksRow, standIns := [], harness := (true, "a3e6fb74c60dd84b572452196dd893bb6c6d956eddf191e61ac49d10fd48dc06"), looks := false }, kinds := [], alts := [], laidByText := true, laidKinds := [.data, .data, .data], laidTests := true, laidLooks := .later }
def CivilWorksCardSaid : Prop := Claim7.holds Tryd.pinned (.plain (OpenSpec.ofChange civilWorksSpec)) civilWorksCard

/-- THE TIED CARD OF 'letterbaglaw01.CivilAdds'. -/
def civilAddsCard : Claim7 := { stood := { row := civilAddsRow, standIns := [], harness := (true, "a3e6fb74c60dd84b572452196dd893bb6c6d956eddf191e61ac49d10fd48dc06"), looks := false }, kinds := [], alts := [], laidByText := true, laidKinds := [.data, .data, .data], laidTests := true, laidLooks := .later }
def CivilAddsCardSaid : Prop := Claim7.holds Tryd.pinned (.plain (OpenSpec.ofChange civilAddsSpec)) civilAddsCard

/-- THE TIED CARD OF 'letterbaglaw01.CivilAhead'. -/
def civilAheadCard : Claim7 := { stood := { row := civilAheadRow, standIns := [], harness := (true, "a3e6fb74c60dd84b572452196dd893bb6c6d956eddf191e61ac49d10fd48dc06"), looks := false }, kinds := [], alts := [], laidByText := true, laidKinds := [.data, .data, .data], laidTests := true, laidLooks := .later }
def CivilAheadCardSaid : Prop := Claim7.holds Tryd.pinned (.plain (OpenSpec.ofChange civilAheadSpec)) civilAheadCard

/-- THE TIED CARD OF 'letterbaglaw01.CivilWrites'. -/
def civilWritesCard : Claim7 := { stood := { row := civilWritesRow, standIns := [], harness := (true, "a3e6fb74c60dd84b572452196dd893bb6c6d956eddf191e61ac49d10fd48dc06"), looks := false }, kinds := [], alts := [], laidByText := true, laidKinds := [.data, .data, .data], laidTests := true, laidLooks := .later }
def CivilWritesCardSaid : Prop := Claim7.holds Tryd.pinned (.plain (OpenSpec.ofChange civilWritesSpec)) civilWritesCard

/-- THE TIED CARD OF 'letterbaglaw01.CivilTells'. -/
def civilTellsCard : Claim7 := { stood := { row := civilTellsRow, standIns := [], harness := (true, "a3e6fb74c60dd84b572452196dd893bb6c6d956eddf191e61ac49d10fd48dc06"), looks := false }, kinds := [], alts := [], laidByText := true, laidKinds := [.data, .data, .data], laidTests := true, laidLooks := .later }
def CivilTellsCardSaid : Prop := Claim7.holds Tryd.pinned (.plain (OpenSpec.ofChange civilTellsSpec)) civilTellsCard

/-- THE SECOND FORM's CARD OF 'letterbaglaw01.CivilWrong'. -/
def civilWrongUptoCard : Claim7 := { stood := { row := civilWrongUptoRow, standIns := [], harness := (true, "a3e6fb74c60dd84b572452196dd893bb6c6d956eddf191e61ac49d10fd48dc06"), looks := false }, kinds := [], alts := [], laidByText := true, laidKinds := [.data, .data, .data], laidTests := true, laidLooks := .later }
def CivilWrongUptoCardSaid : Prop := Claim7.holds Tryd.pinned (.plain (OpenSpec.upto civilWrongSpec)) civilWrongUptoCard

/-- THE SECOND FORM's CARD OF 'letterbaglaw01.CivilReads'. -/
def civilReadsUptoCard : Claim7 := { stood := { row := civilReadsUptoRow, standIns := [], harness := (true, "a3e6fb74c60dd84b572452196dd893bb6c6d956eddf191e61ac49d10fd48dc06"), looks := false }, kinds := [], alts := [], laidByText := true, laidKinds := [.data, .data, .data], laidTests := true, laidLooks := .later }
def CivilReadsUptoCardSaid : Prop := Claim7.holds Tryd.pinned (.plain (OpenSpec.upto civilReadsSpec)) civilReadsUptoCard

/-- THE SECOND FORM's CARD OF 'letterbaglaw01.CivilGoes'. -/
def civilGoesUptoCard : Claim7 := { stood := { row := civilGoesUptoRow, standIns := [], harness := (true, "a3e6fb74c60dd84b572452196dd893bb6c6d956eddf191e61ac49d10fd48dc06"), looks := false }, kinds := [], alts := [], laidByText := true, laidKinds := [.data, .data, .data], laidTests := true, laidLooks := .later }
def CivilGoesUptoCardSaid : Prop := Claim7.holds Tryd.pinned (.plain (OpenSpec.upto civilGoesSpec)) civilGoesUptoCard

/-- THE SECOND FORM's CARD OF 'letterbaglaw01.CivilTurns'. -/
def civilTurnsUptoCard : Claim7 := { stood := { row := civilTurnsUptoRow, standIns := [], harness := (true, "a3e6fb74c60dd84b572452196dd893bb6c6d956eddf191e61ac49d10fd48dc06"), looks := false }, kinds := [], alts := [], laidByText := true, laidKinds := [.data, .data, .data], laidTests := true, laidLooks := .later }
def CivilTurnsUptoCardSaid : Prop := Claim7.holds Tryd.pinned (.plain (OpenSpec.upto civilTurnsSpec)) civilTurnsUptoCard

/-- THE SECOND FORM's CARD OF 'letterbaglaw01.CivilYearly'. -/
def civilYearlyUptoCard : Claim7 := { stood := { row := civilYearlyUptoRow, standIns := [], harness := (true, "a3e6fb74c60dd84b572452196dd893bb6c6d956eddf191e61ac49d10fd48dc06"), looks := false }, kinds := [], alts := [], laidByText := true, laidKinds := [.data, .data, .data], laidTests := true, laidLooks := .later }
def CivilYearlyUptoCardSaid : Prop := Claim7.holds Tryd.pinned (.plain (OpenSpec.upto civilYearlySpec)) civilYearlyUptoCard

/-- THE SECOND FORM's CARD OF 'letterbaglaw01.CivilWorks'. -/
def civilWorksUptoCard : Claim7 := { stood := { row := civilWorksUptoRow, standIns := [], harness := (true, "a3e6fb74c60dd84b572452196dd893bb6c6d956eddf191e61ac49d10fd48dc06"), looks := false }, kinds := [], alts := [], laidByText := true, laidKinds := [.data, .data, .data], laidTests := true, laidLooks := .later }
def CivilWorksUptoCardSaid : Prop := Claim7.holds Tryd.pinned (.plain (OpenSpec.upto civilWorksSpec)) civilWorksUptoCard

/-- THE SECOND FORM's CARD OF 'letterbaglaw01.CivilAdds'. -/
def civilAddsUptoCard : Claim7 := { stood := { row := civilAddsUptoRow, standIns := [], harness := (true, "a3e6fb74c60dd84b572452196dd893bb6c6d956eddf191e61ac49d10fd48dc06"), looks := false }, kinds := [], alts := [], laidByText := true, laidKinds := [.data, .data, .data], laidTests := true, laidLooks := .later }
def CivilAddsUptoCardSaid : Prop := Claim7.holds Tryd.pinned (.plain (OpenSpec.upto civilAddsSpec)) civilAddsUptoCard

/-- THE SECOND FORM's CARD OF 'letterbaglaw01.CivilAhead'. -/
def civilAheadUptoCard : Claim7 := { stood := { row := civilAheadUptoRow, standIns := [], harness := (true, "a3e6fb74c60dd84b572452196dd893bb6c6d956eddf191e61ac49d10fd48dc06"), looks := false }, kinds := [], alts := [], laidByText := true, laidKinds := [.data, .data, .data], laidTests := true, laidLooks := .later }
def CivilAheadUptoCardSaid : Prop := Claim7.holds Tryd.pinned (.plain (OpenSpec.upto civilAheadSpec)) civilAheadUptoCard

/-- THE SECOND FORM's CARD OF 'letterbaglaw01.CivilWrites'. -/
def civilWritesUptoCard : Claim7 := { stood := { row := civilWritesUptoRow, standIns := [], harness := (true, "a3e6fb74c60dd84b572452196dd893bb6c6d956eddf191e61ac49d10fd48dc06"), looks := false }, kinds := [], alts := [], laidByText := true, laidKinds := [.data, .data, .data], laidTests := true, laidLooks := .later }
def CivilWritesUptoCardSaid : Prop := Claim7.holds Tryd.pinned (.plain (OpenSpec.upto civilWritesSpec)) civilWritesUptoCard

/-- THE SECOND FORM's CARD OF 'letterbaglaw01.CivilTells'. -/
def civilTellsUptoCard : Claim7 := { stood := { row := civilTellsUptoRow, standIns := [], harness := (true, "a3e6fb74c60dd84b572452196dd893bb6c6d956eddf191e61ac49d10fd48dc06"), looks := false }, kinds := [], alts := [], laidByText := true, laidKinds := [.data, .data, .data], laidTests := true, laidLooks := .later }
def CivilTellsUptoCardSaid : Prop := Claim7.holds Tryd.pinned (.plain (OpenSpec.upto civilTellsSpec)) civilTellsUptoCard
end Rows
end Go.Proofs.YthmgkfljaneocaaDoor
