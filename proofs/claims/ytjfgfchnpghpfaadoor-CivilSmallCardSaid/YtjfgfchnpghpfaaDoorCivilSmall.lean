/- CivilSmall: the frame of its row. -/
import Derived.Test.YtjfgfchnpghpfaaDoorCsB
import Derived.Test.YtjfgfchnpghpfaaDoorFrame
import Derived.Test.YtjfgfchnpghpfaaDoorRows
import Derived.Test.YtjfgfchnpghpfaaDoorLaid
import Derived.Test.YtjfgfchnpghpfaaDoorCards
import Derived.Test.YtjfgfchnpghpfaaDoorTie
import Derived.SevenTiedAt

namespace Go.Proofs.YtjfgfchnpghpfaaDoor.civilSmall
open Go Go.ChangeShapes Go.WideShapes Go.ChangeAt Go.RowKit Go.WideMaps Go.WideElems
open Go.ChangeMaps (open_string)
set_option linter.unusedVariables false
theorem own : ownKnob Tryd.prog.godebug = none := by kernel_rfl
theorem laidOut : laidOutB Tryd.prog = true := by kernel_rfl
theorem row_laid : Rows.civilSmallRow.laid = laidL := by kernel_rfl
theorem door_row (os : Os) (args : Array Value) : laidMetH Tryd.prog Rows.civilSmallRow.laid ((World.doorLaid Tryd.prog 24 os).forCall (fun _ _ => 0) ⟨#[], args, []⟩).memory := by
  rw [row_laid]
  exact door_met os args
theorem plain_row (W : World) (h : laidMetH Tryd.prog Rows.civilSmallRow.laid W) : Tab W := by
  rw [row_laid] at h
  exact tab_of_laid (plain_laid W h)
set_option maxRecDepth 100000 in
set_option maxHeartbeats 4000000 in
theorem lifted (os : Os) (started : os.Started) (H : Type) (enc : TypeId × Value → H) :
    ReturnsInHanded {} Tryd.checked os 3 .any (fun w args => (Rows.civilSmallSpec.pre enc Tryd.prog Tryd.f3 Rows.civilSmallRow.domain false w args ∧ laidMetH Tryd.prog Rows.civilSmallRow.laid w) ∧ sizedMet enc Tryd.prog Tryd.f3 (OpenSpec.ofChange Rows.civilSmallSpec) false w args)
      (Rows.civilSmallSpec.post enc Tryd.prog Tryd.f3 false true false false) := by
  refine returnsInHanded_of_change_and (C := Tryd.checked) (X := fun w _ => laidMetH Tryd.prog Rows.civilSmallRow.laid w) (fun _ _ _ hh h => h.of_heap hh) own started (by kernel_rfl) Tryd.func3
    (ChangeSpec.witness_shaped (enc := enc) (C := Tryd.checked) (os := os) (X := fun w _ => laidMetH Tryd.prog Rows.civilSmallRow.laid w) false (World.doorLaid Tryd.prog 24 os) #[] 8 rfl (door_shaped os _) (by kernel_rfl) (by kernel_rfl) (by kernel_rfl) (door_row os _)) ?_
  intro W base args ds gs before hval0 hW _ hsz0 hL _
  have hval : ∀ (j : Nat) t v, Tryd.f3.params[j]? = some t → args[j]? = some v → Value.okWide Tryd.prog W .any base t v := hval0
  have hW' := hW
  obtain ⟨p, q, hA0, hV, rfl, hfz, hnd⟩ := hW
  have hA : DataW.TrodAll enc Tryd.prog W 0 (fun _ => true) true Tryd.f3.params.toList args.toList ds p := hA0
  have hAk := hA
  have hsz : (DataW.weightsEach Tryd.prog (Tryd.f3.params.toList ++ Rows.civilSmallSpec.plain.varTypes Tryd.prog) (ds ++ gs)).all (· ≤ reachBytes) = true := hsz0
  rw [Tryd.params3] at hA hval hsz
  obtain ⟨hargs, rfl, rfl⟩ := trodAll_nil hA
  obtain rfl : args = #[] := by cases args; simp_all
  obtain ⟨rfl, rfl⟩ := trodVars_none hV
  clear hA0 hval0
  simp only [List.append_nil] at hW' hAk
  have hT : Tab W := plain_row W hL
  refine (walk_CivilSmall  W hT).mono fun e W' ⟨he, hb⟩ => ?_
  subst he
  exact ⟨_, rfl, Kt.law_post laidOut (by kernel_rfl) Tryd.underlying4 (by kernel_rfl) rfl hW' hAk rfl hb⟩
theorem over : Rows.civilSmallRow.holds Tryd.pinned (OpenSpec.ofChange Rows.civilSmallSpec) :=
  OpenClaim.holds_of_wide 3 Tryd.f3 rfl rfl rfl rfl rfl rfl rfl ⟨rfl, rfl, rfl, rfl, rfl⟩ rfl rfl rfl rfl rfl (by kernel_rfl) Tryd.func3 (by kernel_rfl)
    (of_decide_eq_true (by kernel_rfl)) (by unfold Func.isWrapper; first | (rw [if_pos (by decide +kernel)]; kernel_rfl) | (rw [if_neg (by decide +kernel)]; exact ⟨rfl, rfl⟩))
    (fun os started H enc _ => lifted os started H enc)
theorem proved : Rows.CivilSmallCardSaid :=
  Claim7.holds_tied_plain_at .later [] Rows.civilSmallCard.laidKinds true Rows.civilSmallCard.stood.harness false
    over (fun _ h => by cases h) (by kernel_rfl) (fun _ h => by cases h) civilSmall_row_tie rfl ⟨rfl, rfl⟩ (by kernel_rfl) rfl
    (fun f fn hf hfn => by
      obtain rfl : f = 3 := Option.some.inj ((show Tryd.prog.funcNamed "letterbag/letterbaglaw01.CivilSmall" = some 3 by kernel_rfl).symm.trans hf) |>.symm
      obtain rfl : fn = Tryd.f3 := (Option.some.inj (Tryd.func3.symm.trans hfn)).symm
      exact ⟨by kernel_rfl, fun j t ht => by
        rw [Tryd.params3] at ht
        have hm : t ∈ [] := by simpa using Array.mem_of_getElem? ht
        have hall : ([].all fun u => !Tryd.prog.wantsStandIn u) = true := by kernel_rfl
        exact (show Tryd.prog.wantsStandIn t = false by simpa using List.all_eq_true.1 hall t hm)⟩)
    (by kernel_rfl)
#print axioms proved
end Go.Proofs.YtjfgfchnpghpfaaDoor.civilSmall
