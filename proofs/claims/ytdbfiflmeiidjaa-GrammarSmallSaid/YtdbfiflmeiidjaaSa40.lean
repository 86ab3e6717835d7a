/- GrammarSmall answers true: program and reference agree on the small grammars, on their tokens and at the limits. It holds as it stands, without conditions (a closed statement). -/
import Derived.Test.YtdbfiflmeiidjaaSa39
import Derived.Test.YtdbfiflmeiidjaaSa26
import Derived.Test.YtdbfiflmeiidjaaRows
section
/- GrammarSmall: the frame of its row. -/
namespace Go.Proofs.Ytdbfiflmeiidjaa.grammarSmall
open Go Go.ChangeShapes Go.WideShapes Go.ChangeAt Go.RowKit Go.WideMaps Go.WideElems
open Go.ChangeMaps (open_string)
set_option linter.unusedVariables false
theorem own:ownKnob Try.prog.godebug = none:=by kernel_rfl
theorem laidOut:laidOutB Try.prog = true:=by kernel_rfl
set_option maxRecDepth 100000 in
set_option maxHeartbeats 4000000 in
theorem lifted (os:Os) (started:os.Started) (H:Type) (enc:TypeId × Value → H) :
    ReturnsInHanded {} Try.checked os 3 .any (Rows.grammarSmallSpec.pre6 enc Try.prog Try.f3 Rows.grammarSmallRow.domain false)
      (Rows.grammarSmallSpec.post enc Try.prog Try.f3 false true false false):=by
  refine returnsInHanded_of_change_sized (C:=Try.checked) own started (by kernel_rfl) Try.func3
    (ChangeSpec.witness6 (enc:=enc) (C:=Try.checked) false ⟨#[],#[],[]⟩ 8 (by kernel_rfl) (by kernel_rfl) (by kernel_rfl) (by kernel_rfl)) ?_
  intro W base args ds gs before hval0 hW _ hsz0 _;have hval:∀ (j:Nat) t v,Try.f3.params[j]? = some t → args[j]? = some v → Value.okWide Try.prog W .any base t v:=hval0;have hW':=hW;obtain ⟨p,q,hA0,hV,rfl,hfz,hnd⟩:=hW;have hA:DataW.TrodAll enc Try.prog W 0 (fun _ => true) true Try.f3.params.toList args.toList ds p:=hA0;have hAk:=hA;have hsz:(DataW.weightsEach Try.prog (Try.f3.params.toList ++ Rows.grammarSmallSpec.plain.varTypes Try.prog) (ds ++ gs)).all (· ≤ reachBytes) = true:=hsz0;rw [Try.params3] at hA hval hsz;obtain ⟨hargs,rfl,rfl⟩:=trodAll_nil hA;obtain rfl:args = #[]:=by cases args;simp_all
  obtain ⟨rfl,rfl⟩:=trodVars_none hV;clear hA0 hval0;simp only [List.append_nil] at hW' hAk;refine (walk_GrammarSmall  W).mono fun e W' ⟨he,hb⟩ => ?_
  subst he;exact ⟨_,rfl,Kt.law_post laidOut (by kernel_rfl) Try.underlying4 (by kernel_rfl) rfl hW' hAk rfl hb⟩
theorem over:Rows.grammarSmallRow.holds Try.pinned (OpenSpec.ofChange Rows.grammarSmallSpec) :=
  OpenClaim.holds_of_wide 3 Try.f3 rfl rfl rfl rfl rfl rfl rfl ⟨rfl,rfl,rfl,rfl,rfl⟩ rfl rfl rfl rfl rfl (by kernel_rfl) Try.func3 (by kernel_rfl)
    (of_decide_eq_true (by kernel_rfl)) (by unfold Func.isWrapper;first | (rw [if_pos (by decide +kernel)];kernel_rfl) | (rw [if_neg (by decide +kernel)];exact ⟨rfl,rfl⟩))
    (fun os started H enc _ => lifted os started H enc)
theorem proved:Rows.GrammarSmallSaid :=
  over
#print axioms proved
end Go.Proofs.Ytdbfiflmeiidjaa.grammarSmall
end
