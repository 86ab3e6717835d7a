/- Joined: GrammarAll. -/
import Derived.Test.YtkclifdbdnigaaaMg05
import Derived.Test.YtkclifdbdnigaaaMa13
import Derived.Test.YtkclifdbdnigaaaRows
section
/- GrammarAll: the frame of its row. -/

namespace Go.Proofs.Ytkclifdbdnigaaa.grammarAll
open Go Go.ChangeShapes Go.WideShapes Go.ChangeAt Go.RowKit Go.WideMaps Go.WideElems
open Go.ChangeMaps (open_string)
set_option linter.unusedVariables false
theorem own : ownKnob Try.prog.godebug = none := by kernel_rfl
theorem laidOut : laidOutB Try.prog = true := by kernel_rfl
set_option maxRecDepth 100000 in
set_option maxHeartbeats 4000000 in
theorem lifted (os : Os) (started : os.Started) (H : Type) (enc : TypeId × Value → H) :
    ReturnsInHanded {} Try.checked os 7 .any (Rows.grammarAllSpec.pre6 enc Try.prog Try.f7 Rows.grammarAllRow.domain false)
      (Rows.grammarAllSpec.post enc Try.prog Try.f7 false true false false) := by
  refine returnsInHanded_of_change_sized (C := Try.checked) own started (by kernel_rfl) Try.func7
    (ChangeSpec.witness6 (enc := enc) (C := Try.checked) false ⟨#[], #[.slice none 0 0, .slice none 0 0, .int .u8 0], []⟩ 8 (by kernel_rfl) (by kernel_rfl) (by kernel_rfl) (by kernel_rfl)) ?_
  intro W base args ds gs before hval0 hW _ hsz0 _
  have hval : ∀ (j : Nat) t v, Try.f7.params[j]? = some t → args[j]? = some v → Value.okWide Try.prog W .any base t v := hval0
  have hW' := hW
  obtain ⟨p, q, hA0, hV, rfl, hfz, hnd⟩ := hW
  have hA : DataW.TrodAll enc Try.prog W 0 (fun _ => true) true Try.f7.params.toList args.toList ds p := hA0
  have hAk := hA
  have hsz : (DataW.weightsEach Try.prog (Try.f7.params.toList ++ Rows.grammarAllSpec.plain.varTypes Try.prog) (ds ++ gs)).all (· ≤ reachBytes) = true := hsz0
  rw [Try.params7] at hA hval hsz
  obtain ⟨v0, vs0, d0, ds0, p0, q0, hargs, rfl, rfl, h0, r0⟩ := trodAll_cons hA
  obtain ⟨v1, vs1, d1, ds1, p1, q1, rfl, rfl, rfl, h1, r1⟩ := trodAll_cons r0
  obtain ⟨v2, vs2, d2, ds2, p2, q2, rfl, rfl, rfl, h2, r2⟩ := trodAll_cons r1
  obtain ⟨rfl, rfl, rfl⟩ := trodAll_nil r2
  obtain rfl : args = #[v0, v1, v2] := by cases args; simp_all
  obtain ⟨rfl, rfl⟩ := trodVars_none hV
  obtain ⟨ra0, rn0, rc0, rfl⟩ := okWide_slice Try.underlying22 (hval 0 22 v0 rfl rfl)
  have hw0 := fun x hx => of_decide_eq_true (List.all_eq_true.1 hsz x (DataW.weights_mem_each (j := 0) (t := 22) rfl rfl x hx))
  obtain ⟨fu0, hf0⟩ := h0
  obtain ⟨A0, a0, c0, e0, _, l0, m0, w0⟩ := open_rules (by simpa [Value.cells] using hf0) hw0
  injection e0 with e0a e0b e0c
  subst e0a e0b e0c
  obtain ⟨A1, a1, c1, rfl, l1, m1, n1, w1, hd1, k1⟩ := Kt.open_slice_ints2 Try.underlying31 Try.underlying38 (by kernel_rfl) (hval 1 31 v1 rfl rfl) h1
  have z1 : a1.length * 2 ≤ 140737488351232 := by
    rcases hd1 with rfl | ⟨sp, rfl⟩
    · simp
    · have hs := sized_slice hsz (j := 1) (t := 31) (e := 38) rfl rfl Try.underlying31
      rw [show Try.prog.bytesOf 38 = 2 from by kernel_rfl] at hs
      simp only [lits, List.length_map, reachBytes] at hs
      omega
  obtain ⟨a2, rfl, rfl, rfl, w2⟩ := open_int Try.underlying5 (hval 2 5 v2 rfl rfl) h2
  clear hA0 hval0
  simp only [List.append_nil] at hW' hAk
  refine (walk_GrammarAll W _ rc0 a0 l0 m0 w0 A1 c1 a1 l1 m1 n1 w1 z1 k1 a2 w2).mono fun e W' ⟨he, hb⟩ => ?_
  subst he
  exact ⟨_, rfl, Kt.law_post laidOut (by kernel_rfl) Try.underlying4 (by kernel_rfl) rfl hW' hAk rfl hb⟩
theorem over : Rows.grammarAllRow.holds Try.pinned (OpenSpec.ofChange Rows.grammarAllSpec) :=
  OpenClaim.holds_of_wide 7 Try.f7 rfl rfl rfl rfl rfl rfl rfl ⟨rfl, rfl, rfl, rfl, rfl⟩ rfl rfl rfl rfl rfl (by kernel_rfl) Try.func7 (by kernel_rfl)
    (of_decide_eq_true (by kernel_rfl)) (by unfold Func.isWrapper; first | (rw [if_pos (by decide +kernel)]; kernel_rfl) | (rw [if_neg (by decide +kernel)]; exact ⟨rfl, rfl⟩))
    (fun os started H enc _ => lifted os started H enc)
theorem proved : Rows.GrammarAllSaid :=
  over
#print axioms proved
end Go.Proofs.Ytkclifdbdnigaaa.grammarAll
end
