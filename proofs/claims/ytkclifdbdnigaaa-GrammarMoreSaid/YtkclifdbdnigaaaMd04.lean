/- Joined: GrammarMore. -/
import Derived.Test.YtkclifdbdnigaaaMd03
import Derived.Test.YtkclifdbdnigaaaMa13
import Derived.Test.YtkclifdbdnigaaaRows
section
/- GrammarMore: the frame of its row. -/

namespace Go.Proofs.Ytkclifdbdnigaaa.grammarMore
open Go Go.ChangeShapes Go.WideShapes Go.ChangeAt Go.RowKit Go.WideMaps Go.WideElems
open Go.ChangeMaps (open_string)
set_option linter.unusedVariables false
theorem own : ownKnob Try.prog.godebug = none := by kernel_rfl
theorem laidOut : laidOutB Try.prog = true := by kernel_rfl
set_option maxRecDepth 100000 in
set_option maxHeartbeats 4000000 in
theorem lifted (os : Os) (started : os.Started) (H : Type) (enc : TypeId × Value → H) :
    ReturnsInHanded {} Try.checked os 8 .any (Rows.grammarMoreSpec.pre6 enc Try.prog Try.f8 Rows.grammarMoreRow.domain false)
      (Rows.grammarMoreSpec.post enc Try.prog Try.f8 false true false false) := by
  refine returnsInHanded_of_change_sized (C := Try.checked) own started (by kernel_rfl) Try.func8
    (ChangeSpec.witness6 (enc := enc) (C := Try.checked) false ⟨#[], #[.slice none 0 0, .agg #[.int .i64 0, .slice none 0 0], .slice none 0 0, .int .i64 0, .int .u16 0], []⟩ 8 (by kernel_rfl) (by kernel_rfl) (by kernel_rfl) (by kernel_rfl)) ?_
  intro W base args ds gs before hval0 hW _ hsz0 _
  have hval : ∀ (j : Nat) t v, Try.f8.params[j]? = some t → args[j]? = some v → Value.okWide Try.prog W .any base t v := hval0
  have hW' := hW
  obtain ⟨p, q, hA0, hV, rfl, hfz, hnd⟩ := hW
  have hA : DataW.TrodAll enc Try.prog W 0 (fun _ => true) true Try.f8.params.toList args.toList ds p := hA0
  have hAk := hA
  have hsz : (DataW.weightsEach Try.prog (Try.f8.params.toList ++ Rows.grammarMoreSpec.plain.varTypes Try.prog) (ds ++ gs)).all (· ≤ reachBytes) = true := hsz0
  rw [Try.params8] at hA hval hsz
  obtain ⟨v0, vs0, d0, ds0, p0, q0, hargs, rfl, rfl, h0, r0⟩ := trodAll_cons hA
  obtain ⟨v1, vs1, d1, ds1, p1, q1, rfl, rfl, rfl, h1, r1⟩ := trodAll_cons r0
  obtain ⟨v2, vs2, d2, ds2, p2, q2, rfl, rfl, rfl, h2, r2⟩ := trodAll_cons r1
  obtain ⟨v3, vs3, d3, ds3, p3, q3, rfl, rfl, rfl, h3, r3⟩ := trodAll_cons r2
  obtain ⟨v4, vs4, d4, ds4, p4, q4, rfl, rfl, rfl, h4, r4⟩ := trodAll_cons r3
  obtain ⟨rfl, rfl, rfl⟩ := trodAll_nil r4
  obtain rfl : args = #[v0, v1, v2, v3, v4] := by cases args; simp_all
  obtain ⟨rfl, rfl⟩ := trodVars_none hV
  obtain ⟨ra0, rn0, rc0, rfl⟩ := okWide_slice Try.underlying22 (hval 0 22 v0 rfl rfl)
  have hw0 := fun x hx => of_decide_eq_true (List.all_eq_true.1 hsz x (DataW.weights_mem_each (j := 0) (t := 22) rfl rfl x hx))
  obtain ⟨fu0, hf0⟩ := h0
  obtain ⟨A0, a0, c0, e0, _, l0, m0, w0⟩ := open_rules (by simpa [Value.cells] using hf0) hw0
  injection e0 with e0a e0b e0c
  subst e0a e0b e0c
  have hw1 := fun x hx => of_decide_eq_true (List.all_eq_true.1 hsz x (DataW.weights_mem_each (j := 1) (t := 37) rfl rfl x hx))
  obtain ⟨a1, A1, c1, rfl, l1, m1, w1⟩ := open_rule (hval 1 37 v1 rfl rfl) h1 hw1
  obtain ⟨A2, a2, c2, rfl, l2, m2, n2, w2, hd2, k2⟩ := Kt.open_slice_ints2 Try.underlying31 Try.underlying38 (by kernel_rfl) (hval 2 31 v2 rfl rfl) h2
  have z2 : a2.length * 2 ≤ 140737488351232 := by
    rcases hd2 with rfl | ⟨sp, rfl⟩
    · simp
    · have hs := sized_slice hsz (j := 2) (t := 31) (e := 38) rfl rfl Try.underlying31
      rw [show Try.prog.bytesOf 38 = 2 from by kernel_rfl] at hs
      simp only [lits, List.length_map, reachBytes] at hs
      omega
  obtain ⟨a3, rfl, rfl, rfl, w3⟩ := open_int Try.underlying3 (hval 3 3 v3 rfl rfl) h3
  obtain ⟨a4, rfl, rfl, rfl, w4⟩ := open_int Try.underlying38 (hval 4 38 v4 rfl rfl) h4
  clear hA0 hval0
  simp only [List.append_nil] at hW' hAk
  refine (walk_GrammarMore W _ rc0 a0 l0 m0 w0 a1 A1 c1 l1 m1 w1 A2 c2 a2 l2 m2 n2 w2 z2 k2 a3 w3 a4 w4).mono fun e W' ⟨he, hb⟩ => ?_
  subst he
  exact ⟨_, rfl, Kt.law_post laidOut (by kernel_rfl) Try.underlying4 (by kernel_rfl) rfl hW' hAk rfl hb⟩
theorem over : Rows.grammarMoreRow.holds Try.pinned (OpenSpec.ofChange Rows.grammarMoreSpec) :=
  OpenClaim.holds_of_wide 8 Try.f8 rfl rfl rfl rfl rfl rfl rfl ⟨rfl, rfl, rfl, rfl, rfl⟩ rfl rfl rfl rfl rfl (by kernel_rfl) Try.func8 (by kernel_rfl)
    (of_decide_eq_true (by kernel_rfl)) (by unfold Func.isWrapper; first | (rw [if_pos (by decide +kernel)]; kernel_rfl) | (rw [if_neg (by decide +kernel)]; exact ⟨rfl, rfl⟩))
    (fun os started H enc _ => lifted os started H enc)
theorem proved : Rows.GrammarMoreSaid :=
  over
#print axioms proved
end Go.Proofs.Ytkclifdbdnigaaa.grammarMore
end
