/- NatTexts answers true for every limbs, text and exponent: texts and powers of the number package are those of the reference, which reckons on lists of bits. -/
import Derived.Test.YtfjdhclpcbgdbaaNatTextsW
import Derived.Test.YtfjdhclpcbgdbaaFrame
import Derived.Test.YtfjdhclpcbgdbaaRows

namespace Go.Proofs.Ytfjdhclpcbgdbaa.natTexts
open Go Go.ChangeShapes Go.WideShapes Go.ChangeAt Go.RowKit Go.WideMaps Go.WideElems
open Go.ChangeMaps (open_string)
set_option linter.unusedVariables false
theorem own : ownKnob Try.prog.godebug = none := by kernel_rfl
theorem laidOut : laidOutB Try.prog = true := by kernel_rfl
set_option maxRecDepth 100000 in
theorem lifted (os : Os) (started : os.Started) (H : Type) (enc : TypeId × Value → H) :
    ReturnsInHanded {} Try.checked os 3 .any (Rows.natTextsSpec.pre6 enc Try.prog Try.f3 Rows.natTextsRow.domain false)
      (Rows.natTextsSpec.post enc Try.prog Try.f3 false true false false) := by
  refine returnsInHanded_of_change_sized (C := Try.checked) own started (by kernel_rfl) Try.func3
    (ChangeSpec.witness6 (enc := enc) (C := Try.checked) false ⟨#[], #[.slice none 0 0, .string ⟨#[]⟩, .slice none 0 0, .int .i64 0], []⟩ 8 (by kernel_rfl) (by kernel_rfl) (by kernel_rfl) (by kernel_rfl)) ?_
  intro W base args ds gs before hval0 hW _ hsz0 _
  have hval : ∀ (j : Nat) t v, Try.f3.params[j]? = some t → args[j]? = some v → Value.okWide Try.prog W .any base t v := hval0
  have hW' := hW
  obtain ⟨p, q, hA0, hV, rfl, hfz, hnd⟩ := hW
  have hA : DataW.TrodAll enc Try.prog W 0 (fun _ => true) true Try.f3.params.toList args.toList ds p := hA0
  have hAk := hA
  have hsz : (DataW.weightsEach Try.prog (Try.f3.params.toList ++ Rows.natTextsSpec.plain.varTypes Try.prog) (ds ++ gs)).all (· ≤ reachBytes) = true := hsz0
  rw [Try.params3] at hA hval hsz
  obtain ⟨v0, vs0, d0, ds0, p0, q0, hargs, rfl, rfl, h0, r0⟩ := trodAll_cons hA
  obtain ⟨v1, vs1, d1, ds1, p1, q1, rfl, rfl, rfl, h1, r1⟩ := trodAll_cons r0
  obtain ⟨v2, vs2, d2, ds2, p2, q2, rfl, rfl, rfl, h2, r2⟩ := trodAll_cons r1
  obtain ⟨v3, vs3, d3, ds3, p3, q3, rfl, rfl, rfl, h3, r3⟩ := trodAll_cons r2
  obtain ⟨rfl, rfl, rfl⟩ := trodAll_nil r3
  obtain rfl : args = #[v0, v1, v2, v3] := by cases args; simp_all
  obtain ⟨rfl, rfl⟩ := trodVars_none hV
  obtain ⟨A0, a0, c0, rfl, l0, m0, n0, w0, hd0, k0⟩ := Kt.open_slice_ints2 Try.underlying22 Try.underlying33 (by kernel_rfl) (hval 0 22 v0 rfl rfl) h0
  have z0 : a0.length * 4 ≤ 140737488351232 := by
    rcases hd0 with rfl | ⟨sp, rfl⟩
    · simp
    · have hs := sized_slice hsz (j := 0) (t := 22) (e := 33) rfl rfl Try.underlying22
      rw [show Try.prog.bytesOf 33 = 4 from by kernel_rfl] at hs
      simp only [lits, List.length_map, reachBytes] at hs
      omega
  obtain ⟨a1, rfl, rfl, rfl, w1⟩ := open_string Try.underlying9 (hval 1 9 v1 rfl rfl) h1
  obtain ⟨A2, a2, c2, rfl, l2, m2, n2, w2, hd2, k2⟩ := Kt.open_slice_ints2 Try.underlying22 Try.underlying33 (by kernel_rfl) (hval 2 22 v2 rfl rfl) h2
  have z2 : a2.length * 4 ≤ 140737488351232 := by
    rcases hd2 with rfl | ⟨sp, rfl⟩
    · simp
    · have hs := sized_slice hsz (j := 2) (t := 22) (e := 33) rfl rfl Try.underlying22
      rw [show Try.prog.bytesOf 33 = 4 from by kernel_rfl] at hs
      simp only [lits, List.length_map, reachBytes] at hs
      omega
  obtain ⟨a3, rfl, rfl, rfl, w3⟩ := open_int Try.underlying3 (hval 3 3 v3 rfl rfl) h3
  clear hA0 hval0
  simp only [List.append_nil] at hW' hAk
  refine (walk_NatTexts W A0 c0 a0 l0 m0 n0 w0 z0 k0 a1 w1 A2 c2 a2 l2 m2 n2 w2 z2 k2 a3 w3).mono fun e W' ⟨he, hb⟩ => ?_
  subst he
  exact ⟨_, rfl, Kt.law_post laidOut (by kernel_rfl) Try.underlying4 (by kernel_rfl) rfl hW' hAk rfl hb⟩
theorem over : Rows.natTextsRow.holds Try.pinned (OpenSpec.ofChange Rows.natTextsSpec) :=
  OpenClaim.holds_of_wide 3 Try.f3 rfl rfl rfl rfl rfl rfl rfl ⟨rfl, rfl, rfl, rfl, rfl⟩ rfl rfl rfl rfl rfl (by kernel_rfl) Try.func3 (by kernel_rfl)
    (of_decide_eq_true (by kernel_rfl)) (by unfold Func.isWrapper; first | (rw [if_pos (by decide +kernel)]; kernel_rfl) | (rw [if_neg (by decide +kernel)]; exact ⟨rfl, rfl⟩))
    (fun os started H enc _ => lifted os started H enc)
theorem proved : Rows.NatTextsSaid :=
  over
#print axioms proved
end Go.Proofs.Ytfjdhclpcbgdbaa.natTexts
