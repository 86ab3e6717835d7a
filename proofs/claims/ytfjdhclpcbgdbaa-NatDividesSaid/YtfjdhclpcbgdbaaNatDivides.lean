/- NatDivides answers true for every two numbers: the dividend is the quotient times the divisor plus the remainder, which is less than the divisor; and division by zero is refused. -/
import Derived.Test.YtfjdhclpcbgdbaaNatDividesW
import Derived.Test.YtfjdhclpcbgdbaaFrame
import Derived.Test.YtfjdhclpcbgdbaaRows

namespace Go.Proofs.Ytfjdhclpcbgdbaa.natDivides
open Go Go.ChangeShapes Go.WideShapes Go.ChangeAt Go.RowKit Go.WideMaps Go.WideElems
open Go.ChangeMaps (open_string)
set_option linter.unusedVariables false
theorem own : ownKnob Try.prog.godebug = none := by kernel_rfl
theorem laidOut : laidOutB Try.prog = true := by kernel_rfl
set_option maxRecDepth 100000 in
theorem lifted (os : Os) (started : os.Started) (H : Type) (enc : TypeId × Value → H) :
    ReturnsInHanded {} Try.checked os 8 .any (Rows.natDividesSpec.pre6 enc Try.prog Try.f8 Rows.natDividesRow.domain false)
      (Rows.natDividesSpec.post enc Try.prog Try.f8 false true false false) := by
  refine returnsInHanded_of_change_sized (C := Try.checked) own started (by kernel_rfl) Try.func8
    (ChangeSpec.witness6 (enc := enc) (C := Try.checked) false ⟨#[], #[.slice none 0 0, .slice none 0 0], []⟩ 8 (by kernel_rfl) (by kernel_rfl) (by kernel_rfl) (by kernel_rfl)) ?_
  intro W base args ds gs before hval0 hW _ hsz0 _
  have hval : ∀ (j : Nat) t v, Try.f8.params[j]? = some t → args[j]? = some v → Value.okWide Try.prog W .any base t v := hval0
  have hW' := hW
  obtain ⟨p, q, hA0, hV, rfl, hfz, hnd⟩ := hW
  have hA : DataW.TrodAll enc Try.prog W 0 (fun _ => true) true Try.f8.params.toList args.toList ds p := hA0
  have hAk := hA
  have hsz : (DataW.weightsEach Try.prog (Try.f8.params.toList ++ Rows.natDividesSpec.plain.varTypes Try.prog) (ds ++ gs)).all (· ≤ reachBytes) = true := hsz0
  rw [Try.params8] at hA hval hsz
  obtain ⟨v0, vs0, d0, ds0, p0, q0, hargs, rfl, rfl, h0, r0⟩ := trodAll_cons hA
  obtain ⟨v1, vs1, d1, ds1, p1, q1, rfl, rfl, rfl, h1, r1⟩ := trodAll_cons r0
  obtain ⟨rfl, rfl, rfl⟩ := trodAll_nil r1
  obtain rfl : args = #[v0, v1] := by cases args; simp_all
  obtain ⟨rfl, rfl⟩ := trodVars_none hV
  obtain ⟨A0, a0, c0, rfl, l0, m0, n0, w0, hd0, k0⟩ := Kt.open_slice_ints2 Try.underlying22 Try.underlying33 (by kernel_rfl) (hval 0 22 v0 rfl rfl) h0
  have z0 : a0.length * 4 ≤ 140737488351232 := by
    rcases hd0 with rfl | ⟨sp, rfl⟩
    · simp
    · have hs := sized_slice hsz (j := 0) (t := 22) (e := 33) rfl rfl Try.underlying22
      rw [show Try.prog.bytesOf 33 = 4 from by kernel_rfl] at hs
      simp only [lits, List.length_map, reachBytes] at hs
      omega
  obtain ⟨A1, a1, c1, rfl, l1, m1, n1, w1, hd1, k1⟩ := Kt.open_slice_ints2 Try.underlying22 Try.underlying33 (by kernel_rfl) (hval 1 22 v1 rfl rfl) h1
  have z1 : a1.length * 4 ≤ 140737488351232 := by
    rcases hd1 with rfl | ⟨sp, rfl⟩
    · simp
    · have hs := sized_slice hsz (j := 1) (t := 22) (e := 33) rfl rfl Try.underlying22
      rw [show Try.prog.bytesOf 33 = 4 from by kernel_rfl] at hs
      simp only [lits, List.length_map, reachBytes] at hs
      omega
  clear hA0 hval0
  simp only [List.append_nil] at hW' hAk
  refine (walk_NatDivides W A0 c0 a0 l0 m0 n0 w0 z0 k0 A1 c1 a1 l1 m1 n1 w1 z1 k1).mono fun e W' ⟨he, hb⟩ => ?_
  subst he
  exact ⟨_, rfl, Kt.law_post laidOut (by kernel_rfl) Try.underlying4 (by kernel_rfl) rfl hW' hAk rfl hb⟩
theorem over : Rows.natDividesRow.holds Try.pinned (OpenSpec.ofChange Rows.natDividesSpec) :=
  OpenClaim.holds_of_wide 8 Try.f8 rfl rfl rfl rfl rfl rfl rfl ⟨rfl, rfl, rfl, rfl, rfl⟩ rfl rfl rfl rfl rfl (by kernel_rfl) Try.func8 (by kernel_rfl)
    (of_decide_eq_true (by kernel_rfl)) (by unfold Func.isWrapper; first | (rw [if_pos (by decide +kernel)]; kernel_rfl) | (rw [if_neg (by decide +kernel)]; exact ⟨rfl, rfl⟩))
    (fun os started H enc _ => lifted os started H enc)
theorem proved : Rows.NatDividesSaid :=
  over
#print axioms proved
end Go.Proofs.Ytfjdhclpcbgdbaa.natDivides
