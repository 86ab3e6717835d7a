/- CivilWorks answers true for all holidays and days: working days, days between and days ahead are as the reference implementation says, and the holidays are as they were. The listed variables hold what the program's text lays in them. -/
import Derived.Test.YthmgkfljaneocaaDoorCivilWorksW
import Derived.Test.YthmgkfljaneocaaDoorFrame
import Derived.Test.YthmgkfljaneocaaDoorRows
import Derived.Test.YthmgkfljaneocaaDoorLaid
import Derived.Test.YthmgkfljaneocaaDoorCards
import Derived.Test.YthmgkfljaneocaaDoorTie
import Derived.SevenTiedAt

namespace Go.Proofs.YthmgkfljaneocaaDoor.civilWorks
open Go Go.ChangeShapes Go.WideShapes Go.ChangeAt Go.RowKit Go.WideMaps Go.WideElems
open Go.ChangeMaps (open_string)
set_option linter.unusedVariables false
theorem own : ownKnob Tryd.prog.godebug = none := by kernel_rfl
theorem laidOut : laidOutB Tryd.prog = true := by kernel_rfl
theorem row_laid : Rows.civilWorksRow.laid = laidL := by kernel_rfl
theorem door_row (os : Os) (args : Array Value) : laidMetH Tryd.prog Rows.civilWorksRow.laid ((World.doorLaid Tryd.prog 24 os).forCall (fun _ _ => 0) ⟨#[], args, []⟩).memory := by
  rw [row_laid]
  exact door_met os args
theorem plain_row (W : World) (h : laidMetH Tryd.prog Rows.civilWorksRow.laid W) : Tab W := by
  rw [row_laid] at h
  exact tab_of_laid (plain_laid W h)
set_option maxRecDepth 100000 in
theorem lifted (os : Os) (started : os.Started) (H : Type) (enc : TypeId × Value → H) :
    ReturnsInHanded {} Tryd.checked os 8 .any (fun w args => (Rows.civilWorksSpec.pre enc Tryd.prog Tryd.f8 Rows.civilWorksRow.domain false w args ∧ laidMetH Tryd.prog Rows.civilWorksRow.laid w) ∧ sizedMet enc Tryd.prog Tryd.f8 (OpenSpec.ofChange Rows.civilWorksSpec) false w args)
      (Rows.civilWorksSpec.post enc Tryd.prog Tryd.f8 false true false false) := by
  refine returnsInHanded_of_change_and (C := Tryd.checked) (X := fun w _ => laidMetH Tryd.prog Rows.civilWorksRow.laid w) (fun _ _ _ hh h => h.of_heap hh) own started (by kernel_rfl) Tryd.func8
    (ChangeSpec.witness_shaped (enc := enc) (C := Tryd.checked) (os := os) (X := fun w _ => laidMetH Tryd.prog Rows.civilWorksRow.laid w) false (World.doorLaid Tryd.prog 24 os) #[.slice none 0 0, .int .i64 0, .int .i64 0, .int .i64 0, .int .i64 0, .int .i64 0] 8 rfl (door_shaped os _) (by kernel_rfl) (by kernel_rfl) (by kernel_rfl) (door_row os _)) ?_
  intro W base args ds gs before hval0 hW _ hsz0 hL _
  have hval : ∀ (j : Nat) t v, Tryd.f8.params[j]? = some t → args[j]? = some v → Value.okWide Tryd.prog W .any base t v := hval0
  have hW' := hW
  obtain ⟨p, q, hA0, hV, rfl, hfz, hnd⟩ := hW
  have hA : DataW.TrodAll enc Tryd.prog W 0 (fun _ => true) true Tryd.f8.params.toList args.toList ds p := hA0
  have hAk := hA
  have hsz : (DataW.weightsEach Tryd.prog (Tryd.f8.params.toList ++ Rows.civilWorksSpec.plain.varTypes Tryd.prog) (ds ++ gs)).all (· ≤ reachBytes) = true := hsz0
  rw [Tryd.params8] at hA hval hsz
  obtain ⟨v0, vs0, d0, ds0, p0, q0, hargs, rfl, rfl, h0, r0⟩ := trodAll_cons hA
  obtain ⟨v1, vs1, d1, ds1, p1, q1, rfl, rfl, rfl, h1, r1⟩ := trodAll_cons r0
  obtain ⟨v2, vs2, d2, ds2, p2, q2, rfl, rfl, rfl, h2, r2⟩ := trodAll_cons r1
  obtain ⟨v3, vs3, d3, ds3, p3, q3, rfl, rfl, rfl, h3, r3⟩ := trodAll_cons r2
  obtain ⟨v4, vs4, d4, ds4, p4, q4, rfl, rfl, rfl, h4, r4⟩ := trodAll_cons r3
  obtain ⟨v5, vs5, d5, ds5, p5, q5, rfl, rfl, rfl, h5, r5⟩ := trodAll_cons r4
  obtain ⟨rfl, rfl, rfl⟩ := trodAll_nil r5
  obtain rfl : args = #[v0, v1, v2, v3, v4, v5] := by cases args; simp_all
  obtain ⟨rfl, rfl⟩ := trodVars_none hV
  obtain ⟨A0, a0, c0, rfl, l0, m0, n0, w0, hd0, k0⟩ := Kt.open_slice_ints2 Tryd.underlying40 Tryd.underlying3 (by kernel_rfl) (hval 0 40 v0 rfl rfl) h0
  have z0 : a0.length * 8 ≤ 140737488351232 := by
    rcases hd0 with rfl | ⟨sp, rfl⟩
    · simp
    · have hs := sized_slice hsz (j := 0) (t := 40) (e := 3) rfl rfl Tryd.underlying40
      rw [show Tryd.prog.bytesOf 3 = 8 from by kernel_rfl] at hs
      simp only [lits, List.length_map, reachBytes] at hs
      omega
  obtain ⟨a1, rfl, rfl, rfl, w1⟩ := open_int Tryd.underlying3 (hval 1 3 v1 rfl rfl) h1
  obtain ⟨a2, rfl, rfl, rfl, w2⟩ := open_int Tryd.underlying3 (hval 2 3 v2 rfl rfl) h2
  obtain ⟨a3, rfl, rfl, rfl, w3⟩ := open_int Tryd.underlying3 (hval 3 3 v3 rfl rfl) h3
  obtain ⟨a4, rfl, rfl, rfl, w4⟩ := open_int Tryd.underlying3 (hval 4 3 v4 rfl rfl) h4
  obtain ⟨a5, rfl, rfl, rfl, w5⟩ := open_int Tryd.underlying3 (hval 5 3 v5 rfl rfl) h5
  clear hA0 hval0
  simp only [List.append_nil] at hW' hAk
  have hT : Tab W := plain_row W hL
  refine (walk_CivilWorks W A0 c0 a0 l0 m0 n0 w0 z0 k0 a1 w1 a2 w2 a3 w3 a4 w4 a5 w5 hT).mono fun e W' ⟨he, hb⟩ => ?_
  subst he
  exact ⟨_, rfl, Kt.law_post laidOut (by kernel_rfl) Tryd.underlying4 (by kernel_rfl) rfl hW' hAk rfl hb⟩
theorem over : Rows.civilWorksRow.holds Tryd.pinned (OpenSpec.ofChange Rows.civilWorksSpec) :=
  OpenClaim.holds_of_wide 8 Tryd.f8 rfl rfl rfl rfl rfl rfl rfl ⟨rfl, rfl, rfl, rfl, rfl⟩ rfl rfl rfl rfl rfl (by kernel_rfl) Tryd.func8 (by kernel_rfl)
    (of_decide_eq_true (by kernel_rfl)) (by unfold Func.isWrapper; first | (rw [if_pos (by decide +kernel)]; kernel_rfl) | (rw [if_neg (by decide +kernel)]; exact ⟨rfl, rfl⟩))
    (fun os started H enc _ => lifted os started H enc)
theorem proved : Rows.CivilWorksCardSaid :=
  Claim7.holds_tied_plain_at .later [] Rows.civilWorksCard.laidKinds true Rows.civilWorksCard.stood.harness false
    over (fun _ h => by cases h) (by kernel_rfl) (fun _ h => by cases h) civilWorks_row_tie rfl ⟨rfl, rfl⟩ (by kernel_rfl) rfl
    (fun f fn hf hfn => by
      obtain rfl : f = 8 := Option.some.inj ((show Tryd.prog.funcNamed "letterbag/letterbaglaw01.CivilWorks" = some 8 by kernel_rfl).symm.trans hf) |>.symm
      obtain rfl : fn = Tryd.f8 := (Option.some.inj (Tryd.func8.symm.trans hfn)).symm
      exact ⟨by kernel_rfl, fun j t ht => by
        rw [Tryd.params8] at ht
        have hm : t ∈ [40, 3, 3, 3, 3, 3] := by simpa using Array.mem_of_getElem? ht
        have hall : ([40, 3, 3, 3, 3, 3].all fun u => !Tryd.prog.wantsStandIn u) = true := by kernel_rfl
        exact (show Tryd.prog.wantsStandIn t = false by simpa using List.all_eq_true.1 hall t hm)⟩)
    (by kernel_rfl)
#print axioms proved
end Go.Proofs.YthmgkfljaneocaaDoor.civilWorks
