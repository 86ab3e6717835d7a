/- What list of the statements returns: holidays; sums of working days. -/
import Derived.Test.YthmgkfljaneocaaDoorCivN
namespace Cv
theorem asc_snoc {a x : Int} {H : List Int} (h : asc a H = true) (hx : ∀ y ∈ H, y < x) (ha : a < x) (h1 : x ≤ 730484) : asc a (H ++ [x]) = true := by
  induction H generalizing a with
  | nil => simp [asc, ha, h1]
  | cons y t ih =>
    simp only [asc, Bool.and_eq_true, decide_eq_true_eq] at h
    simp only [List.cons_append, asc, Bool.and_eq_true, decide_eq_true_eq]
    exact ⟨h.1, ih h.2 (fun z hz => hx z (by simp [hz])) (hx y (by simp))⟩
theorem asc_left {a : Int} {H G : List Int} (h : asc a (H ++ G) = true) : asc a H = true := by
  induction H generalizing a with
  | nil => rfl
  | cons y t ih =>
    simp only [List.cons_append, asc, Bool.and_eq_true, decide_eq_true_eq] at h
    simp only [asc, Bool.and_eq_true, decide_eq_true_eq]
    exact ⟨h.1, ih h.2⟩
theorem asc_last {a x : Int} {H : List Int} (h : asc a (H ++ [x]) = true) : (∀ y ∈ H, y < x) ∧ a < x ∧ x ≤ 730484 := by
  induction H generalizing a with
  | nil =>
    simp only [List.nil_append, asc, Bool.and_eq_true, decide_eq_true_eq] at h
    exact ⟨fun y hy => by simp at hy, h.1⟩
  | cons y t ih =>
    simp only [List.cons_append, asc, Bool.and_eq_true, decide_eq_true_eq] at h
    have ⟨h1, h2, h3⟩ := ih h.2
    refine ⟨fun z hz => ?_, by omega, h3⟩
    rcases List.mem_cons.1 hz with rfl | hz
    · exact h2
    · exact h1 z hz
theorem bef_snoc {a x : Int} {H : List Int} (h : asc a (H ++ [x]) = true) (d : Int) : bef d (H ++ [x]) = bef d H + (if d ≤ x then 0 else if x % 7 < 5 then 1 else 0) := by
  induction H generalizing a with
  | nil => simp [bef]
  | cons y t ih =>
    simp only [List.cons_append, asc, Bool.and_eq_true, decide_eq_true_eq] at h
    simp only [List.cons_append, bef]
    rw [ih h.2]
    have h1 := (asc_last h.2).2.1
    by_cases c : d ≤ y
    · rw [if_pos c, if_pos c, if_pos (show d ≤ x by omega)]; rfl
    · rw [if_neg c, if_neg c]; omega
/-- A holiday more takes away one working day, if it was one. -/
theorem cnt_snoc {a x : Int} {H : List Int} (h : asc a (H ++ [x]) = true) (d : Int) : cnt (H ++ [x]) d = cnt H d - (if d ≤ x then 0 else if x % 7 < 5 then 1 else 0) := by
  unfold cnt
  rw [bef_snoc h]
  omega
theorem wk_last {a x : Int} {H : List Int} (h : asc a (H ++ [x]) = true) : wk H x = decide (x % 7 < 5) := by
  unfold wk
  have h1 := (asc_last h).1
  have : H.contains x = false := by
    rw [Bool.eq_false_iff]
    intro e
    have hm : x ∈ H := by simpa using e
    have := h1 x hm
    omega
  rw [this]
  simp
theorem cnt_nil (d : Int) : cnt [] d = d / 7 * 5 + min (d % 7) 5 := by unfold cnt bef; omega
theorem cnt_weeks (a q : Int) : cnt [] (a + q * 7) - cnt [] a = q * 5 := by
  rw [cnt_nil, cnt_nil]
  omega
theorem rightH_nil : rightH [] = true := by decide
theorem rightH_of {H : List Int} (hl : H.length ≤ 1000) (h : asc (-1) H = true) : rightH H = true := by
  unfold rightH
  rw [decide_eq_true hl, h]
  rfl
end Cv
namespace Go.Proofs.YthmgkfljaneocaaDoor
open Go Go.RowKit
theorem Tryd.infoI64 : (Tryd.prog.info? 3).map (fun i => (i.zero, i.size, i.bytes)) = some (some (.int .i64 0), 1, 8) := by kernel_rfl
theorem bd_u16 {x : Int} (h : (Lit.int .u16 x).wf = true) : 0 ≤ x ∧ x ≤ 65535 := by
  have hmin : IntKind.u16.min = 0 := rfl
  have hmax : IntKind.u16.max = 65535 := rfl
  simp only [Lit.wf, Bool.and_eq_true, decide_eq_true_eq] at h
  omega
theorem list_fin {w wz : World} {T : TypeId} {base : Nat} {H : List Int} {v : Value} (hv : Kt.Own wz base T .i64 v H) (hl : H.length ≤ 1000) (ha : Cv.asc (-1) H = true) (hb : Below w.heap.size w wz) :
    ∃ (B : Option Addr) (H : List Int) (c : Nat), Ending.returned v = .returned (.slice B H.length c) ∧ H.length ≤ c ∧ Kt.Ints wz wz.heap.size .i64 B H ∧ Cv.rightH H = true ∧ Below w.heap.size w wz := by
  obtain ⟨B, c, rfl, hc, hi⟩ := hv.shape
  exact ⟨B, H, c, rfl, hc, hi, Cv.rightH_of hl ha, hb⟩
set_option maxRecDepth 10000 in
set_option maxHeartbeats 1000000 in
theorem list_any (A : Option Addr) (n cp : Nat) (l : List Int) (w : World) (hl : l.length = n) (hz : Kt.Ints w w.heap.size .u16 A l) (hb : ∀ x ∈ l, 0 ≤ x ∧ x ≤ 65535) (hn : n ≤ 4611686018427387904) :
    Calls Tryd.prog 35 #[.slice A n cp] w fun e w' => ∃ (B : Option Addr) (H : List Int) (c : Nat), e = .returned (.slice B H.length c) ∧ H.length ≤ c ∧ Kt.Ints w' w'.heap.size .i64 B H ∧ Cv.rightH H = true ∧ Below w.heap.size w w' := by
  obtain ⟨i0, hi0, hz0, hz1, hz2⟩ := info_parts Tryd.infoI64
  have HL := Lib.hid hl
  have HB := Lib.hid hb
  clear hl hb
  go_enter Tryd.func35, Tryd.ntmps35
  go_wp2
  go_loopw [3, 4, 5] (fun o s i wr => ∃ (k : Nat) (last : Int) (H : List Int), k ≤ n ∧ k ≤ 1000 ∧ i = .int .i64 k ∧ s = .int .i64 last ∧ -1 ≤ last ∧ last ≤ 730484 ∧ Kt.Own wr w.heap.size 3 .i64 o H ∧ Hid (H.length = k) ∧ Hid (Cv.asc (-1) H = true) ∧ Hid (∀ x ∈ H, x ≤ last) ∧ Below w.heap.size w wr) (fun _ _ i _ => n - (intOf i).toNat)
  case atStart => exact ⟨0, -1, [], Nat.zero_le _, Nat.zero_le _, rfl, rfl, by omega, by omega, Kt.Own.nil _ _ _ _, Lib.hid rfl, Lib.hid rfl, Lib.hid (fun x hx => by simp at hx), Below.refl _ _⟩
  case round =>
    obtain ⟨k, last, H, hk, hk2, rfl, rfl, h0, h1, hown, hlen, hasc, hle, hbel⟩ := hrel
    by_cases hlt : k < n
    · by_cases hlt2 : k < 1000
      · obtain ⟨b, o, rfl, hbb, hc⟩ := hz (by have := HL.out; omega)
        have hcell := (hbel.cell (p := ⟨b, o + k, none⟩) hbb).trans (hc k (by have := HL.out; omega))
        clear hc
        obtain ⟨z, hzz⟩ : ∃ z, Hid (Ls.nth l k = z) := ⟨_, Lib.hid rfl⟩
        have hzb := HB.out _ (Ls.nth_mem l k (by have := HL.out; omega))
        rw [hzz.out] at hcell hzb
        obtain ⟨z0, z1⟩ := hzb
        obtain ⟨x, hx⟩ : ∃ x, Hid (last + (1 + z % 701) = x) := ⟨_, Lib.hid rfl⟩
        have hx1 : last < x := by rw [← hx.out]; omega
        have hx2 : x ≤ 731185 := by rw [← hx.out]; omega
        have hbl : H.length ≤ 1000 := by rw [hlen.out]; exact hk2
        have hr0 : 0 ≤ z % 701 := by omega
        have hr1 : z % 701 ≤ 700 := by omega
        have hxx : last + (1 + z % 701) = x := hx.out
        by_cases hbig : 730484 < x
        · go_wp2_with fail
          go_ret
          exact list_fin hown (by rw [hlen.out]; exact hk2) hasc.out hbel
        · go_wp2_with (at_builtin; refine wpList_append_own _ rfl (.tmp 27) (.tmp 29) 40 rfl w.heap.size 3 i0 (.int .i64 0) 1 8 Tryd.underlying40 hi0 hz0 hz1 hz2 rfl (by decide) _ H.length (H.map (Value.int .i64)) rfl (hown.alloc _) ⟨wr.heap.size, 0, none⟩ 1 1 [.int .i64 x] rfl rfl (Kt.cell_one _ _ _) (ints_oneCell .i64 [x]) (by unfold maxLen; omega) (by omega) (by have := hbel.size; simp; omega) ?_)
          intro v' w3 hown3 hgrow _
          have hown4 : Kt.Own w3 w.heap.size 3 .i64 v' (H ++ [x]) := Kt.Own.snoc (by simpa using hown3)
          have hbel3 : Below w.heap.size w w3 := (hbel.alloc hbel.size _).grown hgrow (by have := hbel.size; simp; omega) (fun g hg => Kt.own_block_ne hown _ hg)
          clear hown3 hgrow
          go_wp2_with fail
          go_roundw
          case rel => exact ⟨k + 1, x, H ++ [x], by omega, by omega, by go_num, rfl, by omega, by omega, hown4, Lib.hid (by rw [List.length_append, hlen.out]; rfl), Lib.hid (Cv.asc_snoc hasc.out (fun y hy => by have := hle.out y hy; omega) (by omega) (by omega)), Lib.hid (fun y hy => by
            rcases List.mem_append.1 hy with hy | hy
            · have := hle.out y hy; omega
            · rw [List.mem_singleton.1 hy]; exact Int.le_refl x), hbel3⟩
          case measure => simp [intOf]; omega
      · go_wp2_with fail
        go_ret
        exact list_fin hown (by rw [hlen.out]; exact hk2) hasc.out hbel
    · go_wp2_with fail
      go_ret
      exact list_fin hown (by rw [hlen.out]; exact hk2) hasc.out hbel
end Go.Proofs.YthmgkfljaneocaaDoor
