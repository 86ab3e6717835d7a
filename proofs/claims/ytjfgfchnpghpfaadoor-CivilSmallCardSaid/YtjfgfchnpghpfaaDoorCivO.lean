/- What list of the statements returns: holidays; sums of working days. -/
import Derived.Test.YtjfgfchnpghpfaaDoorCivN
namespace Cv
theorem asc_snoc {a x : Int} {H : List Int} (h : asc a H = true) (hx : ∀ y ∈ H, y < x) (ha : a < x) (h1 : x ≤ 730484) : asc a (H ++ [x]) = true := by
  induction H generalizing a with
  | nil => simp [asc, ha, h1]
  | cons y t ih =>
    simp only [asc, Bool.and_eq_true, decide_eq_true_eq] at h
    simp only [List.cons_append, asc, Bool.and_eq_true, decide_eq_true_eq]
    exact ⟨h.1, ih h.2 (fun z hz => hx z (by simp [hz])) (hx y (by simp))⟩
theorem asc_left {a : Int} {H G : List Int} (h : asc a (H ++ G) = true) : asc a H = true := by
  induction H generalizing a with
  | nil => rfl
  | cons y t ih =>
    simp only [List.cons_append, asc, Bool.and_eq_true, decide_eq_true_eq] at h
    simp only [asc, Bool.and_eq_true, decide_eq_true_eq]
    exact ⟨h.1, ih h.2⟩
theorem asc_last {a x : Int} {H : List Int} (h : asc a (H ++ [x]) = true) : (∀ y ∈ H, y < x) ∧ a < x ∧ x ≤ 730484 := by
  induction H generalizing a with
  | nil =>
    simp only [List.nil_append, asc, Bool.and_eq_true, decide_eq_true_eq] at h
    exact ⟨fun y hy => by simp at hy, h.1⟩
  | cons y t ih =>
    simp only [List.cons_append, asc, Bool.and_eq_true, decide_eq_true_eq] at h
    have ⟨h1, h2, h3⟩ := ih h.2
    refine ⟨fun z hz => ?_, by omega, h3⟩
    rcases List.mem_cons.1 hz with rfl | hz
    · exact h2
    · exact h1 z hz
theorem bef_snoc {a x : Int} {H : List Int} (h : asc a (H ++ [x]) = true) (d : Int) : bef d (H ++ [x]) = bef d H + (if d ≤ x then 0 else if x % 7 < 5 then 1 else 0) := by
  induction H generalizing a with
  | nil => simp [bef]
  | cons y t ih =>
    simp only [List.cons_append, asc, Bool.and_eq_true, decide_eq_true_eq] at h
    simp only [List.cons_append, bef]
    rw [ih h.2]
    have h1 := (asc_last h.2).2.1
    by_cases c : d ≤ y
    · rw [if_pos c, if_pos c, if_pos (show d ≤ x by omega)]; rfl
    · rw [if_neg c, if_neg c]; omega
/-- A holiday more takes away one working day, if it was one. -/
theorem cnt_snoc {a x : Int} {H : List Int} (h : asc a (H ++ [x]) = true) (d : Int) : cnt (H ++ [x]) d = cnt H d - (if d ≤ x then 0 else if x % 7 < 5 then 1 else 0) := by
  unfold cnt
  rw [bef_snoc h]
  omega
theorem wk_last {a x : Int} {H : List Int} (h : asc a (H ++ [x]) = true) : wk H x = decide (x % 7 < 5) := by
  unfold wk
  have h1 := (asc_last h).1
  have : H.contains x = false := by
    rw [Bool.eq_false_iff]
    intro e
    have hm : x ∈ H := by simpa using e
    have := h1 x hm
    omega
  rw [this]
  simp
theorem cnt_nil (d : Int) : cnt [] d = d / 7 * 5 + min (d % 7) 5 := by unfold cnt bef; omega
theorem cnt_weeks (a q : Int) : cnt [] (a + q * 7) - cnt [] a = q * 5 := by
  rw [cnt_nil, cnt_nil]
  omega
theorem rightH_nil : rightH [] = true := by decide
theorem rightH_of {H : List Int} (hl : H.length ≤ 1000) (h : asc (-1) H = true) : rightH H = true := by
  unfold rightH
  rw [decide_eq_true hl, h]
  rfl
end Cv
namespace Go.Proofs.YtjfgfchnpghpfaaDoor
open Go Go.RowKit
theorem Tryd.infoI64 : (Tryd.prog.info? 3).map (fun i => (i.zero, i.size, i.bytes)) = some (some (.int .i64 0), 1, 8) := by kernel_rfl
theorem bd_u16 {x : Int} (h : (Lit.int .u16 x).wf = true) : 0 ≤ x ∧ x ≤ 65535 := by
  have hmin : IntKind.u16.min = 0 := rfl
  have hmax : IntKind.u16.max = 65535 := rfl
  simp only [Lit.wf, Bool.and_eq_true, decide_eq_true_eq] at h
  omega
theorem list_fin {w wz : World} {T : TypeId} {base : Nat} {H : List Int} {v : Value} (hv : Kt.Own wz base T .i64 v H) (hl : H.length ≤ 1000) (ha : Cv.asc (-1) H = true) (hb : Below w.heap.size w wz) :
    ∃ (B : Option Addr) (H : List Int) (c : Nat), Ending.returned v = .returned (.slice B H.length c) ∧ H.length ≤ c ∧ Kt.Ints wz wz.heap.size .i64 B H ∧ Cv.rightH H = true ∧ Below w.heap.size w wz := by
  obtain ⟨B, c, rfl, hc, hi⟩ := hv.shape
  exact ⟨B, H, c, rfl, hc, hi, Cv.rightH_of hl ha, hb⟩
end Go.Proofs.YtjfgfchnpghpfaaDoor
