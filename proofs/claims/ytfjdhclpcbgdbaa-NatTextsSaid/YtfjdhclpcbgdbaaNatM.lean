/- What the readings of the statements' arguments give their walks. -/
import Derived.Test.YtfjdhclpcbgdbaaNatL
namespace Nt
theorem cmp_lt {x y : Nat} (h : x < y) : cmpV x y = -1 := by rw [cmpV, if_pos h]
theorem cmp_gt {x y : Nat} (h : y < x) : cmpV x y = 1 := by rw [cmpV, if_neg (by omega), if_pos h]
theorem cmp_eq {x y : Nat} (h : x = y) : cmpV x y = 0 := by rw [cmpV, if_neg (by omega), if_neg (by omega)]
end Nt
namespace Go.Proofs.Ytfjdhclpcbgdbaa
open Go Go.RowKit
section
variable {w : World} {l1 l2 : Nat} {u v : Value} {x y : Nat}
theorem cmp_val (c : Int) (hx : Kt.Num w l1 u x) (hy : Kt.Num w l2 v y) (h1 : (Nt.limbs x).length ≤ 1024) (h2 : (Nt.limbs y).length ≤ 1024) (hc : Nt.cmpV x y = c) :
    Calls Try.prog 26 #[u, v] w fun e w' => e = .returned (.tuple #[.int .i64 c, .int .i64 0]) ∧ Below w.heap.size w w' := by
  rw [← hc]; exact cmp_num hx hy h1 h2
theorem same_not (hx : Kt.Num w l1 u x) (hy : Kt.Num w l2 v y) (h1 : (Nt.limbs x).length ≤ 1024) (he : x ≠ y) :
    Calls Try.prog 17 #[u, v] w fun e w' => e = .returned (.bool false) ∧ Below w.heap.size w w' := by
  have h := same_num hx hy (by omega)
  rwa [decide_eq_false he] at h
theorem less_yes (hx : Kt.Num w l1 u x) (hy : Kt.Num w l2 v y) (h1 : (Nt.limbs x).length ≤ 1024) (h2 : (Nt.limbs y).length ≤ 1024) (h : x < y) :
    Calls Try.prog 21 #[u, v] w fun e w' => e = .returned (.bool true) ∧ Below w.heap.size w w' := by
  have h3 := less_num hx hy h1 h2
  rwa [decide_eq_true h] at h3
theorem less_not (hx : Kt.Num w l1 u x) (hy : Kt.Num w l2 v y) (h1 : (Nt.limbs x).length ≤ 1024) (h2 : (Nt.limbs y).length ≤ 1024) (h : y ≤ x) :
    Calls Try.prog 21 #[u, v] w fun e w' => e = .returned (.bool false) ∧ Below w.heap.size w w' := by
  have h3 := less_num hx hy h1 h2
  rwa [decide_eq_false (by omega)] at h3
theorem sub_zero (hx : Kt.Num w l1 u x) (hy : Kt.Num w l2 v y) (h1 : (Nt.limbs x).length ≤ 1024) (h : y = x) :
    Calls Try.prog 23 #[u, v] w fun e w' => ∃ A c, e = .returned (.tuple #[.slice A 0 c, .int .i64 0]) ∧ Below w.heap.size w w' := by
  subst h
  refine (sub_num hx hy h1 h1 (Nat.le_refl _)).mono ?_
  rintro e w' ⟨⟨r, rfl, hr⟩, hb⟩
  rw [Nat.sub_self] at hr
  obtain ⟨A, c, rfl, _, _⟩ := num_ok hr
  exact ⟨A, c, rfl, hb⟩
end
theorem ok_of_wf {l : List Int} (h : ∀ y ∈ l, (Lit.int .u32 y).wf = true) : Nt.Ok l := fun x hx => by
  have := h x hx
  have hmin : IntKind.u32.min = 0 := rfl
  have hmax : IntKind.u32.max = 4294967295 := rfl
  simp only [Lit.wf, Bool.and_eq_true, decide_eq_true_eq] at this
  omega
theorem bd_u8 {x : Int} (h : (Lit.int .u8 x).wf = true) : 0 ≤ x ∧ x ≤ 255 := by
  have hmin : IntKind.u8.min = 0 := rfl
  have hmax : IntKind.u8.max = 255 := rfl
  simp only [Lit.wf, Bool.and_eq_true, decide_eq_true_eq] at h
  omega
theorem bd_u16 {x : Int} (h : (Lit.int .u16 x).wf = true) : 0 ≤ x ∧ x ≤ 65535 := by
  have hmin : IntKind.u16.min = 0 := rfl
  have hmax : IntKind.u16.max = 65535 := rfl
  simp only [Lit.wf, Bool.and_eq_true, decide_eq_true_eq] at h
  omega
theorem bd_u32 {x : Int} (h : (Lit.int .u32 x).wf = true) : 0 ≤ x ∧ x ≤ 4294967295 := by
  have hmin : IntKind.u32.min = 0 := rfl
  have hmax : IntKind.u32.max = 4294967295 := rfl
  simp only [Lit.wf, Bool.and_eq_true, decide_eq_true_eq] at h
  omega
theorem bd_u64 {x : Int} (h : (Lit.int .u64 x).wf = true) : 0 ≤ x ∧ x ≤ 18446744073709551615 := by
  have hmin : IntKind.u64.min = 0 := rfl
  have hmax : IntKind.u64.max = 18446744073709551615 := rfl
  simp only [Lit.wf, Bool.and_eq_true, decide_eq_true_eq] at h
  omega
end Go.Proofs.Ytfjdhclpcbgdbaa
