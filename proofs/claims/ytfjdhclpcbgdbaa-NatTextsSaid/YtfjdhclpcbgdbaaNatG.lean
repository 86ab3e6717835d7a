/- What DivMod returns where the dividend is less, and by one limb. -/
import Derived.Test.YtfjdhclpcbgdbaaNatF
namespace Go.Proofs.Ytfjdhclpcbgdbaa
open Go Go.RowKit

/-- A quotient and a remainder were handed back. -/
def GotDM (w : World) (x y : Nat) (e : Ending) (w' : World) : Prop :=
  ∃ q r, e = .returned (.tuple #[q, r, .int .i64 0]) ∧ Kt.Num w' w.heap.size q (x / y) ∧ Kt.Num w' w.heap.size r (x % y) ∧ Below w.heap.size w w'
theorem copied_num {w : World} {l1 : Nat} {u : Value} {x : Nat} (hx : Kt.Num w l1 u x) (h1 : (Nt.limbs x).length ≤ 1024) :
    Calls Try.prog 32 #[u] w fun e w' => ∃ v, e = .returned v ∧ Kt.Num w' w.heap.size v x ∧ Below w.heap.size w w' := by
  obtain ⟨A, c, rfl, _, hn, ha⟩ := hx.ints
  have h0 : A = none → (Nt.limbs x).length = 0 ∧ c = 0 := fun e => by
    refine ⟨?_, hn e⟩
    rcases Nat.eq_zero_or_pos (Nt.limbs x).length with h | h
    · exact h
    · obtain ⟨b, o, e2, _⟩ := ha h
      rw [e] at e2
      cases e2
  exact copied_any A _ c _ w rfl ha h0 (by omega)
theorem num_ints {w : World} {l n c x : Nat} {A : Option Addr} (h : Kt.Num w l (.slice A n c) x) : Kt.Ints w w.heap.size .u32 A (Nt.limbs x) := by
  obtain ⟨A', c', e, _, hi⟩ := num_ok h
  injection e with e1 _ _
  rw [e1]; exact hi
theorem dm_less (x y : Nat) (l1 l2 : Nat) (A B : Option Addr) (n m ca cb : Nat) (w : World) (hx : Kt.Num w l1 (.slice A n ca) x) (hy : Kt.Num w l2 (.slice B m cb) y) (hn : (Nt.limbs x).length = n) (hm : (Nt.limbs y).length = m) (h1 : n ≤ 1024) (h2 : m ≤ 1024) (h : x < y) :
    Calls Try.prog 24 #[.slice A n ca, .slice B m cb] w (GotDM w x y) := by
  have hm0 : 0 < m := by
    have := (Nt.len_zero_iff y)
    omega
  have hmb : ((m : Int) == 0) = false := by simp; omega
  have ha := num_ints hx
  have hb := num_ints hy
  have HN := Lib.hid hn
  have HM := Lib.hid hm
  have HX := Lib.hid hx
  have HR1 := Lib.hid (num_right (x := x) (by omega))
  have HR2 := Lib.hid (num_right (x := y) (by omega))
  have HCV : Hid (Nt.cmpV x y = -1) := Lib.hid (by rw [Nt.cmpV, if_pos h])
  have HD : Hid (x / y = 0 ∧ x % y = x) := Lib.hid ⟨Nat.div_eq_of_lt h, Nat.mod_eq_of_lt h⟩
  clear hn hm hx hy h
  go_enter Try.func24, Try.ntmps24
  go_wp2_with fail
  refine (right_any A n ca _ _ HN.out ha (by omega)).mono ?_
  rw [HR1.out]
  rintro e w' ⟨rfl, rfl⟩
  go_wp2_with fail
  refine (right_any B m cb _ _ HM.out hb (by omega)).mono ?_
  rw [HR2.out]
  rintro e w' ⟨rfl, rfl⟩
  go_wp2_with fail
  refine (compared_any A B n m ca cb _ _ x y _ HN.out HM.out ha hb (by omega) rfl rfl).mono ?_
  rw [HCV.out]
  rintro e w' ⟨rfl, nd, rfl⟩
  go_wp2_with fail
  refine (copied_num (x := x) (HX.out.drewN nd) (by have := HN.out; omega)).mono ?_
  rintro e w' ⟨v, rfl, hv, hbel⟩
  go_wp2
  go_ret3
  refine ⟨_, v, rfl, ?_, ?_, (Kt.below_of_drewN w nd).trans (hbel.mono (Nat.le_refl _))⟩
  · rw [HD.out.1]; exact Kt.Num.zero _ _
  · rw [HD.out.2]; exact hv

set_option maxHeartbeats 400000 in
theorem dm_one (x y : Nat) (l1 l2 : Nat) (A B : Option Addr) (n ca cb : Nat) (w : World) (hx : Kt.Num w l1 (.slice A n ca) x) (hy : Kt.Num w l2 (.slice B 1 cb) y) (hn : (Nt.limbs x).length = n) (hm : (Nt.limbs y).length = 1) (h1 : n ≤ 1024) (h : y ≤ x) :
    Calls Try.prog 24 #[.slice A n ca, .slice B 1 cb] w (GotDM w x y) := by
  have hy0 : y ≠ 0 := by
    have := (Nt.len_zero_iff y)
    omega
  have hyb : (y : Int) ≤ 4294967295 := by
    have := Nt.limbs_lt y
    rw [hm] at this
    simp only [Nt.P] at this
    omega
  have hl0 : Hid (Ls.nth (Nt.limbs y) 0 = (y : Int)) := Lib.hid (by
    have e := Nt.V_limbs y
    cases hc : Nt.limbs y with
    | nil => rw [hc] at hm; simp at hm
    | cons a t =>
      cases t with
      | nil => rw [hc] at e; simp only [Nt.V] at e; show a = _; omega
      | cons b t => rw [hc] at hm; simp at hm)
  have hn0 : 0 < n := by
    have := Nt.len_zero_iff x
    omega
  have ha := num_ints hx
  have hb := num_ints hy
  have HN := Lib.hid hn
  have HM := Lib.hid hm
  have HX := Lib.hid hx
  have HR1 := Lib.hid (num_right (x := x) (by omega))
  have HR2 := Lib.hid (num_right (x := y) (by omega))
  have HC : Hid (Nt.cmpV x y = 0 ∨ Nt.cmpV x y = 1) := Lib.hid (by unfold Nt.cmpV; split <;> first | omega | (split <;> simp))
  obtain ⟨cv, HCV⟩ : ∃ cv, Hid (Nt.cmpV x y = cv) := ⟨_, Lib.hid rfl⟩
  have hcv : 0 ≤ cv := by have h1 := HC.out; rw [HCV.out] at h1; omega
  obtain ⟨bB, oB, rfl, hbB, hcB⟩ := hb (by omega)
  have hcell := hcB 0 (by omega)
  rw [hl0.out, Nat.add_zero] at hcell
  clear hn hm hx hy hcB HC
  have hy1 : 1 ≤ (y : Int) := by omega
  go_enter Try.func24, Try.ntmps24
  go_wp2_with fail
  refine (right_any A n ca _ _ HN.out ha (by omega)).mono ?_
  rw [HR1.out]
  rintro e w' ⟨rfl, rfl⟩
  go_wp2_with fail
  refine (right_any _ 1 cb _ _ HM.out hb (by omega)).mono ?_
  rw [HR2.out]
  rintro e w' ⟨rfl, rfl⟩
  go_wp2_with fail
  refine (compared_any A _ n 1 ca cb _ _ x y _ HN.out HM.out ha hb (by omega) rfl rfl).mono ?_
  rw [HCV.out]
  rintro e w' ⟨rfl, nd, rfl⟩
  go_wp2_with fail
  refine (copied_num (x := x) (HX.out.drewN nd) (by have := HN.out; omega)).mono ?_
  rintro e w1 ⟨v, rfl, hv, hbel⟩
  obtain ⟨g, cg, rfl, hcg, hlo, hrow⟩ := Kt.Row.at _ hv (by have := HN.out; omega)
  rw [HN.out] at hcg ⊢
  have hlo2 : w.heap.size ≤ g := hlo
  have hcell2 := (hbel.cell (p := ⟨bB, oB, none⟩) hbB).trans hcell
  have hb1 : Below w.heap.size w w1 := (Kt.below_of_drewN w nd).trans (hbel.mono (Nat.le_refl _))
  clear hcell hv hbel hlo
  go_wp2_with fail
  refine (divided_any g n cg (Nt.limbs x) y _ HN.out hrow (Nt.limbs_Ok x) (by omega) hy1 hyb).mono ?_
  rw [Nt.V_limbs]
  rintro e w2 ⟨q, rfl, hlq, hoq, hvq, hrq, hbel2⟩
  have HLQ := Lib.hid hlq
  have HVQ := Lib.hid hvq
  have HOQ := Lib.hid hoq
  have hm0 : 0 ≤ (x : Int) % (y : Int) := Int.emod_nonneg _ (by omega)
  have hm1 : (x : Int) % (y : Int) < y := Int.emod_lt_of_pos _ (by omega)
  have hb2 : Below w.heap.size w w2 := hb1.trans (hbel2.mono hlo2)
  clear hlq hvq hoq hcell2 hb1
  go_wp2_with fail
  refine (trimmed_any _ n cg q _ HLQ.out hrq.ints hcg (by omega)).mono ?_
  rintro e w' ⟨t, rfl, ht, hvt, hlt, rfl⟩
  have HVT := Lib.hid hvt
  have HLT := Lib.hid hlt
  clear hvt hlt
  obtain ⟨z, hz⟩ : ∃ z, Hid ((x : Int) % (y : Int) = z) := ⟨_, Lib.hid rfl⟩
  rw [hz.out] at hm0 hm1
  rw [hz.out]
  go_wp2_with fail
  refine (of_any z (x % y) _ (by rw [← hz.out]; simp) (by omega)).mono ?_
  rintro e w3 ⟨⟨r, rfl, hr⟩, hbel3⟩
  go_wp2
  go_ret3
  have hnq : Kt.Num w2 w.heap.size (.slice (some ⟨g, 0, none⟩) t cg) (x / y) := by
    have e := Nt.limbs_take (n := x / y) HOQ.out (by rw [HVQ.out]; simp) (by rw [HLQ.out]; exact ht) HVT.out HLT.out
    have hlen : (q.take t).length = t := by rw [List.length_take, HLQ.out]; omega
    have h5 := (hrq.take t).row hlo2 t cg hlen (by omega)
    rw [← e] at h5
    exact h5
  exact ⟨_, r, rfl, hnq.on hbel3, hr.less hb2.size, hb2.trans (hbel3.mono hb2.size)⟩
end Go.Proofs.Ytfjdhclpcbgdbaa
