/- Joined: UiA, LeA, NatI, TwX. -/
import Derived.Test.YtkclifdbdnigaaaMa08
import Derived.Test.YtkclifdbdnigaaaShelf
import Derived.Test.YtkclifdbdnigaaaMc01
import Derived.Test.YtkclifdbdnigaaaMa21
import Derived.Deep.RegionLaw
import Derived.Deep.RegionWith
import Derived.Deep.DeepCutAuto
section
/- What Uint returns for any number. -/
namespace Go.Proofs.Ytkclifdbdnigaaa
open Go Go.RowKit
set_option maxHeartbeats 1000000 in
theorem uint_small {w : World} {l1 : Nat} {u : Value} {x : Nat} (n : Int) (hx : Kt.Num w l1 u x) (h1 : x ≤ 18446744073709551615) (hn : n = (x : Int)) :
    Calls Try.prog 32 #[u] w fun e w' => e = .returned (.tuple #[.int .u64 n, .bool true]) ∧ Below w.heap.size w w' := by
  subst hn
  obtain ⟨A, ca, rfl, _, _, ha⟩ := hx.ints
  have hl2 : (Nt.limbs x).length ≤ 2 := (Nt.len_le_iff x 2).2 (by simp only [Nt.P]; omega)
  have HR1 := Lib.hid (num_right (x := x) (by omega))
  have HV := Lib.hid (Nt.V_limbs x)
  have HO := Lib.hid (Nt.limbs_Ok x)
  obtain ⟨l, hl⟩ : ∃ l, Hid (Nt.limbs x = l) := ⟨_, Lib.hid rfl⟩
  rw [hl.out] at ha hl2 HR1 HV HO ⊢
  obtain ⟨n, hn⟩ : ∃ n, Hid (l.length = n) := ⟨_, Lib.hid rfl⟩
  rw [hn.out] at hl2 ⊢
  clear hx hl
  go_enter Try.func32, Try.ntmps32
  go_wp2_with fail
  refine (right_any A n ca _ _ hn.out ha (by omega)).mono ?_
  rw [HR1.out]
  rintro e w' ⟨rfl, rfl⟩
  go_wp2_with fail
  go_loop [4, 17] (fun v i => ∃ (k : Nat) (t : Int), k ≤ n ∧ v = .int .u64 t ∧ i = .int .i64 k ∧ Hid (Nt.V (l.take k) = t)) (fun _ i => n - (intOf i).toNat)
  case atStart => exact ⟨0, 0, Nat.zero_le _, rfl, rfl, Lib.hid (by simp [Nt.V])⟩
  case round =>
    obtain ⟨k, t, hk, rfl, rfl, ht⟩ := hrel
    by_cases hlt : k < n
    · obtain ⟨b, o, rfl, hb, hc⟩ := ha (by have := hn.out; omega)
      have hcell := hc k (by rw [hn.out]; exact hlt)
      obtain ⟨z, hz⟩ : ∃ z, Hid (Ls.nth l k = z) := ⟨_, Lib.hid rfl⟩
      have hzb := HO.out.nth_any k
      rw [hz.out] at hcell hzb
      obtain ⟨hz0, hz1⟩ := hzb
      have hstep := Nt.V_take_nth l k
      rw [hz.out, ht.out] at hstep
      clear hc
      have ht0 : 0 ≤ t := by rw [← ht.out]; exact Nt.V_nonneg (HO.out.take k)
      have ht1 : t < Nt.P k := by
        have h9 := Nt.V_lt (HO.out.take k)
        rw [ht.out, List.length_take, hn.out, Nat.min_eq_left hk] at h9
        exact h9
      rcases (show k = 0 ∨ k = 1 by omega) with rfl | rfl
      · simp only [Nt.P, Int.one_mul] at hstep ht1
        obtain rfl : t = 0 := by omega
        rw [Nat.add_zero] at hcell
        have HST := Lib.hid hstep
        clear hstep
        go_wp2_with fail
        go_round
        case rel => exact ⟨1, _, by omega, rfl, by go_num, Lib.hid (by rw [HST.out]; omega)⟩
        case measure => simp [intOf]; omega
      · simp only [Nt.P, Int.mul_one] at hstep ht1
        have HST := Lib.hid hstep
        clear hstep
        go_wp2_with fail
        go_round
        case rel => exact ⟨2, _, by omega, rfl, by go_num, Lib.hid (by rw [HST.out]; omega)⟩
        case measure => simp [intOf]; omega
    · obtain rfl : k = n := by omega
      have HT : Hid (t = (x : Int)) := Lib.hid (by rw [← ht.out, ← HV.out]; exact Nt.V_take_all _ _ (by rw [hn.out]; exact Nat.le_refl _))
      obtain rfl : t = (x : Int) := HT.out
      go_wp2
      go_ret2
      exact ⟨rfl, Below.refl _ _⟩
theorem uint_great {w : World} {l1 : Nat} {u : Value} {x : Nat} (hx : Kt.Num w l1 u x) (h1 : 18446744073709551615 < x) (hfit : (Nt.limbs x).length ≤ 1024) :
    Calls Try.prog 32 #[u] w fun e w' => e = .returned (.tuple #[.int .u64 0, .bool false]) ∧ Below w.heap.size w w' := by
  obtain ⟨A, ca, rfl, _, _, ha⟩ := hx.ints
  have hl2 : 2 < (Nt.limbs x).length := by
    by_cases h : (Nt.limbs x).length ≤ 2
    · have := (Nt.len_le_iff x 2).1 h
      simp only [Nt.P] at this
      omega
    · omega
  have HR1 := Lib.hid (num_right (x := x) (by omega))
  obtain ⟨l, hl⟩ : ∃ l, Hid (Nt.limbs x = l) := ⟨_, Lib.hid rfl⟩
  rw [hl.out] at ha hl2 HR1 hfit ⊢
  obtain ⟨n, hn⟩ : ∃ n, Hid (l.length = n) := ⟨_, Lib.hid rfl⟩
  rw [hn.out] at hl2 hfit ⊢
  clear hx hl
  have d1 : decide ((n : Int) > 2) = true := by simp; omega
  go_enter Try.func32, Try.ntmps32
  go_wp2_with fail
  refine (right_any A n ca _ _ hn.out ha (by omega)).mono ?_
  rw [HR1.out]
  rintro e w' ⟨rfl, rfl⟩
  go_wp2_with fail
  go_ret2
  exact ⟨rfl, Below.refl _ _⟩
/-- The value of a number, if it is one of 64 bits. -/
theorem uint_any {w : World} {l1 : Nat} {u : Value} {x : Nat} (hx : Kt.Num w l1 u x) (hfit : (Nt.limbs x).length ≤ 1024) :
    Calls Try.prog 32 #[u] w fun e w' => (x ≤ 18446744073709551615 ∧ e = .returned (.tuple #[.int .u64 (x : Int), .bool true]) ∨ 18446744073709551615 < x ∧ e = .returned (.tuple #[.int .u64 0, .bool false])) ∧ Below w.heap.size w w' := by
  by_cases h : x ≤ 18446744073709551615
  · refine (uint_small _ hx h rfl).mono ?_
    rintro e w' ⟨he, hb⟩
    exact ⟨.inl ⟨h, he⟩, hb⟩
  · refine (uint_great hx (by omega) hfit).mono ?_
    rintro e w' ⟨he, hb⟩
    exact ⟨.inr ⟨by omega, he⟩, hb⟩
end Go.Proofs.Ytkclifdbdnigaaa
end
section
/- least: at most. -/
namespace Go.Proofs.Ytkclifdbdnigaaa
open Go Go.RowKit
theorem least_yes {w : World} {l1 l2 : Nat} {u v : Value} {x y : Nat} (hx : Kt.Num w l1 u x) (hy : Kt.Num w l2 v y) (h1 : (Nt.limbs x).length ≤ 1024) (h2 : (Nt.limbs y).length ≤ 1024) (h : x ≤ y) :
    Calls Try.prog 34 #[u, v] w fun e w' => e = .returned (.bool true) ∧ Below w.heap.size w w' := by
  have HC := Lib.hid (cmp_num hx hy h1 h2)
  have hc : Nt.cmpV x y ≤ 0 := by
    unfold Nt.cmpV
    split
    · decide
    · rw [if_neg (by omega)]; decide
  obtain ⟨c, hcc⟩ : ∃ c, Nt.cmpV x y = c := ⟨_, rfl⟩
  rw [hcc] at hc HC
  have d1 : decide (c ≤ 0) = true := by simp [hc]
  clear hcc
  go_enter Try.func34, Try.ntmps34
  go_wp2_with fail
  refine HC.out.mono ?_
  rintro e w1 ⟨rfl, hb⟩
  go_wp2_with fail
  go_ret
  exact ⟨rfl, hb⟩
end Go.Proofs.Ytkclifdbdnigaaa
end
section
/- What Pow of the number package returns, for exponents up to 60: its walk. -/
namespace Nt
open Go
theorem and_one (k j : Nat) (hk : k ≤ 60) : bits .and .i64 ((k : Int) / 2 ^ j) 1 = ((k / 2 ^ j % 2 : Nat) : Int) := by
  have h0 : k / 2 ^ j ≤ k := Nat.div_le_self _ _
  have e : ((k : Int) / 2 ^ j) = ((k / 2 ^ j : Nat) : Int) := by rw [Int.natCast_ediv, Int.natCast_pow]; rfl
  rw [e]
  generalize k / 2 ^ j = y at h0
  exact bits_mask .i64 63 (by decide) (fun n hn hn2 => by rw [IntKind.wrap_i64]; omega) 1 (by decide) _ (by omega) (by omega)
theorem len_all : ∀ k : Fin 61, 1 ≤ k.val → 1 ≤ Lib.bitLen k.val ∧ Lib.bitLen k.val ≤ 6 ∧ k.val < 2 ^ Lib.bitLen k.val := by decide +kernel
theorem len_bd (k : Nat) (h1 : 1 ≤ k) (h2 : k ≤ 60) : 1 ≤ Lib.bitLen k ∧ Lib.bitLen k ≤ 6 ∧ k < 2 ^ Lib.bitLen k := len_all ⟨k, by omega⟩ h1
theorem half_step (k j : Nat) : k / 2 ^ j = 2 * (k / 2 ^ (j + 1)) + k / 2 ^ j % 2 := by
  rw [Nat.pow_succ, ← Nat.div_div_eq_div_mul]; omega
theorem pow_le_of {x a b : Nat} (hx : 1 ≤ x) (h : a ≤ b) : x ^ a ≤ x ^ b := Nat.pow_le_pow_right hx h
end Nt
namespace Go.Proofs.Ytkclifdbdnigaaa
open Go Go.RowKit

def GotP (w : World) (y : Nat) (e : Ending) (w' : World) : Prop := (∃ v, e = .returned (.tuple #[v, .int .i64 0]) ∧ Kt.Num w' w.heap.size v y) ∧ Below w.heap.size w w'
theorem pow_zero (x : Nat) (l1 : Nat) (A : Option Addr) (n ca : Nat) (w : World) (hx : Kt.Num w l1 (.slice A n ca) x) (hn : (Nt.limbs x).length = n) (h1 : n ≤ 1024) :
    Calls Try.prog 35 #[.slice A n ca, .int .i64 0] w (GotP w 1) := by
  have ha := num_ints hx
  have HN := Lib.hid hn
  have HR1 := Lib.hid (num_right (x := x) (by omega))
  clear hn hx
  go_enter Try.func35, Try.ntmps35
  go_wp2_with fail
  refine (right_any _ n ca _ _ HN.out ha (by omega)).mono ?_
  rw [HR1.out]
  rintro e w' ⟨rfl, rfl⟩
  go_wp2_with fail
  refine (of_any 1 1 _ rfl (by omega)).mono ?_
  rintro e w1 ⟨⟨v, rfl, hv⟩, hbel⟩
  go_wp2
  go_ret2
  exact ⟨⟨_, rfl, hv⟩, hbel⟩
theorem pow_small (x k : Nat) (l1 : Nat) (A : Option Addr) (n ca : Nat) (w : World) (hx : Kt.Num w l1 (.slice A n ca) x) (hn : (Nt.limbs x).length = n) (hx2 : x ≤ 1) (hk0 : 1 ≤ k) (hk : k ≤ 60) :
    Calls Try.prog 35 #[.slice A n ca, .int .i64 k] w (GotP w (x ^ k)) := by
  have ha := num_ints hx
  have hkn : decide ((k : Int) < 0) = false := by simp
  have hkb : ((k : Int) == 0) = false := by simp; omega
  have hp : Hid (x ^ k = x) := Lib.hid (by
    rcases (show x = 0 ∨ x = 1 by omega) with rfl | rfl
    · rw [Nat.zero_pow (by omega)]
    · rw [Nat.one_pow])
  have hcase : (n = 0 ∧ x = 0) ∨ (n = 1 ∧ x = 1) := by
    rcases (show x = 0 ∨ x = 1 by omega) with rfl | rfl
    · exact .inl ⟨hn.symm, rfl⟩
    · exact .inr ⟨hn.symm, rfl⟩
  have HN := Lib.hid hn
  have HX := Lib.hid hx
  have hn1 : n ≤ 1 := by omega
  have HR1 := Lib.hid (num_right (x := x) (by omega))
  clear hn hx
  rw [hp.out]
  rcases hcase with ⟨h2, h3⟩ | ⟨h2, h3⟩
  · have hnb : ((n : Int) == 0) = true := by simp; omega
    clear h2 h3
    go_enter Try.func35, Try.ntmps35
    go_wp2_with fail
    refine (right_any _ n ca _ _ HN.out ha (by omega)).mono ?_
    rw [HR1.out]
    rintro e w' ⟨rfl, rfl⟩
    go_wp2_with fail
    refine (copied_num HX.out (by have := HN.out; omega)).mono ?_
    rintro e w1 ⟨v, rfl, hv, hbel⟩
    go_wp2
    go_ret2
    exact ⟨⟨_, rfl, hv⟩, hbel⟩
  · have hnb : ((n : Int) == 0) = false := by simp; omega
    have hnb1 : ((n : Int) == 1) = true := by simp; omega
    obtain ⟨b1, o1, rfl, hb1', hc1⟩ := ha (by have := HN.out; omega)
    have hcell1 := hc1 0 (by have := HN.out; omega)
    have hone : Ls.nth (Nt.limbs x) 0 = 1 := by rw [h3]; rfl
    rw [Nat.add_zero, hone] at hcell1
    have hn0 : 0 < n := by omega
    clear hc1 hone h2 h3
    go_enter Try.func35, Try.ntmps35
    go_wp2_with fail
    refine (right_any _ n ca _ _ HN.out ha (by omega)).mono ?_
    rw [HR1.out]
    rintro e w' ⟨rfl, rfl⟩
    go_wp2_with fail
    refine (copied_num HX.out (by have := HN.out; omega)).mono ?_
    rintro e w1 ⟨v, rfl, hv, hbel⟩
    go_wp2
    go_ret2
    exact ⟨⟨_, rfl, hv⟩, hbel⟩

set_option maxRecDepth 100000 in
set_option maxHeartbeats 1000000 in
theorem pow_big (x k : Nat) (l1 : Nat) (A : Option Addr) (n ca : Nat) (w : World) (hx : Kt.Num w l1 (.slice A n ca) x) (hn : (Nt.limbs x).length = n) (h1 : n ≤ 1024) (hx2 : 2 ≤ x) (hk0 : 1 ≤ k) (hk : k ≤ 60) (hfit : (Nt.limbs (x ^ k)).length ≤ 1024) :
    Calls Try.prog 35 #[.slice A n ca, .int .i64 k] w (GotP w (x ^ k)) := by
  have ha := num_ints hx
  have hn0 : 0 < n := by have := Nt.len_zero_iff x; omega
  have hk2 : decide ((32768 : Int) ≤ (k : Int)) = false := by simp; omega
  have hkn : decide ((k : Int) < 0) = false := by simp
  have hkb : ((k : Int) == 0) = false := by simp; omega
  have hnb : ((n : Int) == 0) = false := by simp; omega
  have HN := Lib.hid hn
  have HX := Lib.hid hx
  have hfits : ∀ m, m ≤ k → (Nt.limbs (x ^ m)).length ≤ 1024 := fun m hm => Nat.le_trans (Nt.len_mono (Nt.pow_le_of (by omega) hm)) hfit
  have HF := Lib.hid hfits
  have HR1 := Lib.hid (num_right (x := x) (by omega))
  obtain ⟨b1, o1, rfl, hb1', hc1⟩ := ha (by omega)
  have hcell1 := hc1 0 (by omega)
  rw [Nat.add_zero] at hcell1
  obtain ⟨d, hd⟩ : ∃ d, Hid (Ls.nth (Nt.limbs x) 0 = d) := ⟨_, Lib.hid rfl⟩
  rw [hd.out] at hcell1
  obtain ⟨hq0, hq1, hq2⟩ := Nt.len_bd k hk0 hk
  have HQ := Lib.hid hq2
  clear hq2
  obtain ⟨q, hq⟩ : ∃ q, Hid (Lib.bitLen k = q) := ⟨_, Lib.hid rfl⟩
  rw [hq.out] at hq0 hq1 HQ
  have HAND := Lib.hid (fun j => Nt.and_one k j hk)
  have hcase : (n == 1 && d == 1) = false := by
    rw [Bool.eq_false_iff]
    intro h
    simp only [Bool.and_eq_true, beq_iff_eq] at h
    have e := Nt.V_limbs x
    cases hl : Nt.limbs x with
    | nil => rw [hl] at hn; simp at hn; omega
    | cons a t =>
      rw [hl] at e hn
      have : t = [] := List.eq_nil_of_length_eq_zero (by simp at hn; omega)
      subst this
      have hd2 := hd.out
      rw [hl] at hd2
      have : a = d := hd2
      simp only [Nt.V] at e
      omega
  have HCASE := Lib.hid hcase
  clear hn hx hfit hc1 hfits hcase
  by_cases hn1 : n = 1
  all_goals
    first
      | (have hnb1 : ((n : Int) == 1) = true := by simp [hn1])
      | (have hnb1 : ((n : Int) == 1) = false := by simp; omega)
    have hdb : (n = 1 → (d == 1) = false) := fun e => by have := HCASE.out; rw [e] at this; simpa using this
    have hdb2 : Hid (n = 1 → (d == 1) = false) := Lib.hid hdb
    first
      | (have hd1 : (d == 1) = false := hdb hn1)
      | skip
    clear hn1 hdb
    go_enter Try.func35, Try.ntmps35
    go_wp2_with fail
    refine (right_any _ n ca _ _ HN.out ha (by omega)).mono ?_
    rw [HR1.out]
    rintro e w' ⟨rfl, rfl⟩
    go_wp2_with fail
    refine (of_any 1 1 _ rfl (by omega)).mono ?_
    rintro e w1 ⟨⟨v, rfl, hv⟩, hbel⟩
    go_wp2_with fail
    refine (Try.bits_Len k _ (by omega) (by omega)).mono ?_
    rw [Int.toNat_natCast, hq.out]
    rintro e w' ⟨rfl, rfl⟩
    go_wp2_with fail
    go_loopw [6, 7] (fun u i wr => ∃ (j m : Nat), i = .int .i64 ((j : Int) - 1) ∧ j ≤ 6 ∧ Hid (m = k / 2 ^ j) ∧ Kt.Num wr w.heap.size u (x ^ m) ∧ Below w.heap.size w wr) (fun _ i _ => (intOf i + 1).toNat)
    case atStart => exact ⟨q, 0, rfl, hq1, Lib.hid (Nat.div_eq_of_lt HQ.out).symm, hv, hbel⟩
    case round =>
      obtain ⟨j, m, rfl, hj, hm, hnum, hbel2⟩ := hrel
      by_cases h0 : 0 < j
      · obtain ⟨j, rfl⟩ : ∃ i, j = i + 1 := ⟨j - 1, by omega⟩
        rw [show ((j + 1 : Nat) : Int) - 1 = (j : Int) from by omega]
        have hs := Nt.half_step k j
        have hle : k / 2 ^ j ≤ k := Nat.div_le_self _ _
        rw [← hm.out] at hs
        have HS := Lib.hid hs
        have HLE := Lib.hid hle
        have hml : m ≤ k := by omega
        clear hs hle
        go_wp2_with fail
        refine (mul_num hnum hnum (HF.out m hml) (HF.out m hml)).mono ?_
        rintro e w2 ⟨h2, hb2⟩
        have e2 : x ^ m * x ^ m = x ^ (2 * m) := by rw [← Nat.pow_add, show m + m = 2 * m from by omega]
        rw [e2] at h2
        have hfm := HF.out (2 * m) (by have := HS.out; have := HLE.out; omega)
        rcases h2 with ⟨_, v2, rfl, hv2⟩ | ⟨h3, _⟩
        · have hb3 : Below w.heap.size w w2 := Kt.next hbel2 hb2
          cases hbit : (bits BinOp.and IntKind.i64 ((k : Int) / 2 ^ j) 1 == 1)
          · have HM : Hid (2 * m = k / 2 ^ j) := Lib.hid (by
              have h5 : ¬ (((k / 2 ^ j % 2 : Nat) : Int) = 1) := by rw [← HAND.out j]; simpa using hbit
              have := HS.out; omega)
            clear e2 hfm
            go_wp2_with fail
            go_roundw
            case rel => exact ⟨j, 2 * m, rfl, by omega, HM, hv2.less hbel2.size, hb3⟩
            case measure => simp [intOf]
          · have HM : Hid (2 * m + 1 = k / 2 ^ j) := Lib.hid (by
              have h5 : (((k / 2 ^ j % 2 : Nat) : Int) = 1) := by rw [← HAND.out j]; simpa using hbit
              have := HS.out; omega)
            clear e2 hfm
            go_wp2_with fail
            refine (mul_num hv2 (HX.out.on hb3) (HF.out _ (by have := HM.out; have := HLE.out; omega)) (by have := HN.out; omega)).mono ?_
            rintro e w3 ⟨h4, hb4⟩
            have e3 : x ^ (2 * m) * x = x ^ (2 * m + 1) := by rw [Nat.pow_succ]
            rw [e3] at h4
            have hfm2 := HF.out (2 * m + 1) (by have := HM.out; have := HLE.out; omega)
            rcases h4 with ⟨_, v3, rfl, hv3⟩ | ⟨h3, _⟩
            · clear e3 hfm2
              go_wp2_with fail
              go_roundw
              case rel => exact ⟨j, 2 * m + 1, rfl, by omega, HM, hv3.less hb3.size, Kt.next hb3 hb4⟩
              case measure => simp [intOf]
            · omega
        · omega
      · obtain rfl : j = 0 := by omega
        have HM : Hid (m = k) := Lib.hid (by have := hm.out; simpa using this)
        go_wp2
        go_ret2
        exact ⟨⟨_, rfl, by have h6 := hnum; rw [HM.out] at h6; exact h6⟩, hbel2⟩

/-- A power that is not too long. -/
theorem pow_num {w : World} {l1 : Nat} {u : Value} {x k : Nat} (hx : Kt.Num w l1 u x) (h1 : (Nt.limbs x).length ≤ 1024) (hk : k ≤ 60) (hfit : (Nt.limbs (x ^ k)).length ≤ 1024) :
    Calls Try.prog 35 #[u, .int .i64 k] w (GotP w (x ^ k)) := by
  obtain ⟨A, c, rfl, _, _⟩ := num_ok hx
  by_cases h0 : k = 0
  · subst h0; exact pow_zero x l1 A _ c w hx rfl h1
  · by_cases h2 : x ≤ 1
    · exact pow_small x k l1 A _ c w hx rfl h2 (by omega) hk
    · exact pow_big x k l1 A _ c w hx rfl h1 (by omega) (by omega) hk hfit
end Go.Proofs.Ytkclifdbdnigaaa
end
section
/- The walk of GrammarTwice. -/
namespace Go.Proofs.Ytkclifdbdnigaaa
open Go Go.RowKit
set_option maxRecDepth 100000 in
set_option maxHeartbeats 4000000 in
theorem walk_GrammarTwice (w : World) (A : Option Addr) (cp : Nat) (g : List Gr.Rule) (lg : g.length ≤ 4398046511104) (hg : Kt.Rules w w.heap.size A g) (wg : WfR g)
    (T : Option Addr) (ct : Nat) (tk : List Int) (lt : tk.length ≤ ct) (_mt : ct ≤ maxLen) (ht : Kt.Ints w w.heap.size .u16 T tk) (_wt : ∀ i ∈ tk, (Lit.int .u16 i).wf = true) (zt : tk.length * 2 ≤ 140737488351232) (_kt : T = none → ct = 0)
    (x : Int) (_wx : (Lit.int .i64 x).wf = true) :
    Calls Try.prog 9 #[.slice A g.length cp, .slice T tk.length ct, .int .i64 x] w fun e w' => e = .returned (.bool true) ∧ Below w.heap.size w w' := by
  obtain ⟨n, hn⟩ : ∃ n, Hid (g.length = n) := ⟨_, Lib.hid rfl⟩
  obtain ⟨nt, hnt⟩ : ∃ nt, Hid (tk.length = nt) := ⟨_, Lib.hid rfl⟩
  rw [hn.out] at lg
  rw [hnt.out] at zt lt
  rw [hn.out, hnt.out]
  have HG := Lib.hid hg
  have HT := Lib.hid ht
  have HW := Lib.hid wg
  have HLT := Lib.hid lt
  clear hg ht wg lt _mt _wt _wx
  obtain ⟨i0, hi0, hz0, hz1, hz2⟩ := info_parts Try.infoRule
  go_enter Try.func9, Try.ntmps9
  go_wp2_with fail
  refine (awake_any w).mono ?_
  rintro e w1 ⟨rfl, hb1⟩
  go_wp2_with fail
  refine (great_any g nt A n cp T ct w1 hn.out (by omega) (HG.out.on hb1)).mono ?_
  rintro e w2 ⟨rfl, ⟨rfl, hfine⟩ | rfl⟩
  · go_wp2_with fail
    refine (Valid_any g A n cp w1 hn.out (by omega) (HG.out.on hb1)).mono ?_
    rintro e w3 ⟨hb3, c, rfl, hc⟩
    have hb3' : Below w.heap.size w w3 := hb1.trans (hb3.mono hb1.size)
    by_cases hcz : c = 0
    · subst hcz
      have hGood := hc.good.1 rfl
      by_cases hnt12 : 12 < nt
      · have d1 : decide ((nt : Int) > 12) = true := by simp; omega
        clear hc
        go_wp2_with fail
        go_ret
        exact ⟨rfl, hb3'⟩
      · have d1 : decide ((nt : Int) > 12) = false := by simp; omega
        by_cases hn0 : n = 0
        · have d2 : ((n : Int) == 0) = true := by simp [hn0]
          clear hc hn0
          go_wp2_with fail
          go_ret
          exact ⟨rfl, hb3'⟩
        · have d2 : ((n : Int) == 0) = false := by simp; omega
          by_cases hn200 : n = 200
          · have d3 : ((n : Int) == 200) = true := by simp [hn200]
            clear hc hn200 hn0
            go_wp2_with fail
            go_ret
            exact ⟨rfl, hb3'⟩
          · have d3 : ((n : Int) == 200) = false := by simp; omega
            have HGD := Lib.hid hGood
            have hgl := hGood.len
            rw [hn.out] at hgl
            have hs3 := hb3'.size
            have hpk := pickF_bd x (n := n) (by omega)
            obtain ⟨p, hp⟩ : ∃ p : Nat, Hid (pickF x n = (p : Int)) := ⟨(pickF x n).toNat, Lib.hid (by omega)⟩
            have hpn : p < n := by rw [hp.out] at hpk; omega
            clear hc hGood hfine hpk
            go_wp2_with fail
            refine (pick_any x n (by omega) (by omega) w3).mono ?_
            rintro e w4 ⟨rfl, rfl⟩
            rw [hp.out]
            go_wp2_with fail
            refine (Trees_any g tk A n cp T nt ct w3 hn.out (by omega) hnt.out (by omega) (by omega) HW.out (HG.out.on hb3') (HT.out.on hb3') 200 (by omega)).mono ?_
            rintro e w4 ⟨hb4, v4, c4, rfl, hk4, hv4⟩
            obtain rfl : c4 = 0 := hk4.good.2 ⟨HGD.out, by rw [hnt.out]; omega⟩
            rw [if_pos rfl] at hv4
            have hb4' : Below w.heap.size w w4 := hb3'.trans (hb4.mono hs3)
            have hs4 := hb4'.size
            have HV4 := Lib.hid hv4
            clear hk4 hv4
            go_wp2_with fail
            refine (Count_any g tk A n cp T nt ct w4 hn.out (by omega) hnt.out (by omega) (by omega) HW.out (HG.out.on hb4') (HT.out.on hb4')).mono ?_
            rintro e w5 ⟨hb5, v5, c5, rfl, hk5, hv5⟩
            obtain rfl : c5 = 0 := hk5.good.2 ⟨HGD.out, by rw [hnt.out]; omega⟩
            rw [if_pos rfl] at hv5
            have hb5' : Below w.heap.size w w5 := hb4'.trans (hb5.mono hs4)
            have hs5 := hb5'.size
            have HV5 := Lib.hid hv5
            clear hk5 hv5
            go_upto_region 8 with fail
            have HG5 := Lib.hid (HG.out.on hb5')
            have HT5 := Lib.hid (HT.out.on hb5')
            obtain ⟨bA, oA, rfl, hbA, hcA⟩ := HG5.out (by rw [hn.out]; omega)
            obtain ⟨cl, A', c', cr, hlr, hit⟩ := hcA p (by rw [hn.out]; exact hpn)
            obtain ⟨lf, hlf⟩ : ∃ lf, Hid ((Gr.rul g p).left = lf) := ⟨_, Lib.hid rfl⟩
            obtain ⟨m, hm⟩ : ∃ m, Hid ((Gr.rul g p).right.length = m) := ⟨_, Lib.hid rfl⟩
            rw [hlf.out] at cl
            rw [hm.out] at cr hlr
            have HIT := Lib.hid hit
            have HHW : Hid (WfR (g ++ [Gr.rul g p])) := Lib.hid (snoc_wf HW.out fun y hy => HW.out p (by rw [hn.out]; exact hpn) y hy)
            have HHG : Hid (Gr.Good (g ++ [Gr.rul g p])) := Lib.hid (Gr.twice_good HGD.out (by rw [hn.out]; omega) (by rw [hn.out]; exact hpn))
            have HHL : Hid ((g ++ [Gr.rul g p]).length = n + 1) := Lib.hid (by rw [List.length_append, hn.out]; rfl)
            have HLR : (Gr.rul g p).right.length ≤ 4611686018427387904 := by rw [hm.out]; exact hlr
            have HR8 : ∀ r, r < g.length → (Gr.rul g r).right.length ≤ 8 := fun r hr => (HGD.out.ok r hr).parts.2.2.1
            clear hcA hit
            go_cut [12, 13] (fun s12 s13 wx => s13 = .int .i64 0 ∧ Kt.Num wx w5.heap.size s12 (counts (g ++ [Gr.rul g p]) tk) ∧ Below w5.heap.size w5 wx)
            case first =>
              go_region_law (first
                | (refine law_fn (.call { callee := .value (.func 17), args := #[.tmp 62], argTypes := #[22] }) rfl rfl 63 (fun w v w6 => w5.heap.size ≤ w.heap.size ∧ Below w.heap.size w w6 ∧ ∃ G C, OG w6 w.heap.size v g G C) ?_ ?_
                   · intro KK hkk
                     unfold Oper.wp
                     go_simp
                     refine (copyRules_any g HGD.out (some ⟨bA, oA, none⟩) n cp _ hn.out (by first | exact HG5.out.on (Below.refl _ _).drew | exact HG5.out.on ((Below.refl _ _).drew.alloc (Nat.le_refl _) _))).mono ?_
                     rintro e w6 ⟨hb6, v6, G, C, rfl, hO⟩
                     exact hkk _ _ ⟨by first | exact Nat.le_refl w5.heap.size | exact Nat.le_of_lt (by simp), hb6, G, C, hO⟩
                   rintro v6 w6 ⟨hbs6, hb6, G, C, hO⟩
                   have hbx : Below w5.heap.size w5 w6 := by first | exact (Below.refl _ _).drew.trans hb6 | exact ((Below.refl _ _).drew.alloc (Nat.le_refl _) _).trans (hb6.mono hbs6)
                   have cl6 : w6.cell? ⟨bA, oA + p * 2, none⟩ = some (.int .i64 lf) := (hbx.cell (p := ⟨bA, oA + p * 2, none⟩) hbA).trans cl
                   have cr6 : w6.cell? ⟨bA, oA + p * 2 + 1, none⟩ = some (.slice A' m c') := (hbx.cell (p := ⟨bA, oA + p * 2 + 1, none⟩) hbA).trans cr)
                | (refine step_append_lies _ rfl (.tmp 63) (.tmp 68) 22 rfl _ 37 i0 (.agg #[.int .i64 0, .slice none 0 0]) 2 32 Try.underlying22 hi0 hz0 hz1 hz2 rfl (by decide) v6 g.length (flatR G C g) ?_ (hO.own.alloc _) ⟨w6.heap.size, 0, none⟩ 1 1 [.int .i64 lf, .slice A' m c'] ?_ rfl (World.news_of_block (Kt.Blk.new w6 _ _)) ?_ (by decide) ?_ ?_ ?_ _ rfl ?_
                   · simp [Act.eval]
                   · simp [Act.eval]
                   · intro u hu
                     simp only [List.mem_cons, List.not_mem_nil, or_false] at hu
                     rcases hu with rfl | rfl <;> rfl
                   · have := hn.out
                     unfold maxLen
                     omega
                   · have := hn.out
                     omega
                   · exact Nat.le_trans hb6.size (by simp)
                   intro gg cap w7 hown7 hgr7 hat7 hlt7
                   obtain ⟨hR7, hb7⟩ := OG.app_close (x := Gr.rul g p) hlf.out hm.out hbx ((Below.refl w6.heap.size w6).alloc (Nat.le_refl _) (Obj.cells #[Value.int IntKind.i64 lf, Value.slice A' m c'] 37)) hO hbs6 hown7 hgr7 HIT.out HLR HR8)
                | (refine step_append_lies _ rfl (.tmp 63) (.tmp 68) 22 rfl _ 37 i0 (.agg #[.int .i64 0, .slice none 0 0]) 2 32 Try.underlying22 hi0 hz0 hz1 hz2 rfl (by decide) v6 g.length (flatR G C g) ?_ (hO.own) ⟨w5.heap.size, 0, none⟩ 1 1 [.int .i64 lf, .slice A' m c'] ?_ rfl (World.news_of_block (show Kt.Blk w6 w5.heap.size 37 #[Value.int IntKind.i64 lf, Value.slice A' m c'] from (Kt.Blk.new w5.drew 37 #[Value.int IntKind.i64 lf, Value.slice A' m c']).on hb6)) ?_ (by decide) ?_ ?_ ?_ _ rfl ?_
                   · simp [Act.eval]
                   · simp [Act.eval]
                   · intro u hu
                     simp only [List.mem_cons, List.not_mem_nil, or_false] at hu
                     rcases hu with rfl | rfl <;> rfl
                   · have := hn.out
                     unfold maxLen
                     omega
                   · have := hn.out
                     omega
                   · exact hb6.size
                   intro gg cap w7 hown7 hgr7 hat7 hlt7
                   obtain ⟨hR7, hb7⟩ := OG.app_close (x := Gr.rul g p) hlf.out hm.out hbx (Below.refl w6.heap.size w6) hO hbs6 hown7 hgr7 HIT.out HLR HR8)
                | (refine law_fn (.call { callee := .value (.func 20), args := #[.tmp 69, .tmp 70], argTypes := #[22, 31] }) rfl rfl 71 (fun w v w8 => Below w.heap.size w w8 ∧ ∃ v8, v = .tuple #[v8, .int .i64 0] ∧ Kt.Num w8 w.heap.size v8 (counts (g ++ [Gr.rul g p]) tk)) ?_ ?_
                   · intro KK hkk
                     unfold Oper.wp
                     go_simp
                     refine (Count_any (g ++ [Gr.rul g p]) tk (some ⟨gg, 0, none⟩) (g.length + 1) cap T nt ct w7 (by rw [List.length_append]; rfl) (by rw [hn.out]; omega) hnt.out (by omega) (by omega) HHW.out hR7 (HT5.out.on hb7)).mono ?_
                     rintro e w8 ⟨hb8, v8, c8, rfl, hk8, hv8⟩
                     obtain rfl : c8 = 0 := hk8.good.2 ⟨HHG.out, by rw [hnt.out]; omega⟩
                     rw [if_pos rfl] at hv8
                     exact hkk _ _ ⟨hb8, v8, rfl, hv8⟩
                   rintro _ w8 ⟨hb8, v8, rfl, hv8⟩))
              all_goals (go_wp2_with fail; go_meet)
              all_goals exact ⟨rfl, hv8.less hb7.size, hb7.trans (hb8.mono hb7.size)⟩
            case rest =>
              obtain ⟨rfl, hN, hbc⟩ := hcut
              have hbc' : Below w.heap.size w wc := hb5'.trans (hbc.mono hs5)
              have hsc := hbc.size
              have hscw := hbc'.size
              obtain ⟨cg, hcg⟩ : ∃ cg, Hid (counts g tk = cg) := ⟨_, Lib.hid rfl⟩
              obtain ⟨chh, hch⟩ : ∃ c, Hid (counts (g ++ [Gr.rul g p]) tk = c) := ⟨_, Lib.hid rfl⟩
              have HT2 : Hid (chh = Gr.twos p (derivs g tk)) := Lib.hid (by rw [← hch.out]; exact Gr.T_twice g (hitf tk) (by rw [hn.out]; exact hpn) _ 0 0 tk.length)
              have HLE : Hid (cg ≤ chh) := Lib.hid (by rw [← hcg.out, ← hch.out]; exact Gr.T_snoc g _ (hitf tk) _ 0 0 tk.length)
              have HF1 : Hid ((Nt.limbs cg).length ≤ 1024) := Lib.hid (by rw [← hcg.out]; exact counts_fit HGD.out (by rw [hnt.out]; omega))
              have HF2 : Hid ((Nt.limbs chh).length ≤ 1024) := Lib.hid (by rw [← hch.out]; exact counts_fit HHG.out (by rw [hnt.out]; omega))
              have HDL : Hid ((derivs g tk).length = cg) := Lib.hid hcg.out
              have HVC : Hid (Kt.Num wc w4.heap.size v5 cg) := Lib.hid (by rw [← hcg.out]; exact HV5.out.on hbc)
              rw [hch.out] at hN
              have HN := Lib.hid hN
              clear hN HV5 hcg hch HIT HLR HR8 cl cr hbA HG5
              go_wp2_with fail
              refine (uint_any HVC.out HF1.out).mono ?_
              rintro e w9 ⟨⟨hsm, rfl⟩ | ⟨hgt, rfl⟩, hb9⟩
              · have hb9' : Below w.heap.size w w9 := hbc'.trans (hb9.mono hscw)
                have hs9 := hb9'.size
                have hb59 : Below w5.heap.size w5 w9 := hbc.trans (hb9.mono hsc)
                by_cases hc200 : cg ≤ 200
                · have dc : decide ((cg : Int) > 200) = false := by simp; omega
                  have hb49 : Below w4.heap.size w4 w9 := hb5.trans (hb59.mono hb5.size)
                  have HLV : Hid (Kt.LV w9 (fun k => k < w3.heap.size) (derivs g tk) v4) := Lib.hid (by
                    have h1 := HV4.out
                    rw [List.take_of_length_le (by rw [HDL.out]; exact hc200)] at h1
                    exact h1.keep fun k hk _ => hb49.block k hk)
                  obtain ⟨l, hl⟩ : ∃ l, Hid (derivs g tk = l) := ⟨_, Lib.hid rfl⟩
                  have HUS : Hid (∀ t ∈ l, Gr.Tr.uses p t ≤ 60) := Lib.hid (fun t ht => by
                    rw [← hl.out] at ht
                    obtain ⟨ρ, hρ⟩ := HGD.out.ranked
                    have := (Gr.T_uses hρ (fun r hr => (HGD.out.ok r hr).parts.2.1) (hitf tk) p _ _ _ _ t ht).1
                    rw [hnt.out] at this
                    omega)
                  rw [hl.out] at HLV HDL HT2
                  obtain ⟨A4, c4, b4, off4, vs, rfl, hA4, hle4, h634, hc4, ht4⟩ := HLV.out
                  rw [HDL.out] at hA4 hle4 h634 hc4 ht4 ⊢
                  have HA4 := Lib.hid hA4
                  have HC4 := Lib.hid hc4
                  have HT4 := Lib.hid ht4
                  have HN9 := Lib.hid (HN.out.on hb9)
                  clear hA4 hc4 ht4 HLV HV4 HN HVC hsm
                  go_wp2_with fail
                  refine (of_any 0 0 w9 rfl (by decide)).mono ?_
                  rintro e w10 ⟨⟨v0, rfl, hv0⟩, hb10⟩
                  have HV0 : Hid (Kt.Num w10 w9.heap.size v0 (Gr.twos p (l.take 0))) := Lib.hid hv0
                  clear hv0
                  go_wp2_with fail
                  go_loopw [16, 17] (fun u s wr => ∃ a : Nat, a ≤ cg ∧ s = .int .i64 a ∧ Hid (Kt.Num wr w9.heap.size u (Gr.twos p (l.take a))) ∧ Below w9.heap.size w9 wr) (fun _ s _ => cg - (intOf s).toNat)
                  case atStart => exact ⟨0, Nat.zero_le _, rfl, HV0, hb10⟩
                  case round =>
                    obtain ⟨a, ha, rfl, hU, hbl⟩ := hrel
                    have hsl := hbl.size
                    have hbwr : Below w.heap.size w wr := hb9'.trans (hbl.mono hs9)
                    by_cases hlt : a < cg
                    · have hal : a < l.length := by rw [HDL.out]; exact hlt
                      obtain ⟨rfl, _, hl4⟩ := HA4.out (by omega)
                      obtain ⟨ve, hve⟩ : ∃ ve, ve = vs a := ⟨_, rfl⟩
                      obtain ⟨te, hte⟩ : ∃ te, Hid (l.getD a Kt.noTr = te) := ⟨_, Lib.hid rfl⟩
                      have htk : Kt.TV wr (fun k => k < w3.heap.size) te ve := by
                        rw [hve, ← hte.out]
                        exact (HT4.out a hlt).keep fun q hq _ => hbl.block q hq
                      have hut : Gr.Tr.uses p te ≤ 60 := HUS.out _ (by rw [← hte.out, List.getD_eq_getElem?_getD, List.getElem?_eq_getElem hal]; exact List.getElem_mem hal)
                      obtain ⟨d0, d1, d2, Ad, nd, cd, rfl⟩ := tv_form htk
                      have hcl : ∀ q, q < 4 → wr.cell? ⟨b4, off4 + a * 4 + q, none⟩ = (#[Value.int .i64 d0, .int .i64 d1, .int .i64 d2, .slice Ad nd cd] : Array Value)[q]? := fun q hq => by
                        have := HC4.out a hlt q hq
                        rw [← hve] at this
                        exact (hbl.cell (p := ⟨b4, off4 + a * 4 + q, none⟩) hl4).trans this
                      have hb10 : wr.cell? ⟨b4, off4 + a * 4, none⟩ = some (.int .i64 d0) := hcl 0 (by omega)
                      have hb11 : wr.cell? ⟨b4, off4 + a * 4 + 1, none⟩ = some (.int .i64 d1) := hcl 1 (by omega)
                      have hb12 : wr.cell? ⟨b4, off4 + a * 4 + 2, none⟩ = some (.int .i64 d2) := hcl 2 (by omega)
                      have hb13 : wr.cell? ⟨b4, off4 + a * 4 + 3, none⟩ = some (.slice Ad nd cd) := hcl 3 (by omega)
                      have lb4 : b4 < wr.heap.size := Nat.lt_of_lt_of_le hl4 hsl
                      have HTK := Lib.hid htk
                      obtain ⟨ut, hutd⟩ : ∃ ut, Hid (Gr.Tr.uses p te = ut) := ⟨_, Lib.hid rfl⟩
                      rw [hutd.out] at hut
                      have HSUM : Hid (Gr.twos p (l.take (a + 1)) = Gr.twos p (l.take a) + 2 ^ ut) := Lib.hid (by rw [Gr.twos_succ p l a hal, hte.out, hutd.out])
                      have HS1 : Hid (Gr.twos p (l.take (a + 1)) ≤ chh) := Lib.hid (by rw [HT2.out]; exact Gr.twos_take p l (a + 1))
                      have HF3 : Hid ((Nt.limbs (2 ^ ut)).length ≤ 1024) := Lib.hid (Nat.le_trans (Nt.len_mono (Nat.le_trans (by rw [HSUM.out]; exact Nat.le_add_left _ _) HS1.out)) HF2.out)
                      have HF4 : Hid ((Nt.limbs (Gr.twos p (l.take a))).length ≤ 1024) := Lib.hid (Nat.le_trans (Nt.len_mono (Nat.le_trans (by rw [HSUM.out]; exact Nat.le_add_right _ _) HS1.out)) HF2.out)
                      have HF5 : Hid ((Nt.limbs (Gr.twos p (l.take a) + 2 ^ ut)).length ≤ 1024) := Lib.hid (Nat.le_trans (Nt.len_mono (by rw [← HSUM.out]; exact HS1.out)) HF2.out)
                      clear hcl hve htk
                      go_upto_region 16 with fail
                      go_cut [18, 19] (fun s18 s19 wx => s19 = .int .i64 0 ∧ Kt.Num wx wr.heap.size s18 (2 ^ ut) ∧ Below wr.heap.size wr wx)
                      case first =>
                        go_region_law (first
                          | (refine law_fn (.call { callee := .value (.func 22), args := #[.const (.int .u64 2)], argTypes := #[53] }) rfl rfl 100 (fun w v w6 => Below wr.heap.size wr w6 ∧ Kt.Num w6 wr.heap.size v 2) ?_ ?_
                             · intro KK hkk
                               unfold Oper.wp
                               go_simp
                               refine (of_any 2 2 wr.drew rfl (by decide)).mono ?_
                               rintro e w6 ⟨⟨v6, rfl, hv6⟩, hb6⟩
                               exact hkk _ _ ⟨(Below.refl wr.heap.size wr).drew.trans hb6, hv6⟩
                             rintro v6 w6 ⟨hb6, hv6⟩
                             have x10 : w6.cell? ⟨b4, off4 + a * 4, none⟩ = some (.int .i64 d0) := (hb6.cell (p := ⟨b4, off4 + a * 4, none⟩) lb4).trans hb10
                             have x11 : w6.cell? ⟨b4, off4 + a * 4 + 1, none⟩ = some (.int .i64 d1) := (hb6.cell (p := ⟨b4, off4 + a * 4 + 1, none⟩) lb4).trans hb11
                             have x12 : w6.cell? ⟨b4, off4 + a * 4 + 2, none⟩ = some (.int .i64 d2) := (hb6.cell (p := ⟨b4, off4 + a * 4 + 2, none⟩) lb4).trans hb12
                             have x13 : w6.cell? ⟨b4, off4 + a * 4 + 3, none⟩ = some (.slice Ad nd cd) := (hb6.cell (p := ⟨b4, off4 + a * 4 + 3, none⟩) lb4).trans hb13)
                          | (refine law_fn (.call { callee := .value (.func 36), args := #[.tmp 104, .tmp 105], argTypes := #[46, 3] }) rfl rfl 106 (fun w v w7 => v = .int .i64 (ut : Int) ∧ Below w6.heap.size w6 w7) ?_ ?_
                             · intro KK hkk
                               unfold Oper.wp
                               go_simp
                               refine (uses_any p te (fun k => k < w3.heap.size) _ w6 (by rw [hutd.out]; omega) (HTK.out.keep fun q hq _ => hb6.block q hq)).mono ?_
                               rintro e w7 ⟨rfl, hb7⟩
                               rw [hutd.out]
                               exact hkk _ _ ⟨rfl, hb7⟩
                             rintro _ w7 ⟨rfl, hb7⟩)
                          | (refine law_fn (.call { callee := .value (.func 35), args := #[.tmp 100, .tmp 106], argTypes := #[47, 3] }) rfl rfl 107 (fun w v w8 => (∃ v8, v = .tuple #[v8, .int .i64 0] ∧ Kt.Num w8 w7.heap.size v8 (2 ^ ut)) ∧ Below w7.heap.size w7 w8) ?_ ?_
                             · intro KK hkk
                               unfold Oper.wp
                               go_simp
                               refine (pow_num (hv6.on hb7) (by decide) hut HF3.out).mono ?_
                               rintro e w8 ⟨⟨v8, rfl, hv8⟩, hb8⟩
                               exact hkk _ _ ⟨⟨v8, rfl, hv8⟩, hb8⟩
                             rintro _ w8 ⟨⟨v8, rfl, hv8⟩, hb8⟩))
                        all_goals (go_wp2_with fail; go_meet)
                        all_goals exact ⟨rfl, hv8.less (Nat.le_trans hb6.size hb7.size), hb6.trans ((hb7.mono hb6.size).trans (hb8.mono (Nat.le_trans hb6.size hb7.size)))⟩
                      case rest =>
                        obtain ⟨rfl, hP, hbp⟩ := hcut
                        have HP := Lib.hid hP
                        have HUP := Lib.hid (hU.out.on hbp)
                        have hsp := hbp.size
                        clear hP hb10 hb11 hb12 hb13 hU
                        go_wp2_with fail
                        refine (add_num HUP.out HP.out HF4.out HF3.out).mono ?_
                        rintro e w11 ⟨h11, hb11⟩
                        obtain ⟨v11, rfl, hv11⟩ : ∃ v, e = .returned (.tuple #[v, .int .i64 0]) ∧ Kt.Num w11 wc.heap.size v (Gr.twos p (l.take a) + 2 ^ ut) := by
                          rcases h11 with ⟨_, h⟩ | ⟨hlong, _⟩
                          · exact h
                          · exact absurd HF5.out (by omega)
                        have hbl11 : Below w9.heap.size w9 w11 := hbl.trans ((hbp.trans (hb11.mono hsp)).mono hsl)
                        have HV11 : Hid (Kt.Num w11 w9.heap.size v11 (Gr.twos p (l.take (a + 1)))) := Lib.hid (by rw [HSUM.out]; exact hv11.less (Nat.le_trans hsl hsp))
                        clear h11 hv11 HUP HP
                        go_wp2_with fail
                        go_roundw
                        case rel => exact ⟨a + 1, by omega, by go_num, HV11, hbl11⟩
                        case measure => simp [intOf]; omega
                    · obtain rfl : a = cg := by omega
                      have hue := hU.out
                      rw [List.take_of_length_le (by rw [HDL.out]; exact Nat.le_refl _), ← HT2.out] at hue
                      have HUE := Lib.hid hue
                      have HM := Lib.hid (HN9.out.on hbl)
                      clear hue
                      clear hU
                      go_wp2_with fail
                      refine (same_num HM.out HUE.out (Nat.le_trans HF2.out (by decide))).mono ?_
                      rintro e w12 ⟨rfl, hb12⟩
                      have hdd : decide (chh = chh) = true := by simp
                      rw [hdd]
                      have hbw12 : Below w.heap.size w w12 := hbwr.trans (hb12.mono hbwr.size)
                      clear hdd
                      go_wp2_with fail
                      go_ret
                      exact ⟨rfl, hbw12⟩
                · have dc : decide ((cg : Int) > 200) = true := by simp; omega
                  have HN9 := Lib.hid (HN.out.on hb9)
                  have HV9 := Lib.hid (HVC.out.on hb9)
                  clear hsm hc200 HN HVC
                  go_wp2_with fail
                  refine (least_yes HV9.out HN9.out HF1.out HF2.out HLE.out).mono ?_
                  rintro e w12 ⟨rfl, hb12⟩
                  have hbw12 : Below w.heap.size w w12 := hb9'.trans (hb12.mono hs9)
                  go_wp2_with fail
                  go_ret
                  exact ⟨rfl, hbw12⟩
              · have hb9' : Below w.heap.size w w9 := hbc'.trans (hb9.mono hscw)
                have hs9 := hb9'.size
                have HN9 := Lib.hid (HN.out.on hb9)
                have HV9 := Lib.hid (HVC.out.on hb9)
                clear hgt HN HVC
                go_wp2_with fail
                refine (least_yes HV9.out HN9.out HF1.out HF2.out HLE.out).mono ?_
                rintro e w12 ⟨rfl, hb12⟩
                have hbw12 : Below w.heap.size w w12 := hb9'.trans (hb12.mono hs9)
                go_wp2_with fail
                go_ret
                exact ⟨rfl, hbw12⟩
    · have hce : (c != 0) = true := by simp [hcz]
      clear hcz hc
      go_wp2_with fail
      go_ret
      exact ⟨rfl, hb3'⟩
  · go_wp2_with fail
    go_ret
    exact ⟨rfl, hb1⟩
end Go.Proofs.Ytkclifdbdnigaaa
end
