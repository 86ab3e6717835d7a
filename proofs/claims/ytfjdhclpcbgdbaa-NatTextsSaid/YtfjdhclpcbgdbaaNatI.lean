/- What Pow of the number package returns, for exponents up to 60: its walk. -/
import Derived.Test.YtfjdhclpcbgdbaaNatG
import Derived.Test.YtfjdhclpcbgdbaaShelf
namespace Nt
open Go
theorem and_one (k j : Nat) (hk : k ≤ 60) : bits .and .i64 ((k : Int) / 2 ^ j) 1 = ((k / 2 ^ j % 2 : Nat) : Int) := by
  have h0 : k / 2 ^ j ≤ k := Nat.div_le_self _ _
  have e : ((k : Int) / 2 ^ j) = ((k / 2 ^ j : Nat) : Int) := by rw [Int.natCast_ediv, Int.natCast_pow]; rfl
  rw [e]
  generalize k / 2 ^ j = y at h0
  exact bits_mask .i64 63 (by decide) (fun n hn hn2 => by rw [IntKind.wrap_i64]; omega) 1 (by decide) _ (by omega) (by omega)
theorem len_all : ∀ k : Fin 61, 1 ≤ k.val → 1 ≤ Lib.bitLen k.val ∧ Lib.bitLen k.val ≤ 6 ∧ k.val < 2 ^ Lib.bitLen k.val := by decide +kernel
theorem len_bd (k : Nat) (h1 : 1 ≤ k) (h2 : k ≤ 60) : 1 ≤ Lib.bitLen k ∧ Lib.bitLen k ≤ 6 ∧ k < 2 ^ Lib.bitLen k := len_all ⟨k, by omega⟩ h1
theorem half_step (k j : Nat) : k / 2 ^ j = 2 * (k / 2 ^ (j + 1)) + k / 2 ^ j % 2 := by
  rw [Nat.pow_succ, ← Nat.div_div_eq_div_mul]; omega
theorem pow_le_of {x a b : Nat} (hx : 1 ≤ x) (h : a ≤ b) : x ^ a ≤ x ^ b := Nat.pow_le_pow_right hx h
end Nt
namespace Go.Proofs.Ytfjdhclpcbgdbaa
open Go Go.RowKit

def GotP (w : World) (y : Nat) (e : Ending) (w' : World) : Prop := (∃ v, e = .returned (.tuple #[v, .int .i64 0]) ∧ Kt.Num w' w.heap.size v y) ∧ Below w.heap.size w w'
theorem pow_zero (x : Nat) (l1 : Nat) (A : Option Addr) (n ca : Nat) (w : World) (hx : Kt.Num w l1 (.slice A n ca) x) (hn : (Nt.limbs x).length = n) (h1 : n ≤ 1024) :
    Calls Try.prog 15 #[.slice A n ca, .int .i64 0] w (GotP w 1) := by
  have ha := num_ints hx
  have HN := Lib.hid hn
  have HR1 := Lib.hid (num_right (x := x) (by omega))
  clear hn hx
  go_enter Try.func15, Try.ntmps15
  go_wp2_with fail
  refine (right_any _ n ca _ _ HN.out ha (by omega)).mono ?_
  rw [HR1.out]
  rintro e w' ⟨rfl, rfl⟩
  go_wp2_with fail
  refine (of_any 1 1 _ rfl (by omega)).mono ?_
  rintro e w1 ⟨⟨v, rfl, hv⟩, hbel⟩
  go_wp2
  go_ret2
  exact ⟨⟨_, rfl, hv⟩, hbel⟩
theorem pow_small (x k : Nat) (l1 : Nat) (A : Option Addr) (n ca : Nat) (w : World) (hx : Kt.Num w l1 (.slice A n ca) x) (hn : (Nt.limbs x).length = n) (hx2 : x ≤ 1) (hk0 : 1 ≤ k) (hk : k ≤ 60) :
    Calls Try.prog 15 #[.slice A n ca, .int .i64 k] w (GotP w (x ^ k)) := by
  have ha := num_ints hx
  have hkn : decide ((k : Int) < 0) = false := by simp
  have hkb : ((k : Int) == 0) = false := by simp; omega
  have hp : Hid (x ^ k = x) := Lib.hid (by
    rcases (show x = 0 ∨ x = 1 by omega) with rfl | rfl
    · rw [Nat.zero_pow (by omega)]
    · rw [Nat.one_pow])
  have hcase : (n = 0 ∧ x = 0) ∨ (n = 1 ∧ x = 1) := by
    rcases (show x = 0 ∨ x = 1 by omega) with rfl | rfl
    · exact .inl ⟨hn.symm, rfl⟩
    · exact .inr ⟨hn.symm, rfl⟩
  have HN := Lib.hid hn
  have HX := Lib.hid hx
  have hn1 : n ≤ 1 := by omega
  have HR1 := Lib.hid (num_right (x := x) (by omega))
  clear hn hx
  rw [hp.out]
  rcases hcase with ⟨h2, h3⟩ | ⟨h2, h3⟩
  · have hnb : ((n : Int) == 0) = true := by simp; omega
    clear h2 h3
    go_enter Try.func15, Try.ntmps15
    go_wp2_with fail
    refine (right_any _ n ca _ _ HN.out ha (by omega)).mono ?_
    rw [HR1.out]
    rintro e w' ⟨rfl, rfl⟩
    go_wp2_with fail
    refine (copied_num HX.out (by have := HN.out; omega)).mono ?_
    rintro e w1 ⟨v, rfl, hv, hbel⟩
    go_wp2
    go_ret2
    exact ⟨⟨_, rfl, hv⟩, hbel⟩
  · have hnb : ((n : Int) == 0) = false := by simp; omega
    have hnb1 : ((n : Int) == 1) = true := by simp; omega
    obtain ⟨b1, o1, rfl, hb1', hc1⟩ := ha (by have := HN.out; omega)
    have hcell1 := hc1 0 (by have := HN.out; omega)
    have hone : Ls.nth (Nt.limbs x) 0 = 1 := by rw [h3]; rfl
    rw [Nat.add_zero, hone] at hcell1
    have hn0 : 0 < n := by omega
    clear hc1 hone h2 h3
    go_enter Try.func15, Try.ntmps15
    go_wp2_with fail
    refine (right_any _ n ca _ _ HN.out ha (by omega)).mono ?_
    rw [HR1.out]
    rintro e w' ⟨rfl, rfl⟩
    go_wp2_with fail
    refine (copied_num HX.out (by have := HN.out; omega)).mono ?_
    rintro e w1 ⟨v, rfl, hv, hbel⟩
    go_wp2
    go_ret2
    exact ⟨⟨_, rfl, hv⟩, hbel⟩

set_option maxRecDepth 100000 in
set_option maxHeartbeats 1000000 in
theorem pow_big (x k : Nat) (l1 : Nat) (A : Option Addr) (n ca : Nat) (w : World) (hx : Kt.Num w l1 (.slice A n ca) x) (hn : (Nt.limbs x).length = n) (h1 : n ≤ 1024) (hx2 : 2 ≤ x) (hk0 : 1 ≤ k) (hk : k ≤ 60) (hfit : (Nt.limbs (x ^ k)).length ≤ 1024) :
    Calls Try.prog 15 #[.slice A n ca, .int .i64 k] w (GotP w (x ^ k)) := by
  have ha := num_ints hx
  have hn0 : 0 < n := by have := Nt.len_zero_iff x; omega
  have hk2 : decide ((32768 : Int) ≤ (k : Int)) = false := by simp; omega
  have hkn : decide ((k : Int) < 0) = false := by simp
  have hkb : ((k : Int) == 0) = false := by simp; omega
  have hnb : ((n : Int) == 0) = false := by simp; omega
  have HN := Lib.hid hn
  have HX := Lib.hid hx
  have hfits : ∀ m, m ≤ k → (Nt.limbs (x ^ m)).length ≤ 1024 := fun m hm => Nat.le_trans (Nt.len_mono (Nt.pow_le_of (by omega) hm)) hfit
  have HF := Lib.hid hfits
  have HR1 := Lib.hid (num_right (x := x) (by omega))
  obtain ⟨b1, o1, rfl, hb1', hc1⟩ := ha (by omega)
  have hcell1 := hc1 0 (by omega)
  rw [Nat.add_zero] at hcell1
  obtain ⟨d, hd⟩ : ∃ d, Hid (Ls.nth (Nt.limbs x) 0 = d) := ⟨_, Lib.hid rfl⟩
  rw [hd.out] at hcell1
  obtain ⟨hq0, hq1, hq2⟩ := Nt.len_bd k hk0 hk
  have HQ := Lib.hid hq2
  clear hq2
  obtain ⟨q, hq⟩ : ∃ q, Hid (Lib.bitLen k = q) := ⟨_, Lib.hid rfl⟩
  rw [hq.out] at hq0 hq1 HQ
  have HAND := Lib.hid (fun j => Nt.and_one k j hk)
  have hcase : (n == 1 && d == 1) = false := by
    rw [Bool.eq_false_iff]
    intro h
    simp only [Bool.and_eq_true, beq_iff_eq] at h
    have e := Nt.V_limbs x
    cases hl : Nt.limbs x with
    | nil => rw [hl] at hn; simp at hn; omega
    | cons a t =>
      rw [hl] at e hn
      have : t = [] := List.eq_nil_of_length_eq_zero (by simp at hn; omega)
      subst this
      have hd2 := hd.out
      rw [hl] at hd2
      have : a = d := hd2
      simp only [Nt.V] at e
      omega
  have HCASE := Lib.hid hcase
  clear hn hx hfit hc1 hfits hcase
  by_cases hn1 : n = 1
  all_goals
    first
      | (have hnb1 : ((n : Int) == 1) = true := by simp [hn1])
      | (have hnb1 : ((n : Int) == 1) = false := by simp; omega)
    have hdb : (n = 1 → (d == 1) = false) := fun e => by have := HCASE.out; rw [e] at this; simpa using this
    have hdb2 : Hid (n = 1 → (d == 1) = false) := Lib.hid hdb
    first
      | (have hd1 : (d == 1) = false := hdb hn1)
      | skip
    clear hn1 hdb
    go_enter Try.func15, Try.ntmps15
    go_wp2_with fail
    refine (right_any _ n ca _ _ HN.out ha (by omega)).mono ?_
    rw [HR1.out]
    rintro e w' ⟨rfl, rfl⟩
    go_wp2_with fail
    refine (of_any 1 1 _ rfl (by omega)).mono ?_
    rintro e w1 ⟨⟨v, rfl, hv⟩, hbel⟩
    go_wp2_with fail
    refine (Try.bits_Len k _ (by omega) (by omega)).mono ?_
    rw [Int.toNat_natCast, hq.out]
    rintro e w' ⟨rfl, rfl⟩
    go_wp2_with fail
    go_loopw [6, 7] (fun u i wr => ∃ (j m : Nat), i = .int .i64 ((j : Int) - 1) ∧ j ≤ 6 ∧ Hid (m = k / 2 ^ j) ∧ Kt.Num wr w.heap.size u (x ^ m) ∧ Below w.heap.size w wr) (fun _ i _ => (intOf i + 1).toNat)
    case atStart => exact ⟨q, 0, rfl, hq1, Lib.hid (Nat.div_eq_of_lt HQ.out).symm, hv, hbel⟩
    case round =>
      obtain ⟨j, m, rfl, hj, hm, hnum, hbel2⟩ := hrel
      by_cases h0 : 0 < j
      · obtain ⟨j, rfl⟩ : ∃ i, j = i + 1 := ⟨j - 1, by omega⟩
        rw [show ((j + 1 : Nat) : Int) - 1 = (j : Int) from by omega]
        have hs := Nt.half_step k j
        have hle : k / 2 ^ j ≤ k := Nat.div_le_self _ _
        rw [← hm.out] at hs
        have HS := Lib.hid hs
        have HLE := Lib.hid hle
        have hml : m ≤ k := by omega
        clear hs hle
        go_wp2_with fail
        refine (mul_num hnum hnum (HF.out m hml) (HF.out m hml)).mono ?_
        rintro e w2 ⟨h2, hb2⟩
        have e2 : x ^ m * x ^ m = x ^ (2 * m) := by rw [← Nat.pow_add, show m + m = 2 * m from by omega]
        rw [e2] at h2
        have hfm := HF.out (2 * m) (by have := HS.out; have := HLE.out; omega)
        rcases h2 with ⟨_, v2, rfl, hv2⟩ | ⟨h3, _⟩
        · have hb3 : Below w.heap.size w w2 := Kt.next hbel2 hb2
          cases hbit : (bits BinOp.and IntKind.i64 ((k : Int) / 2 ^ j) 1 == 1)
          · have HM : Hid (2 * m = k / 2 ^ j) := Lib.hid (by
              have h5 : ¬ (((k / 2 ^ j % 2 : Nat) : Int) = 1) := by rw [← HAND.out j]; simpa using hbit
              have := HS.out; omega)
            clear e2 hfm
            go_wp2_with fail
            go_roundw
            case rel => exact ⟨j, 2 * m, rfl, by omega, HM, hv2.less hbel2.size, hb3⟩
            case measure => simp [intOf]
          · have HM : Hid (2 * m + 1 = k / 2 ^ j) := Lib.hid (by
              have h5 : (((k / 2 ^ j % 2 : Nat) : Int) = 1) := by rw [← HAND.out j]; simpa using hbit
              have := HS.out; omega)
            clear e2 hfm
            go_wp2_with fail
            refine (mul_num hv2 (HX.out.on hb3) (HF.out _ (by have := HM.out; have := HLE.out; omega)) (by have := HN.out; omega)).mono ?_
            rintro e w3 ⟨h4, hb4⟩
            have e3 : x ^ (2 * m) * x = x ^ (2 * m + 1) := by rw [Nat.pow_succ]
            rw [e3] at h4
            have hfm2 := HF.out (2 * m + 1) (by have := HM.out; have := HLE.out; omega)
            rcases h4 with ⟨_, v3, rfl, hv3⟩ | ⟨h3, _⟩
            · clear e3 hfm2
              go_wp2_with fail
              go_roundw
              case rel => exact ⟨j, 2 * m + 1, rfl, by omega, HM, hv3.less hb3.size, Kt.next hb3 hb4⟩
              case measure => simp [intOf]
            · omega
        · omega
      · obtain rfl : j = 0 := by omega
        have HM : Hid (m = k) := Lib.hid (by have := hm.out; simpa using this)
        go_wp2
        go_ret2
        exact ⟨⟨_, rfl, by have h6 := hnum; rw [HM.out] at h6; exact h6⟩, hbel2⟩

/-- A power that is not too long. -/
theorem pow_num {w : World} {l1 : Nat} {u : Value} {x k : Nat} (hx : Kt.Num w l1 u x) (h1 : (Nt.limbs x).length ≤ 1024) (hk : k ≤ 60) (hfit : (Nt.limbs (x ^ k)).length ≤ 1024) :
    Calls Try.prog 15 #[u, .int .i64 k] w (GotP w (x ^ k)) := by
  obtain ⟨A, c, rfl, _, _⟩ := num_ok hx
  by_cases h0 : k = 0
  · subst h0; exact pow_zero x l1 A _ c w hx rfl h1
  · by_cases h2 : x ≤ 1
    · exact pow_small x k l1 A _ c w hx rfl h2 (by omega) hk
    · exact pow_big x k l1 A _ c w hx rfl h1 (by omega) (by omega) hk hfit
end Go.Proofs.Ytfjdhclpcbgdbaa
