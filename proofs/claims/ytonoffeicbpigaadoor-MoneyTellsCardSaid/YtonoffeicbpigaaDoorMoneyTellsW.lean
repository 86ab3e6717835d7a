/- The walk of MoneyTells. -/
import Derived.Test.YtonoffeicbpigaaDoorKept
import Derived.Test.YtonoffeicbpigaaDoorRefShare
import Derived.Test.YtonoffeicbpigaaDoorRefRead
import Derived.Test.YtonoffeicbpigaaDoorRefText
import Derived.Test.YtonoffeicbpigaaDoorAwake
import Derived.Test.YtonoffeicbpigaaDoorRead
namespace Go.Proofs.YtonoffeicbpigaaDoor
open Go Go.RowKit

theorem sum_n (A : Option Addr) (n cp : Nat) (zs : List Int) (w : World) (hl : zs.length = n) (hz : Kt.Ints w w.heap.size .i64 A zs) (hn : n ≤ 4096) (v e1 : Int) (hv : sumV zs = v) (he : sumE zs = e1) :
    Calls Tryd.prog 16 #[.slice A n cp] w fun e w' => e = .returned (.tuple #[.int .i64 v, .int .i64 e1]) ∧ w = w' := by
  subst hl; subst hv; subst he
  exact sum_any A cp zs w hz hn
theorem rsum_n (A : Option Addr) (n cp : Nat) (zs : List Int) (w : World) (hl : zs.length = n) (hz : Kt.Ints w w.heap.size .i64 A zs) (hn : n ≤ 4096) (v e1 : Int) (hv : sumV zs = v) (he : sumE zs = e1) :
    Calls Tryd.prog 17 #[.slice A n cp] w fun e w' => e = .returned (.tuple #[.int .i64 v, .int .i64 e1]) ∧ w = w' := by
  subst hl; subst hv; subst he
  exact rsum_short A cp zs w hz hn
theorem own_ints {w : World} {base g m c : Nat} {T : TypeId} {l1 l2 : List Int} (h : Kt.Own w base T .i64 (.slice (some ⟨g, 0, none⟩) m c) (l1 ++ l2)) : Kt.Ints w w.heap.size .i64 (some ⟨g, 0, none⟩) l1 := fun hp => by
  have hc := own_cells h
  obtain ⟨g2, c2, e, _, _, hg, _, _⟩ := h.block (by rw [List.length_append]; omega)
  injection e with e _ _
  injection e with e
  injection e with e _ _
  subst e
  exact ⟨g, 0, rfl, hg, fun j hj => by rw [Nat.zero_add, hc j (by rw [List.length_append]; omega), Ls.nth_append_left _ _ _ hj]⟩
theorem tells_long (a b share way : Int) (A : Option Addr) (n cp : Nat) (s : ByteArray) (w : World) (hn : 5000 < n) :
    Calls Tryd.prog 5 #[.int .i64 a, .int .i64 b, .int .i64 share, .int .u8 way, .slice A n cp, .string s] w fun e w' => e = .returned (.bool true) ∧ Below w.heap.size w w' := by
  go_enter Tryd.func5, Tryd.ntmps5
  go_wp2
  go_ret
  exact ⟨rfl, Below.refl _ _⟩

set_option maxRecDepth 100000 in
set_option maxHeartbeats 8000000 in
theorem tells_short (a b share way : Int) (w0 : 0 ≤ way) (A : Option Addr) (n cp : Nat) (l : List Int) (s : ByteArray) (w : World) (ht : Tab w) (hl : l.length = n) (hz : Kt.Ints w w.heap.size .i64 A l) (hA : A = none → n = 0 ∧ cp = 0) (hn : n ≤ 5000) :
    Calls Tryd.prog 5 #[.int .i64 a, .int .i64 b, .int .i64 share, .int .u8 way, .slice A n cp, .string s] w fun e w' => e = .returned (.bool true) ∧ Below w.heap.size w w' := by
  have HL := Lib.hid hl
  have HA := Lib.hid hA
  obtain ⟨av, hav⟩ : ∃ v, Hid (sumV [a, b] = v) := ⟨_, Lib.hid rfl⟩
  obtain ⟨ae, hae⟩ : ∃ v, Hid (sumE [a, b] = v) := ⟨_, Lib.hid rfl⟩
  obtain ⟨sv, hsv⟩ : ∃ v, Hid (sumV l = v) := ⟨_, Lib.hid rfl⟩
  obtain ⟨se, hse⟩ : ∃ v, Hid (sumE l = v) := ⟨_, Lib.hid rfl⟩
  obtain ⟨hv, hhv⟩ : ∃ v, Hid (shareV a share way = v) := ⟨_, Lib.hid rfl⟩
  obtain ⟨he, hhe⟩ : ∃ v, Hid (shareE a share way = v) := ⟨_, Lib.hid rfl⟩
  obtain ⟨rv, hrv⟩ : ∃ v, Hid (Mny.readRV s.data.toList = v) := ⟨_, Lib.hid rfl⟩
  obtain ⟨re, hre⟩ : ∃ v, Hid (Mny.readRE s.data.toList = v) := ⟨_, Lib.hid rfl⟩
  obtain ⟨ib, hib⟩ : ∃ v, Hid (inR a = v) := ⟨_, Lib.hid rfl⟩
  have HT := Lib.hid ht
  clear ht hl hA
  by_cases h4 : n ≤ 4096 <;> cases ib
  · -- short, none
    go_enter Tryd.func5, Tryd.ntmps5
    go_wp2_with fail
    refine (add_any a b _).mono ?_
    rw [hav.out, hae.out]
    rintro e w1 ⟨rfl, b1⟩
    go_wp2_with fail
    refine (radd_any a b _).mono ?_
    rw [hav.out, hae.out]
    rintro e w2 ⟨rfl, b2⟩
    replace b2 := Kt.next b1 b2
    clear b1
    go_wp2_with fail
    refine (right_any a _).mono ?_
    rw [hib.out]
    rintro e w' ⟨rfl, rfl⟩
    go_wp2_with fail
    refine (rright_any a _).mono ?_
    rw [hib.out]
    rintro e w' ⟨rfl, rfl⟩
    have hz2 := hz.on b2
    go_wp2_with fail
    refine (lent_any A n cp l _ HL.out hz2 HA.out hn).mono ?_
    rintro e w3 ⟨rfl, ho3, b3⟩
    have hz3 := hz2.on b3
    replace b3 := Kt.next b2 b3
    clear b2 hz2
    go_wp2_with fail
    refine (sum_n _ n (n + 12) l _ HL.out (own_ints ho3) h4 sv se hsv.out hse.out).mono ?_
    rintro e w' ⟨rfl, rfl⟩
    go_wp2_with fail
    refine (rsum_n A n cp l _ HL.out hz3 h4 sv se hsv.out hse.out).mono ?_
    rintro e w' ⟨rfl, rfl⟩
    go_wp2_with fail
    refine (kept_any _ _ A n cp l _ HL.out ho3 hz3 hn).mono ?_
    rintro e w4 ⟨rfl, q, rfl⟩
    replace b3 := Kt.below_drewN b3 q
    have HT3 := Lib.hid (HT.out.on b3)
    clear ho3 hz3
    go_wp2_with fail
    refine (share_any a share way _).mono ?_
    rw [hhv.out, hhe.out]
    rintro e w5 ⟨rfl, b5⟩
    have HT5 := Lib.hid (HT3.out.on b5)
    replace b5 := Kt.next b3 b5
    clear b3
    go_wp2_with fail
    refine (rshare_any a share way _ w0).mono ?_
    rw [hhv.out, hhe.out]
    rintro e w6 ⟨rfl, b6⟩
    have HT6 := Lib.hid (HT5.out.on b6)
    replace b6 := Kt.next b5 b6
    clear b5
    go_wp2_with fail
    refine (text_no a _ (by have := hib.out; simp only [inR, decide_eq_false_iff_not] at this; omega)).mono ?_
    rintro e w7 ⟨rfl, b7⟩
    have HT7 := Lib.hid (HT6.out.on b7)
    replace b7 := Kt.next b6 b7
    clear b6
    go_wp2_with fail
    refine (rtext_no a _ hib.out).mono ?_
    rintro e w' ⟨rfl, rfl⟩
    have HT8 := HT7
    have b8 := b7
    clear b7
    go_wp2_with fail
    refine (read_any s _ HT8.out).mono ?_
    rw [hrv.out, hre.out]
    rintro e w9 ⟨rfl, b9⟩
    replace b9 := Kt.next b8 b9
    clear b8
    go_wp2_with fail
    refine (rread_any s _).mono ?_
    rw [hrv.out, hre.out]
    rintro e w10 ⟨rfl, b10⟩
    replace b10 := Kt.next b9 b10
    clear b9
    go_wp2
    go_ret
    exact ⟨rfl, b10⟩
  · -- short, amount
    go_enter Tryd.func5, Tryd.ntmps5
    go_wp2_with fail
    refine (add_any a b _).mono ?_
    rw [hav.out, hae.out]
    rintro e w1 ⟨rfl, b1⟩
    go_wp2_with fail
    refine (radd_any a b _).mono ?_
    rw [hav.out, hae.out]
    rintro e w2 ⟨rfl, b2⟩
    replace b2 := Kt.next b1 b2
    clear b1
    go_wp2_with fail
    refine (right_any a _).mono ?_
    rw [hib.out]
    rintro e w' ⟨rfl, rfl⟩
    go_wp2_with fail
    refine (rright_any a _).mono ?_
    rw [hib.out]
    rintro e w' ⟨rfl, rfl⟩
    have hz2 := hz.on b2
    go_wp2_with fail
    refine (lent_any A n cp l _ HL.out hz2 HA.out hn).mono ?_
    rintro e w3 ⟨rfl, ho3, b3⟩
    have hz3 := hz2.on b3
    replace b3 := Kt.next b2 b3
    clear b2 hz2
    go_wp2_with fail
    refine (sum_n _ n (n + 12) l _ HL.out (own_ints ho3) h4 sv se hsv.out hse.out).mono ?_
    rintro e w' ⟨rfl, rfl⟩
    go_wp2_with fail
    refine (rsum_n A n cp l _ HL.out hz3 h4 sv se hsv.out hse.out).mono ?_
    rintro e w' ⟨rfl, rfl⟩
    go_wp2_with fail
    refine (kept_any _ _ A n cp l _ HL.out ho3 hz3 hn).mono ?_
    rintro e w4 ⟨rfl, q, rfl⟩
    replace b3 := Kt.below_drewN b3 q
    have HT3 := Lib.hid (HT.out.on b3)
    clear ho3 hz3
    go_wp2_with fail
    refine (share_any a share way _).mono ?_
    rw [hhv.out, hhe.out]
    rintro e w5 ⟨rfl, b5⟩
    have HT5 := Lib.hid (HT3.out.on b5)
    replace b5 := Kt.next b3 b5
    clear b3
    go_wp2_with fail
    refine (rshare_any a share way _ w0).mono ?_
    rw [hhv.out, hhe.out]
    rintro e w6 ⟨rfl, b6⟩
    have HT6 := Lib.hid (HT5.out.on b6)
    replace b6 := Kt.next b5 b6
    clear b5
    go_wp2_with fail
    have hbd := inR_bd hib.out
    refine (text_yes a _ hbd.1 hbd.2 HT6.out).mono ?_
    rintro e w7 ⟨rfl, b7⟩
    have HT7 := Lib.hid (HT6.out.on b7)
    replace b7 := Kt.next b6 b7
    clear b6
    go_wp2_with fail
    refine (rtext_yes a _ hbd.1 hbd.2).mono ?_
    rintro e w8 ⟨rfl, b8⟩
    have HT8 := Lib.hid (HT7.out.on b8)
    replace b8 := Kt.next b7 b8
    clear b7 hbd
    go_wp2_with fail
    refine (read_any s _ HT8.out).mono ?_
    rw [hrv.out, hre.out]
    rintro e w9 ⟨rfl, b9⟩
    replace b9 := Kt.next b8 b9
    clear b8
    go_wp2_with fail
    refine (rread_any s _).mono ?_
    rw [hrv.out, hre.out]
    rintro e w10 ⟨rfl, b10⟩
    replace b10 := Kt.next b9 b10
    clear b9
    go_wp2
    go_ret
    exact ⟨rfl, b10⟩
  · -- many, none
    go_enter Tryd.func5, Tryd.ntmps5
    go_wp2_with fail
    refine (add_any a b _).mono ?_
    rw [hav.out, hae.out]
    rintro e w1 ⟨rfl, b1⟩
    go_wp2_with fail
    refine (radd_any a b _).mono ?_
    rw [hav.out, hae.out]
    rintro e w2 ⟨rfl, b2⟩
    replace b2 := Kt.next b1 b2
    clear b1
    go_wp2_with fail
    refine (right_any a _).mono ?_
    rw [hib.out]
    rintro e w' ⟨rfl, rfl⟩
    go_wp2_with fail
    refine (rright_any a _).mono ?_
    rw [hib.out]
    rintro e w' ⟨rfl, rfl⟩
    have hz2 := hz.on b2
    go_wp2_with fail
    refine (lent_any A n cp l _ HL.out hz2 HA.out hn).mono ?_
    rintro e w3 ⟨rfl, ho3, b3⟩
    have hz3 := hz2.on b3
    replace b3 := Kt.next b2 b3
    clear b2 hz2
    go_wp2_with fail
    refine (sum_many _ n (n + 12) _ (by omega)).mono ?_
    rintro e w' ⟨rfl, rfl⟩
    go_wp2_with fail
    refine (rsum_many A n cp _ (by omega)).mono ?_
    rintro e w' ⟨rfl, rfl⟩
    go_wp2_with fail
    refine (kept_any _ _ A n cp l _ HL.out ho3 hz3 hn).mono ?_
    rintro e w4 ⟨rfl, q, rfl⟩
    replace b3 := Kt.below_drewN b3 q
    have HT3 := Lib.hid (HT.out.on b3)
    clear ho3 hz3
    go_wp2_with fail
    refine (share_any a share way _).mono ?_
    rw [hhv.out, hhe.out]
    rintro e w5 ⟨rfl, b5⟩
    have HT5 := Lib.hid (HT3.out.on b5)
    replace b5 := Kt.next b3 b5
    clear b3
    go_wp2_with fail
    refine (rshare_any a share way _ w0).mono ?_
    rw [hhv.out, hhe.out]
    rintro e w6 ⟨rfl, b6⟩
    have HT6 := Lib.hid (HT5.out.on b6)
    replace b6 := Kt.next b5 b6
    clear b5
    go_wp2_with fail
    refine (text_no a _ (by have := hib.out; simp only [inR, decide_eq_false_iff_not] at this; omega)).mono ?_
    rintro e w7 ⟨rfl, b7⟩
    have HT7 := Lib.hid (HT6.out.on b7)
    replace b7 := Kt.next b6 b7
    clear b6
    go_wp2_with fail
    refine (rtext_no a _ hib.out).mono ?_
    rintro e w' ⟨rfl, rfl⟩
    have HT8 := HT7
    have b8 := b7
    clear b7
    go_wp2_with fail
    refine (read_any s _ HT8.out).mono ?_
    rw [hrv.out, hre.out]
    rintro e w9 ⟨rfl, b9⟩
    replace b9 := Kt.next b8 b9
    clear b8
    go_wp2_with fail
    refine (rread_any s _).mono ?_
    rw [hrv.out, hre.out]
    rintro e w10 ⟨rfl, b10⟩
    replace b10 := Kt.next b9 b10
    clear b9
    go_wp2
    go_ret
    exact ⟨rfl, b10⟩
  · -- many, amount
    go_enter Tryd.func5, Tryd.ntmps5
    go_wp2_with fail
    refine (add_any a b _).mono ?_
    rw [hav.out, hae.out]
    rintro e w1 ⟨rfl, b1⟩
    go_wp2_with fail
    refine (radd_any a b _).mono ?_
    rw [hav.out, hae.out]
    rintro e w2 ⟨rfl, b2⟩
    replace b2 := Kt.next b1 b2
    clear b1
    go_wp2_with fail
    refine (right_any a _).mono ?_
    rw [hib.out]
    rintro e w' ⟨rfl, rfl⟩
    go_wp2_with fail
    refine (rright_any a _).mono ?_
    rw [hib.out]
    rintro e w' ⟨rfl, rfl⟩
    have hz2 := hz.on b2
    go_wp2_with fail
    refine (lent_any A n cp l _ HL.out hz2 HA.out hn).mono ?_
    rintro e w3 ⟨rfl, ho3, b3⟩
    have hz3 := hz2.on b3
    replace b3 := Kt.next b2 b3
    clear b2 hz2
    go_wp2_with fail
    refine (sum_many _ n (n + 12) _ (by omega)).mono ?_
    rintro e w' ⟨rfl, rfl⟩
    go_wp2_with fail
    refine (rsum_many A n cp _ (by omega)).mono ?_
    rintro e w' ⟨rfl, rfl⟩
    go_wp2_with fail
    refine (kept_any _ _ A n cp l _ HL.out ho3 hz3 hn).mono ?_
    rintro e w4 ⟨rfl, q, rfl⟩
    replace b3 := Kt.below_drewN b3 q
    have HT3 := Lib.hid (HT.out.on b3)
    clear ho3 hz3
    go_wp2_with fail
    refine (share_any a share way _).mono ?_
    rw [hhv.out, hhe.out]
    rintro e w5 ⟨rfl, b5⟩
    have HT5 := Lib.hid (HT3.out.on b5)
    replace b5 := Kt.next b3 b5
    clear b3
    go_wp2_with fail
    refine (rshare_any a share way _ w0).mono ?_
    rw [hhv.out, hhe.out]
    rintro e w6 ⟨rfl, b6⟩
    have HT6 := Lib.hid (HT5.out.on b6)
    replace b6 := Kt.next b5 b6
    clear b5
    go_wp2_with fail
    have hbd := inR_bd hib.out
    refine (text_yes a _ hbd.1 hbd.2 HT6.out).mono ?_
    rintro e w7 ⟨rfl, b7⟩
    have HT7 := Lib.hid (HT6.out.on b7)
    replace b7 := Kt.next b6 b7
    clear b6
    go_wp2_with fail
    refine (rtext_yes a _ hbd.1 hbd.2).mono ?_
    rintro e w8 ⟨rfl, b8⟩
    have HT8 := Lib.hid (HT7.out.on b8)
    replace b8 := Kt.next b7 b8
    clear b7 hbd
    go_wp2_with fail
    refine (read_any s _ HT8.out).mono ?_
    rw [hrv.out, hre.out]
    rintro e w9 ⟨rfl, b9⟩
    replace b9 := Kt.next b8 b9
    clear b8
    go_wp2_with fail
    refine (rread_any s _).mono ?_
    rw [hrv.out, hre.out]
    rintro e w10 ⟨rfl, b10⟩
    replace b10 := Kt.next b9 b10
    clear b9
    go_wp2
    go_ret
    exact ⟨rfl, b10⟩

set_option maxRecDepth 100000 in
theorem walk_MoneyTells (w : World) (a : Int) (_wa : (Lit.int .i64 a).wf = true) (b : Int) (_wb : (Lit.int .i64 b).wf = true) (sh : Int) (_ws : (Lit.int .i64 sh).wf = true) (way : Int) (wy : (Lit.int .u8 way).wf = true)
    (A : Option Addr) (cp : Nat) (l : List Int) (_hlc : l.length ≤ cp) (_hcm : cp ≤ maxLen) (hz : Kt.Ints w w.heap.size .i64 A l) (_hw : ∀ x ∈ l, (Lit.int .i64 x).wf = true) (_hn : l.length * 8 ≤ 140737488351232) (hk : A = none → cp = 0) (s : ByteArray) (_hs : s.size ≤ maxLen) (ht : Tab w) :
    Calls Tryd.prog 3 #[.int .i64 a, .int .i64 b, .int .i64 sh, .int .u8 way, .slice A l.length cp, .string s] w fun e w' => e = .returned (.bool true) ∧ Below w.heap.size w w' := by
  have w0 : 0 ≤ way := by
    have hmin : IntKind.u8.min = 0 := rfl
    simp only [Lit.wf, Bool.and_eq_true, decide_eq_true_eq] at wy
    omega
  have hA : A = none → l.length = 0 ∧ cp = 0 := fun e => by
    refine ⟨?_, hk e⟩
    rcases Nat.eq_zero_or_pos l.length with h | h
    · exact h
    · obtain ⟨b, o, e2, _⟩ := hz h
      rw [e] at e2
      cases e2
  have HT := Lib.hid ht
  have HA := Lib.hid hA
  obtain ⟨n, HN⟩ : ∃ n, Hid (l.length = n) := ⟨_, Lib.hid rfl⟩
  rw [HN.out] at HA
  rw [HN.out]
  clear ht hA _hlc hk _hn
  go_enter Tryd.func3, Tryd.ntmps3
  go_wp2_with fail
  refine (awake_any _ HT.out).mono ?_
  rintro e w1 ⟨rfl, b1⟩
  have HT1 := Lib.hid (HT.out.on b1)
  have hz1 := hz.on b1
  go_wp2_with fail
  by_cases h5 : n ≤ 5000
  · refine (tells_short a b sh way w0 A n cp l s _ HT1.out HN.out hz1 HA.out h5).mono ?_
    rintro e w2 ⟨rfl, b2⟩
    replace b2 := Kt.next b1 b2
    clear b1
    go_wp2
    go_ret
    exact ⟨rfl, b2⟩
  · refine (tells_long a b sh way A n cp s _ (by omega)).mono ?_
    rintro e w2 ⟨rfl, b2⟩
    replace b2 := Kt.next b1 b2
    clear b1
    go_wp2
    go_ret
    exact ⟨rfl, b2⟩

end Go.Proofs.YtonoffeicbpigaaDoor
