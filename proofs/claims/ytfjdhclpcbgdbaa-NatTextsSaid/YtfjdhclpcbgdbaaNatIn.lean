/- The number package's Text and Pow once more, for a slice of limbs that came in: it need not begin at the head of its block. Written by gen_in.py. -/
import Derived.Test.YtfjdhclpcbgdbaaNatL
namespace Kt
open Go Go.RowKit
/-- A slice that came in and is the number n. -/
def In (w : World) (v : Value) (n : Nat) : Prop := ∃ A c, v = .slice A (Nt.limbs n).length c ∧ (Nt.limbs n).length ≤ c ∧ (A = none → c = 0) ∧ Ints w w.heap.size .u32 A (Nt.limbs n)
section
variable {w w' : World} {v : Value} {n : Nat}
theorem In.on (h : In w v n) (hb : Below w.heap.size w w') : In w' v n := by
  obtain ⟨A, c, e, hc, h0, hi⟩ := h
  exact ⟨A, c, e, hc, h0, hi.on hb⟩
theorem In.drewN (h : In w v n) (k : Nat) : In (w.drewN k) v n := h
theorem In.alloc (h : In w v n) (o : Obj) : In (w.alloc o) v n := h.on ((Below.refl _ _).alloc (Nat.le_refl _) _)
end
end Kt
namespace Go.Proofs.Ytfjdhclpcbgdbaa
open Go Go.RowKit
theorem in_ints {w : World} {n c x : Nat} {A : Option Addr} (h : Kt.In w (.slice A n c) x) : Kt.Ints w w.heap.size .u32 A (Nt.limbs x) := by
  obtain ⟨A', c', e, _, _, hi⟩ := h
  injection e with e1 _ _
  rw [e1]; exact hi
theorem copied_in {w : World} {u : Value} {x : Nat} (hx : Kt.In w u x) (h1 : (Nt.limbs x).length ≤ 1024) :
    Calls Try.prog 32 #[u] w fun e w' => ∃ v, e = .returned v ∧ Kt.Num w' w.heap.size v x ∧ Below w.heap.size w w' := by
  obtain ⟨A, c, rfl, _, hn, ha⟩ := hx
  have h0 : A = none → (Nt.limbs x).length = 0 ∧ c = 0 := fun e => by
    refine ⟨?_, hn e⟩
    rcases Nat.eq_zero_or_pos (Nt.limbs x).length with h | h
    · exact h
    · obtain ⟨b, o, e2, _⟩ := ha h
      rw [e] at e2
      cases e2
  exact copied_any A _ c _ w rfl ha h0 (by omega)
theorem mul_in {w : World} {l1 : Nat} {u v : Value} {x y : Nat} (hx : Kt.Num w l1 u x) (hy : Kt.In w v y) (h1 : (Nt.limbs x).length ≤ 1024) (h2 : (Nt.limbs y).length ≤ 1024) :
    Calls Try.prog 16 #[u, v] w (Got w (x * y)) := by
  obtain ⟨A, ca, rfl, _, ha⟩ := num_ok hx
  obtain ⟨B, cb, rfl, _, _, hb⟩ := hy
  exact mul_any A B _ _ ca cb _ _ (x * y) w rfl rfl ha hb (num_right h1) (num_right h2) (Nt.limbs_Ok x) (Nt.limbs_Ok y) (by rw [Nt.V_limbs, Nt.V_limbs]; simp)
set_option maxRecDepth 100000 in
set_option maxHeartbeats 2000000 in
theorem text_at_in (x : Nat) (A : Option Addr) (n ca : Nat) (w : World) (hx : Kt.In w (.slice A n ca) x) (hn : (Nt.limbs x).length = n) (h1 : n ≤ 1024) :
    Calls Try.prog 18 #[.slice A n ca] w fun e w' => e = .returned (.tuple #[.string ⟨(Lib.decDigits x).toArray⟩, .int .i64 0]) ∧ Below w.heap.size w w' := by
  have ha := in_ints hx
  have hfits : ∀ M : Nat, M = 9873 → x < 10 ^ M := fun M hM => Nt.fits_text (x := x) (m := 1024) (b := M) (by omega) 352 (by omega) (by omega)
  obtain ⟨M, HM⟩ : ∃ M : Nat, Hid (M = 9873) := ⟨_, Lib.hid rfl⟩
  have HB := Lib.hid (hfits M HM.out)
  clear hfits
  have HN := Lib.hid hn
  have HX := Lib.hid hx
  have HR1 := Lib.hid (num_right (x := x) (by omega))
  clear hn hx
  have hz := zeroA
  go_enter Try.func18, Try.ntmps18
  go_wp2_with fail
  refine (right_any A n ca _ _ HN.out ha (by omega)).mono ?_
  rw [HR1.out]
  rintro e w' ⟨rfl, rfl⟩
  go_wp2_with fail
  clear hz
  refine (copied_in (x := x) (HX.out.alloc _) (by have := HN.out; omega)).mono ?_
  rintro e w1 ⟨v, rfl, hv, hbel⟩
  have hblk0 : Kt.IBlk w1 w.heap.size 61 .u8 (Ls.zeros 9873) := (Kt.IBlk.new w _ _ _).on hbel
  have hsz : (w.alloc (.cells (Kt.IArr .u8 (Ls.zeros 9873)) 61)).heap.size = w.heap.size + 1 := by simp
  rw [hsz] at hv
  have hb1 : Below w.heap.size w w1 := ((Below.refl _ _).alloc (Nat.le_refl _) _).trans (hbel.mono (by simp))
  obtain ⟨A1, c1, rfl, _, _⟩ := num_ok hv
  rw [HN.out] at hv ⊢
  clear hsz hbel
  go_wp2_with fail
  go_loopw [5, 6] (fun u5 u6 wr => ∃ (c f n2 cp : Nat) (A2 : Option Addr), u5 = .int .i64 f ∧ u6 = .slice A2 n2 cp ∧ f ≤ 9873 ∧ n2 ≤ 1024 ∧ Hid (f + 9 * c = 9873) ∧ Hid ((Nt.limbs (x / 10 ^ (9 * c))).length = n2) ∧ Hid (Kt.Num wr (w.heap.size + 1) (.slice A2 n2 cp) (x / 10 ^ (9 * c))) ∧ Kt.IBlk wr w.heap.size 61 .u8 (Ls.zeros f ++ Nt.lowd x (9 * c)) ∧ Below w.heap.size w wr) (fun u _ _ => (intOf u).toNat)
  case atStart => exact ⟨0, 9873, n, c1, A1, rfl, rfl, Nat.le_refl _, h1, Lib.hid rfl, Lib.hid (by simp [HN.out]), Lib.hid (by simpa using hv), by simpa [Nt.lowd] using hblk0, hb1⟩
  case round =>
    obtain ⟨c, f, n2, cp, A2, rfl, rfl, hf, hn2, hfc, hlen, hnum, hblk, hbel⟩ := hrel
    by_cases h0 : 0 < n2
    · obtain ⟨y, hy⟩ : ∃ y, Hid (x / 10 ^ (9 * c) = y) := ⟨_, Lib.hid rfl⟩
      rw [hy.out] at hlen hnum
      have hf9 : 9 ≤ f := by
        have hy0 : y ≠ 0 := fun e => by rw [e] at hlen; have := hlen.out; simp [Nt.limbs_zero] at this; omega
        have h2 : 10 ^ (9 * c) ≤ x := by
          rcases Nat.lt_or_ge x (10 ^ (9 * c)) with h | h
          · exact absurd (by rw [← hy.out]; exact Nat.div_eq_of_lt h) hy0
          · exact h
        have h3 : 9 * c < 9873 := by
          rcases Nat.lt_or_ge (9 * c) M with h | h
          · have := HM.out; omega
          · have h4 := Nat.pow_le_pow_right (show 0 < 10 by omega) h
            exact absurd (Nat.lt_of_lt_of_le HB.out (Nat.le_trans h4 h2)) (Nat.lt_irrefl _)
        have := hfc.out
        omega
      obtain ⟨g, cg, e, hcg, hlo, hrow⟩ := Kt.Row.at _ hnum.out (by have := hlen.out; omega)
      rw [hlen.out] at e hcg
      injection e with e1 e2 e3
      subst e1; subst e3
      clear e2
      go_wp2_with fail
      refine (divided_any g n2 cp (Nt.limbs y) 1000000000 _ hlen.out hrow (Nt.limbs_Ok y) (by omega) (by omega) (by omega)).mono ?_
      rw [Nt.V_limbs]
      rintro e w2 ⟨q, rfl, hlq, hoq, hvq, hrq, hbel2⟩
      have HLQ := Lib.hid hlq
      have HVQ := Lib.hid hvq
      have HOQ := Lib.hid hoq
      have hblk2 := hblk.below hbel2 (by omega)
      have hb2 : Below w.heap.size w w2 := hbel.trans (hbel2.mono (by omega))
      clear hlq hvq hoq hblk hbel hbel2 hrow
      have hch0 : 0 ≤ (y : Int) % 1000000000 := by omega
      have hch1 : (y : Int) % 1000000000 ≤ 999999999 := by omega
      obtain ⟨z, hzz⟩ : ∃ z, Hid ((y : Int) % 1000000000 = z) := ⟨_, Lib.hid rfl⟩
      rw [hzz.out] at hch0 hch1 ⊢
      obtain ⟨z, rfl⟩ := Int.eq_ofNat_of_zero_le hch0
      go_wp2_with fail
      go_loopw [5, 7, 20] (fun u5 u7 i wr => ∃ (t f2 : Nat) (ch : Nat), t ≤ 9 ∧ u5 = .int .i64 f2 ∧ u7 = .int .u32 ch ∧ i = .int .i64 t ∧ f2 ≤ f ∧ Hid (f2 + t = f) ∧ ch ≤ 999999999 ∧ Hid (ch = z / 10 ^ t) ∧ Kt.IBlk wr w.heap.size 61 .u8 (Ls.zeros f2 ++ Nt.lowd x (9 * c + t)) ∧ Kt.RowAt wr g .u32 q ∧ Below w.heap.size w wr) (fun _ _ i _ => 9 - (intOf i).toNat)
      case atStart => exact ⟨0, f, z, by omega, rfl, rfl, rfl, Nat.le_refl _, Lib.hid rfl, by omega, Lib.hid (by simp), hblk2, hrq, hb2⟩
      case round =>
        obtain ⟨t, f2, ch, ht, rfl, rfl, rfl, hf2, hft, hch, hcz, hblk3, hrq3, hb3⟩ := hrel
        by_cases hlt : t < 9
        · obtain ⟨f3, rfl⟩ : ∃ f3, f2 = f3 + 1 := ⟨f2 - 1, by have := hft.out; omega⟩
          rw [show (((f3 + 1 : Nat) : Int)) = (f3 : Int) + 1 from by omega]
          have hcell := hblk3.cell f3 (by rw [List.length_append, Ls.zeros_len]; omega)
          have hfr := hblk3.frozen f3
          have HD : Hid (48 + (ch : Int) % 10 = (48 + (x / 10 ^ (9 * c + t) % 10 : Nat) : Int)) := Lib.hid (by
            rw [← Nt.chunk_digit x c t hlt, hy.out, hcz.out]
            have e : z = y % 1000000000 := by have := hzz.out; omega
            rw [e]
            omega)
          go_wp2_with fail
          go_roundw
          case rel => exact ⟨t + 1, f3, ch / 10, by omega, by first | rfl | go_num, by first | rfl | go_num, by go_num, by omega, Lib.hid (by have := hft.out; omega), by omega, Lib.hid (by rw [hcz.out, Nat.div_div_eq_div_mul, Nat.pow_succ]), by rw [show 9 * c + (t + 1) = (9 * c + t) + 1 from rfl, Nt.lowd, ← HD.out, ← Nt.low_fill]; exact hblk3.set_ _ _, hrq3.far (by show g ≠ w.heap.size; omega) _, hb3.setCell (Nat.le_refl _) _⟩
          case measure => simp [intOf]; omega
        · obtain rfl : t = 9 := by omega
          go_wp2_with fail
          refine (trimmed_any _ n2 cp q _ HLQ.out hrq3.ints hcg (by omega)).mono ?_
          rintro e w' ⟨k, rfl, hk, hvt, hlt2, rfl⟩
          have e1 := Nt.limbs_take (n := y / 1000000000) HOQ.out (by rw [HVQ.out]; simp) (by rw [HLQ.out]; exact hk) hvt hlt2
          have e2 : y / 1000000000 = x / 10 ^ (9 * (c + 1)) := by rw [Nt.pow9, ← Nat.div_div_eq_div_mul, hy.out]
          rw [e2] at e1
          have hlen2 : (q.take k).length = k := by rw [List.length_take, HLQ.out]; omega
          have h5 := (hrq3.take k).row hlo k cp hlen2 (by omega)
          rw [← e1] at h5 hlen2
          have H5 := Lib.hid h5
          have HLEN2 := Lib.hid hlen2
          clear hvt hlt2 e1 e2 hlen2 h5
          go_wp2_with fail
          go_roundw
          case rel => exact ⟨c + 1, f2, k, cp, some ⟨g, 0, none⟩, rfl, rfl, by omega, by omega, Lib.hid (by have := hft.out; have := hfc.out; omega), HLEN2, Lib.hid H5.out, hblk3, hb3⟩
          case measure => simp [intOf]; have := hft.out; omega
    · obtain rfl : n2 = 0 := by omega
      have HZ : Hid (x < 10 ^ (9 * c)) := Lib.hid (by
        have h2 := (Nt.len_zero_iff _).1 hlen.out
        exact (Nat.div_eq_zero_iff_lt (Nat.pow_pos (by omega))).1 h2)
      obtain ⟨m, hm⟩ : ∃ m, Hid (9 * c = m) := ⟨_, Lib.hid rfl⟩
      rw [hm.out] at HZ hblk hfc
      clear hlen hnum
      have hfm := hfc.out
      have HFM := Lib.hid hfm
      have hm9 : m ≤ 9873 := by omega
      clear hfm
      go_wp2_with fail
      obtain ⟨wo, rfl⟩ : ∃ wo : World, wo = wr := ⟨_, rfl⟩
      go_loop [5] (fun u5 => ∃ f2 k : Nat, u5 = .int .i64 f2 ∧ f2 ≤ 9873 ∧ k ≤ m ∧ Hid (f2 + k = 9873) ∧ Hid (x < 10 ^ k)) (fun u5 => 9873 - (intOf u5).toNat)
      case atStart => exact ⟨f, m, rfl, hf, Nat.le_refl _, HFM, HZ⟩
      case round =>
        obtain ⟨f2, k, rfl, hf2, hkm, hfk, hxk⟩ := hrel
        by_cases hlt : f2 < 9873
        · have hk0 : 0 < k := by have := hfk.out; omega
          obtain ⟨k, rfl⟩ : ∃ j, k = j + 1 := ⟨k - 1, by omega⟩
          have hcell := hblk.cell f2 (by rw [List.length_append, Ls.zeros_len, Nt.lowd_len]; have := HFM.out; omega)
          rw [show f2 = f + m - (k + 1) from by have := HFM.out; have := hfk.out; omega, Nt.low_nth x f m (k + 1) hkm, show f + m - (k + 1) = f2 from by have := HFM.out; have := hfk.out; omega] at hcell
          obtain ⟨d, hd⟩ : ∃ d, Hid (Ls.nth (Nt.lowd x (k + 1)) 0 = d) := ⟨_, Lib.hid rfl⟩
          rw [hd.out] at hcell
          cases hdb : (d == 48)
          · have HT : Hid (10 ^ k ≤ x) := Lib.hid (Nt.lowd_top (by rw [hd.out]; simpa using hdb))
            have hne : ((f2 : Int) == 9873) = false := by simp; omega
            have hcv := conv_row wo w.heap.size f2 (k + 1) (k + 1) (Nt.lowd x (k + 1)) (Nt.lowd_len _ _) (Nt.lowd_bd _ _) (fun j hj => by
              rw [hblk.cell (f2 + j) (by rw [List.length_append, Ls.zeros_len, Nt.lowd_len]; have := HFM.out; have := hfk.out; omega)]
              rw [show f2 + j = f + m - (k + 1) + j from by have := HFM.out; have := hfk.out; omega, Nt.low_drop x f m (k + 1) hkm j hj])
            have hsl := slice_arr wo w.heap.size f2 (k + 1) hfk.out (by omega)
            go_wp2_with fail
            go_ret2
            exact ⟨ret_si (by rw [Nt.lowd_dec k x HT.out hxk.out]), hbel⟩
          · have HT : Hid (x < 10 ^ k) := Lib.hid (Nt.lowd_skip hxk.out (by rw [hd.out]; simpa using hdb))
            go_wp2_with fail
            go_round
            case rel => exact ⟨f2 + 1, k, by first | rfl | go_num, by omega, by omega, Lib.hid (by have := hfk.out; omega), HT⟩
            case measure => simp [intOf]; omega
        · obtain rfl : f2 = 9873 := by omega
          have HX0 : Hid (x = 0) := Lib.hid (by
            have e : k = 0 := by have := hfk.out; omega
            have h3 := hxk.out
            rw [e] at h3
            simpa using h3)
          go_wp2_with fail
          go_ret2
          exact ⟨ret_si (by rw [HX0.out, Lib.decDigits_one (by omega)]; rfl), hbel⟩

theorem pow_zero_in (x : Nat) (A : Option Addr) (n ca : Nat) (w : World) (hx : Kt.In w (.slice A n ca) x) (hn : (Nt.limbs x).length = n) (h1 : n ≤ 1024) :
    Calls Try.prog 15 #[.slice A n ca, .int .i64 0] w (GotP w 1) := by
  have ha := in_ints hx
  have HN := Lib.hid hn
  have HR1 := Lib.hid (num_right (x := x) (by omega))
  clear hn hx
  go_enter Try.func15, Try.ntmps15
  go_wp2_with fail
  refine (right_any _ n ca _ _ HN.out ha (by omega)).mono ?_
  rw [HR1.out]
  rintro e w' ⟨rfl, rfl⟩
  go_wp2_with fail
  refine (of_any 1 1 _ rfl (by omega)).mono ?_
  rintro e w1 ⟨⟨v, rfl, hv⟩, hbel⟩
  go_wp2
  go_ret2
  exact ⟨⟨_, rfl, hv⟩, hbel⟩
theorem pow_small_in (x k : Nat) (A : Option Addr) (n ca : Nat) (w : World) (hx : Kt.In w (.slice A n ca) x) (hn : (Nt.limbs x).length = n) (hx2 : x ≤ 1) (hk0 : 1 ≤ k) (hk : k ≤ 60) :
    Calls Try.prog 15 #[.slice A n ca, .int .i64 k] w (GotP w (x ^ k)) := by
  have ha := in_ints hx
  have hkn : decide ((k : Int) < 0) = false := by simp
  have hkb : ((k : Int) == 0) = false := by simp; omega
  have hp : Hid (x ^ k = x) := Lib.hid (by
    rcases (show x = 0 ∨ x = 1 by omega) with rfl | rfl
    · rw [Nat.zero_pow (by omega)]
    · rw [Nat.one_pow])
  have hcase : (n = 0 ∧ x = 0) ∨ (n = 1 ∧ x = 1) := by
    rcases (show x = 0 ∨ x = 1 by omega) with rfl | rfl
    · exact .inl ⟨hn.symm, rfl⟩
    · exact .inr ⟨hn.symm, rfl⟩
  have HN := Lib.hid hn
  have HX := Lib.hid hx
  have hn1 : n ≤ 1 := by omega
  have HR1 := Lib.hid (num_right (x := x) (by omega))
  clear hn hx
  rw [hp.out]
  rcases hcase with ⟨h2, h3⟩ | ⟨h2, h3⟩
  · have hnb : ((n : Int) == 0) = true := by simp; omega
    clear h2 h3
    go_enter Try.func15, Try.ntmps15
    go_wp2_with fail
    refine (right_any _ n ca _ _ HN.out ha (by omega)).mono ?_
    rw [HR1.out]
    rintro e w' ⟨rfl, rfl⟩
    go_wp2_with fail
    refine (copied_in HX.out (by have := HN.out; omega)).mono ?_
    rintro e w1 ⟨v, rfl, hv, hbel⟩
    go_wp2
    go_ret2
    exact ⟨⟨_, rfl, hv⟩, hbel⟩
  · have hnb : ((n : Int) == 0) = false := by simp; omega
    have hnb1 : ((n : Int) == 1) = true := by simp; omega
    obtain ⟨b1, o1, rfl, hb1', hc1⟩ := ha (by have := HN.out; omega)
    have hcell1 := hc1 0 (by have := HN.out; omega)
    have hone : Ls.nth (Nt.limbs x) 0 = 1 := by rw [h3]; rfl
    rw [Nat.add_zero, hone] at hcell1
    have hn0 : 0 < n := by omega
    clear hc1 hone h2 h3
    go_enter Try.func15, Try.ntmps15
    go_wp2_with fail
    refine (right_any _ n ca _ _ HN.out ha (by omega)).mono ?_
    rw [HR1.out]
    rintro e w' ⟨rfl, rfl⟩
    go_wp2_with fail
    refine (copied_in HX.out (by have := HN.out; omega)).mono ?_
    rintro e w1 ⟨v, rfl, hv, hbel⟩
    go_wp2
    go_ret2
    exact ⟨⟨_, rfl, hv⟩, hbel⟩

set_option maxRecDepth 100000 in
set_option maxHeartbeats 1000000 in
theorem pow_big_in (x k : Nat) (A : Option Addr) (n ca : Nat) (w : World) (hx : Kt.In w (.slice A n ca) x) (hn : (Nt.limbs x).length = n) (h1 : n ≤ 1024) (hx2 : 2 ≤ x) (hk0 : 1 ≤ k) (hk : k ≤ 60) (hfit : (Nt.limbs (x ^ k)).length ≤ 1024) :
    Calls Try.prog 15 #[.slice A n ca, .int .i64 k] w (GotP w (x ^ k)) := by
  have ha := in_ints hx
  have hn0 : 0 < n := by have := Nt.len_zero_iff x; omega
  have hk2 : decide ((32768 : Int) ≤ (k : Int)) = false := by simp; omega
  have hkn : decide ((k : Int) < 0) = false := by simp
  have hkb : ((k : Int) == 0) = false := by simp; omega
  have hnb : ((n : Int) == 0) = false := by simp; omega
  have HN := Lib.hid hn
  have HX := Lib.hid hx
  have hfits : ∀ m, m ≤ k → (Nt.limbs (x ^ m)).length ≤ 1024 := fun m hm => Nat.le_trans (Nt.len_mono (Nt.pow_le_of (by omega) hm)) hfit
  have HF := Lib.hid hfits
  have HR1 := Lib.hid (num_right (x := x) (by omega))
  obtain ⟨b1, o1, rfl, hb1', hc1⟩ := ha (by omega)
  have hcell1 := hc1 0 (by omega)
  rw [Nat.add_zero] at hcell1
  obtain ⟨d, hd⟩ : ∃ d, Hid (Ls.nth (Nt.limbs x) 0 = d) := ⟨_, Lib.hid rfl⟩
  rw [hd.out] at hcell1
  obtain ⟨hq0, hq1, hq2⟩ := Nt.len_bd k hk0 hk
  have HQ := Lib.hid hq2
  clear hq2
  obtain ⟨q, hq⟩ : ∃ q, Hid (Lib.bitLen k = q) := ⟨_, Lib.hid rfl⟩
  rw [hq.out] at hq0 hq1 HQ
  have HAND := Lib.hid (fun j => Nt.and_one k j hk)
  have hcase : (n == 1 && d == 1) = false := by
    rw [Bool.eq_false_iff]
    intro h
    simp only [Bool.and_eq_true, beq_iff_eq] at h
    have e := Nt.V_limbs x
    cases hl : Nt.limbs x with
    | nil => rw [hl] at hn; simp at hn; omega
    | cons a t =>
      rw [hl] at e hn
      have : t = [] := List.eq_nil_of_length_eq_zero (by simp at hn; omega)
      subst this
      have hd2 := hd.out
      rw [hl] at hd2
      have : a = d := hd2
      simp only [Nt.V] at e
      omega
  have HCASE := Lib.hid hcase
  clear hn hx hfit hc1 hfits hcase
  by_cases hn1 : n = 1
  all_goals
    first
      | (have hnb1 : ((n : Int) == 1) = true := by simp [hn1])
      | (have hnb1 : ((n : Int) == 1) = false := by simp; omega)
    have hdb : (n = 1 → (d == 1) = false) := fun e => by have := HCASE.out; rw [e] at this; simpa using this
    have hdb2 : Hid (n = 1 → (d == 1) = false) := Lib.hid hdb
    first
      | (have hd1 : (d == 1) = false := hdb hn1)
      | skip
    clear hn1 hdb
    go_enter Try.func15, Try.ntmps15
    go_wp2_with fail
    refine (right_any _ n ca _ _ HN.out ha (by omega)).mono ?_
    rw [HR1.out]
    rintro e w' ⟨rfl, rfl⟩
    go_wp2_with fail
    refine (of_any 1 1 _ rfl (by omega)).mono ?_
    rintro e w1 ⟨⟨v, rfl, hv⟩, hbel⟩
    go_wp2_with fail
    refine (Try.bits_Len k _ (by omega) (by omega)).mono ?_
    rw [Int.toNat_natCast, hq.out]
    rintro e w' ⟨rfl, rfl⟩
    go_wp2_with fail
    go_loopw [6, 7] (fun u i wr => ∃ (j m : Nat), i = .int .i64 ((j : Int) - 1) ∧ j ≤ 6 ∧ Hid (m = k / 2 ^ j) ∧ Kt.Num wr w.heap.size u (x ^ m) ∧ Below w.heap.size w wr) (fun _ i _ => (intOf i + 1).toNat)
    case atStart => exact ⟨q, 0, rfl, hq1, Lib.hid (Nat.div_eq_of_lt HQ.out).symm, hv, hbel⟩
    case round =>
      obtain ⟨j, m, rfl, hj, hm, hnum, hbel2⟩ := hrel
      by_cases h0 : 0 < j
      · obtain ⟨j, rfl⟩ : ∃ i, j = i + 1 := ⟨j - 1, by omega⟩
        rw [show ((j + 1 : Nat) : Int) - 1 = (j : Int) from by omega]
        have hs := Nt.half_step k j
        have hle : k / 2 ^ j ≤ k := Nat.div_le_self _ _
        rw [← hm.out] at hs
        have HS := Lib.hid hs
        have HLE := Lib.hid hle
        have hml : m ≤ k := by omega
        clear hs hle
        go_wp2_with fail
        refine (mul_num hnum hnum (HF.out m hml) (HF.out m hml)).mono ?_
        rintro e w2 ⟨h2, hb2⟩
        have e2 : x ^ m * x ^ m = x ^ (2 * m) := by rw [← Nat.pow_add, show m + m = 2 * m from by omega]
        rw [e2] at h2
        have hfm := HF.out (2 * m) (by have := HS.out; have := HLE.out; omega)
        rcases h2 with ⟨_, v2, rfl, hv2⟩ | ⟨h3, _⟩
        · have hb3 : Below w.heap.size w w2 := Kt.next hbel2 hb2
          cases hbit : (bits BinOp.and IntKind.i64 ((k : Int) / 2 ^ j) 1 == 1)
          · have HM : Hid (2 * m = k / 2 ^ j) := Lib.hid (by
              have h5 : ¬ (((k / 2 ^ j % 2 : Nat) : Int) = 1) := by rw [← HAND.out j]; simpa using hbit
              have := HS.out; omega)
            clear e2 hfm
            go_wp2_with fail
            go_roundw
            case rel => exact ⟨j, 2 * m, rfl, by omega, HM, hv2.less hbel2.size, hb3⟩
            case measure => simp [intOf]
          · have HM : Hid (2 * m + 1 = k / 2 ^ j) := Lib.hid (by
              have h5 : (((k / 2 ^ j % 2 : Nat) : Int) = 1) := by rw [← HAND.out j]; simpa using hbit
              have := HS.out; omega)
            clear e2 hfm
            go_wp2_with fail
            refine (mul_in hv2 (HX.out.on hb3) (HF.out _ (by have := HM.out; have := HLE.out; omega)) (by have := HN.out; omega)).mono ?_
            rintro e w3 ⟨h4, hb4⟩
            have e3 : x ^ (2 * m) * x = x ^ (2 * m + 1) := by rw [Nat.pow_succ]
            rw [e3] at h4
            have hfm2 := HF.out (2 * m + 1) (by have := HM.out; have := HLE.out; omega)
            rcases h4 with ⟨_, v3, rfl, hv3⟩ | ⟨h3, _⟩
            · clear e3 hfm2
              go_wp2_with fail
              go_roundw
              case rel => exact ⟨j, 2 * m + 1, rfl, by omega, HM, hv3.less hb3.size, Kt.next hb3 hb4⟩
              case measure => simp [intOf]
            · omega
        · omega
      · obtain rfl : j = 0 := by omega
        have HM : Hid (m = k) := Lib.hid (by have := hm.out; simpa using this)
        go_wp2
        go_ret2
        exact ⟨⟨_, rfl, by have h6 := hnum; rw [HM.out] at h6; exact h6⟩, hbel2⟩

theorem text_in {w : World} {u : Value} {x : Nat} (hx : Kt.In w u x) (h1 : (Nt.limbs x).length ≤ 1024) :
    Calls Try.prog 18 #[u] w fun e w' => e = .returned (.tuple #[.string ⟨(Lib.decDigits x).toArray⟩, .int .i64 0]) ∧ Below w.heap.size w w' := by
  have hx0 := hx
  obtain ⟨A, c, rfl, _, _⟩ := hx
  exact text_at_in x A _ c w hx0 rfl h1
theorem pow_in {w : World} {u : Value} {x k : Nat} (hx : Kt.In w u x) (h1 : (Nt.limbs x).length ≤ 1024) (hk : k ≤ 60) (hfit : (Nt.limbs (x ^ k)).length ≤ 1024) :
    Calls Try.prog 15 #[u, .int .i64 k] w (GotP w (x ^ k)) := by
  have hx0 := hx
  obtain ⟨A, c, rfl, _, _⟩ := hx
  by_cases h0 : k = 0
  · subst h0; exact pow_zero_in x A _ c w hx0 rfl h1
  · by_cases h2 : x ≤ 1
    · exact pow_small_in x k A _ c w hx0 rfl h2 (by omega) hk
    · exact pow_big_in x k A _ c w hx0 rfl h1 (by omega) (by omega) hk hfit
end Go.Proofs.Ytfjdhclpcbgdbaa
