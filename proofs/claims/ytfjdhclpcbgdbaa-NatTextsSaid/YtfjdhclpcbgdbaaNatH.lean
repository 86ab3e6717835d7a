/- What Text of the number package returns: its walk. -/
import Derived.Test.YtfjdhclpcbgdbaaNatG
import Derived.Test.YtfjdhclpcbgdbaaNatT
namespace Nt
open Go
theorem low_fill (f : Nat) (l : List Int) (v : Int) : (Ls.zeros (f + 1) ++ l).set f v = Ls.zeros f ++ (v :: l) := by
  have e : Ls.zeros (f + 1) = Ls.zeros f ++ [0] := List.replicate_succ'
  rw [e, List.append_assoc, List.set_append_right _ _ (by rw [Ls.zeros_len]; omega), Ls.zeros_len, Nat.sub_self]
  rfl
theorem nth_append_right (a b : List Int) (k : Nat) (h : a.length ≤ k) : Ls.nth (a ++ b) k = Ls.nth b (k - a.length) := by
  unfold Ls.nth
  rw [List.getD, List.getD, List.getElem?_append_right h]
theorem nth_low (n k d : Nat) : Ls.nth (lowd n (k + d)) d = Ls.nth (lowd n k) 0 := by
  induction d with
  | zero => rfl
  | succ d ih => exact ih
theorem low_nth (n f m k : Nat) (hkm : k ≤ m) : Ls.nth (Ls.zeros f ++ lowd n m) (f + m - k) = Ls.nth (lowd n k) 0 := by
  rw [nth_append_right _ _ _ (by rw [Ls.zeros_len]; omega), Ls.zeros_len]
  have e : m = k + (m - k) := by omega
  rw [show f + m - k - f = m - k from by omega]
  have h := nth_low n k (m - k)
  rwa [← e] at h
theorem low_drop (n f m k : Nat) (hkm : k ≤ m) (j : Nat) (_hj : j < k) : Ls.nth (Ls.zeros f ++ lowd n m) (f + m - k + j) = Ls.nth (lowd n k) j := by
  rw [nth_append_right _ _ _ (by rw [Ls.zeros_len]; omega), Ls.zeros_len]
  rw [show f + m - k + j - f = (m - k) + j from by omega]
  have h : ∀ d, Ls.nth (lowd n (k + d)) (d + j) = Ls.nth (lowd n k) j := by
    intro d
    induction d with
    | zero => simp
    | succ d ih => rw [show d + 1 + j = (d + j) + 1 from by omega]; exact ih
  have e := h (m - k)
  rwa [show k + (m - k) = m from by omega] at e
end Nt
namespace Go.Proofs.Ytfjdhclpcbgdbaa
open Go Go.RowKit

def isZ : Value → Bool
  | .int .u8 n => n == 0
  | _ => false
def zlook (v : Value) : Nat × Bool := match v with
  | .agg cs => (cs.size, cs.toList.all isZ)
  | _ => (0, false)
theorem isZ_eq {v : Value} (h : isZ v = true) : v = .int .u8 0 := by
  unfold isZ at h
  split at h
  · rename_i n
    have e : n = 0 := by simpa using h
    rw [e]
  · cases h
theorem all_zero : ∀ (l : List Value) (n : Nat), l.length = n → l.all isZ = true → l = (Ls.zeros n).map (Value.int .u8)
  | [], n, hn, _ => by simp at hn; subst hn; rfl
  | v :: l, n, hn, h => by
    cases n with
    | zero => simp at hn
    | succ n =>
      simp only [List.all_cons, Bool.and_eq_true] at h
      rw [isZ_eq h.1, all_zero l n (by simpa using hn) h.2]
      rfl
theorem zlookA : ((Try.prog.info? 61).bind (fun i => i.zero)).map zlook = some (9873, true) := by kernel_rfl
theorem zeroA (w : World) : (zeroValue 61).run Try.prog w = .ok (.agg (Kt.IArr .u8 (Ls.zeros 9873))) w := by
  have h := zlookA
  cases hi : Try.prog.info? 61 with
  | none => rw [hi] at h; simp at h
  | some i =>
    rw [hi] at h
    simp only [Option.bind_some] at h
    cases hz : i.zero with
    | none => rw [hz] at h; simp at h
    | some v =>
      rw [hz] at h
      simp only [Option.map_some, Option.some.injEq] at h
      unfold zlook at h
      split at h
      · rename_i cs
        simp only [Prod.mk.injEq] at h
        have e := all_zero cs.toList 9873 (by simpa using h.1) h.2
        have e2 : cs = Kt.IArr .u8 (Ls.zeros 9873) := by
          apply Array.toList_inj.1
          rw [e, Kt.IArr]
        unfold zeroValue
        simp [typeInfo, hi, hz, e2]
      · simp at h

theorem conv_row (w : World) (b off k cap : Nat) (l : List Int) (hl : l.length = k) (hbd : ∀ x ∈ l, 48 ≤ x ∧ x ≤ 57) (hc : ∀ j, j < k → w.cell? ⟨b, off + j, none⟩ = some (.int .u8 (Ls.nth l j))) :
    (Go.convert 63 9 (.slice (some ⟨b, off, none⟩) k cap)).run Try.prog w = .ok (.string ⟨(Nt.bytes l).toArray⟩) w := by
  have hlen : (Nt.bytes l).length = k := by unfold Nt.bytes; rw [List.length_map]; exact hl
  have h := run_convert_bytes_back (P := Try.prog) w 63 9 5 ⟨b, off, none⟩ cap (Nt.bytes l) Try.underlying63 Try.underlying5 Try.underlying9 (fun j hj => by
    rw [hlen] at hj
    have h1 := hc j hj
    have h2 := hbd _ (Ls.nth_mem l j (by omega))
    have e : (Nt.bytes l)[j] = UInt8.ofNat (Ls.nth l j).toNat := by
      rw [Ls.nth_get l j (by omega)]
      simp only [Nt.bytes, List.getElem_map]
    rw [Addr.add_lit, h1, e]
    have e2 : (UInt8.ofNat (Ls.nth l j).toNat).toNat = (Ls.nth l j).toNat := by
      rw [UInt8.toNat_ofNat']
      omega
    rw [e2]
    congr 2
    omega)
  rwa [hlen] at h

theorem ret_si {a b : ByteArray} {n : Int} (h : a = b) : Ending.returned (.tuple #[.string a, .int .i64 n]) = .returned (.tuple #[.string b, .int .i64 n]) := by rw [h]
theorem slice_arr (w : World) (g f k : Nat) (hf : f + k = 9873) (hk : 0 < k) :
    (Instr.sliceAt 61 (.pointer (some ⟨g, 0, none⟩)) (some (.int .i64 (f : Int))) none none).run Try.prog w = .ok (.slice (some ⟨g, f, none⟩) k k) w := by
  have hL : Try.prog.arrayLen 61 = 9873 := by kernel_rfl
  have hs : ∀ w, (sizeOf (Try.prog.elem 61)).run Try.prog w = .ok 1 w := fun w => by kernel_rfl
  rw [run_sliceAt_array_l w 61 _ (by kernel_rfl) .i64 f (by omega) (by rw [hL]; omega), hs]
  simp only [Result.andThen, slicedAt, hL, Int.toNat_natCast]
  rw [if_neg (by omega), Addr.add_lit, show 9873 - f = k from by omega, Nat.zero_add, Nat.mul_one]

set_option maxRecDepth 100000 in
set_option maxHeartbeats 2000000 in
theorem text_at (x : Nat) (l1 : Nat) (A : Option Addr) (n ca : Nat) (w : World) (hx : Kt.Num w l1 (.slice A n ca) x) (hn : (Nt.limbs x).length = n) (h1 : n ≤ 1024) :
    Calls Try.prog 18 #[.slice A n ca] w fun e w' => e = .returned (.tuple #[.string ⟨(Lib.decDigits x).toArray⟩, .int .i64 0]) ∧ Below w.heap.size w w' := by
  have ha := num_ints hx
  have hfits : ∀ M : Nat, M = 9873 → x < 10 ^ M := fun M hM => Nt.fits_text (x := x) (m := 1024) (b := M) (by omega) 352 (by omega) (by omega)
  obtain ⟨M, HM⟩ : ∃ M : Nat, Hid (M = 9873) := ⟨_, Lib.hid rfl⟩
  have HB := Lib.hid (hfits M HM.out)
  clear hfits
  have HN := Lib.hid hn
  have HX := Lib.hid hx
  have HR1 := Lib.hid (num_right (x := x) (by omega))
  clear hn hx
  have hz := zeroA
  go_enter Try.func18, Try.ntmps18
  go_wp2_with fail
  refine (right_any A n ca _ _ HN.out ha (by omega)).mono ?_
  rw [HR1.out]
  rintro e w' ⟨rfl, rfl⟩
  go_wp2_with fail
  clear hz
  refine (copied_num (x := x) (HX.out.alloc _) (by have := HN.out; omega)).mono ?_
  rintro e w1 ⟨v, rfl, hv, hbel⟩
  have hblk0 : Kt.IBlk w1 w.heap.size 61 .u8 (Ls.zeros 9873) := (Kt.IBlk.new w _ _ _).on hbel
  have hsz : (w.alloc (.cells (Kt.IArr .u8 (Ls.zeros 9873)) 61)).heap.size = w.heap.size + 1 := by simp
  rw [hsz] at hv
  have hb1 : Below w.heap.size w w1 := ((Below.refl _ _).alloc (Nat.le_refl _) _).trans (hbel.mono (by simp))
  obtain ⟨A1, c1, rfl, _, _⟩ := num_ok hv
  rw [HN.out] at hv ⊢
  clear hsz hbel
  go_wp2_with fail
  go_loopw [5, 6] (fun u5 u6 wr => ∃ (c f n2 cp : Nat) (A2 : Option Addr), u5 = .int .i64 f ∧ u6 = .slice A2 n2 cp ∧ f ≤ 9873 ∧ n2 ≤ 1024 ∧ Hid (f + 9 * c = 9873) ∧ Hid ((Nt.limbs (x / 10 ^ (9 * c))).length = n2) ∧ Hid (Kt.Num wr (w.heap.size + 1) (.slice A2 n2 cp) (x / 10 ^ (9 * c))) ∧ Kt.IBlk wr w.heap.size 61 .u8 (Ls.zeros f ++ Nt.lowd x (9 * c)) ∧ Below w.heap.size w wr) (fun u _ _ => (intOf u).toNat)
  case atStart => exact ⟨0, 9873, n, c1, A1, rfl, rfl, Nat.le_refl _, h1, Lib.hid rfl, Lib.hid (by simp [HN.out]), Lib.hid (by simpa using hv), by simpa [Nt.lowd] using hblk0, hb1⟩
  case round =>
    obtain ⟨c, f, n2, cp, A2, rfl, rfl, hf, hn2, hfc, hlen, hnum, hblk, hbel⟩ := hrel
    by_cases h0 : 0 < n2
    · obtain ⟨y, hy⟩ : ∃ y, Hid (x / 10 ^ (9 * c) = y) := ⟨_, Lib.hid rfl⟩
      rw [hy.out] at hlen hnum
      have hf9 : 9 ≤ f := by
        have hy0 : y ≠ 0 := fun e => by rw [e] at hlen; have := hlen.out; simp [Nt.limbs_zero] at this; omega
        have h2 : 10 ^ (9 * c) ≤ x := by
          rcases Nat.lt_or_ge x (10 ^ (9 * c)) with h | h
          · exact absurd (by rw [← hy.out]; exact Nat.div_eq_of_lt h) hy0
          · exact h
        have h3 : 9 * c < 9873 := by
          rcases Nat.lt_or_ge (9 * c) M with h | h
          · have := HM.out; omega
          · have h4 := Nat.pow_le_pow_right (show 0 < 10 by omega) h
            exact absurd (Nat.lt_of_lt_of_le HB.out (Nat.le_trans h4 h2)) (Nat.lt_irrefl _)
        have := hfc.out
        omega
      obtain ⟨g, cg, e, hcg, hlo, hrow⟩ := Kt.Row.at _ hnum.out (by have := hlen.out; omega)
      rw [hlen.out] at e hcg
      injection e with e1 e2 e3
      subst e1; subst e3
      clear e2
      go_wp2_with fail
      refine (divided_any g n2 cp (Nt.limbs y) 1000000000 _ hlen.out hrow (Nt.limbs_Ok y) (by omega) (by omega) (by omega)).mono ?_
      rw [Nt.V_limbs]
      rintro e w2 ⟨q, rfl, hlq, hoq, hvq, hrq, hbel2⟩
      have HLQ := Lib.hid hlq
      have HVQ := Lib.hid hvq
      have HOQ := Lib.hid hoq
      have hblk2 := hblk.below hbel2 (by omega)
      have hb2 : Below w.heap.size w w2 := hbel.trans (hbel2.mono (by omega))
      clear hlq hvq hoq hblk hbel hbel2 hrow
      have hch0 : 0 ≤ (y : Int) % 1000000000 := by omega
      have hch1 : (y : Int) % 1000000000 ≤ 999999999 := by omega
      obtain ⟨z, hzz⟩ : ∃ z, Hid ((y : Int) % 1000000000 = z) := ⟨_, Lib.hid rfl⟩
      rw [hzz.out] at hch0 hch1 ⊢
      obtain ⟨z, rfl⟩ := Int.eq_ofNat_of_zero_le hch0
      go_wp2_with fail
      go_loopw [5, 7, 20] (fun u5 u7 i wr => ∃ (t f2 : Nat) (ch : Nat), t ≤ 9 ∧ u5 = .int .i64 f2 ∧ u7 = .int .u32 ch ∧ i = .int .i64 t ∧ f2 ≤ f ∧ Hid (f2 + t = f) ∧ ch ≤ 999999999 ∧ Hid (ch = z / 10 ^ t) ∧ Kt.IBlk wr w.heap.size 61 .u8 (Ls.zeros f2 ++ Nt.lowd x (9 * c + t)) ∧ Kt.RowAt wr g .u32 q ∧ Below w.heap.size w wr) (fun _ _ i _ => 9 - (intOf i).toNat)
      case atStart => exact ⟨0, f, z, by omega, rfl, rfl, rfl, Nat.le_refl _, Lib.hid rfl, by omega, Lib.hid (by simp), hblk2, hrq, hb2⟩
      case round =>
        obtain ⟨t, f2, ch, ht, rfl, rfl, rfl, hf2, hft, hch, hcz, hblk3, hrq3, hb3⟩ := hrel
        by_cases hlt : t < 9
        · obtain ⟨f3, rfl⟩ : ∃ f3, f2 = f3 + 1 := ⟨f2 - 1, by have := hft.out; omega⟩
          rw [show (((f3 + 1 : Nat) : Int)) = (f3 : Int) + 1 from by omega]
          have hcell := hblk3.cell f3 (by rw [List.length_append, Ls.zeros_len]; omega)
          have hfr := hblk3.frozen f3
          have HD : Hid (48 + (ch : Int) % 10 = (48 + (x / 10 ^ (9 * c + t) % 10 : Nat) : Int)) := Lib.hid (by
            rw [← Nt.chunk_digit x c t hlt, hy.out, hcz.out]
            have e : z = y % 1000000000 := by have := hzz.out; omega
            rw [e]
            omega)
          go_wp2_with fail
          go_roundw
          case rel => exact ⟨t + 1, f3, ch / 10, by omega, by first | rfl | go_num, by first | rfl | go_num, by go_num, by omega, Lib.hid (by have := hft.out; omega), by omega, Lib.hid (by rw [hcz.out, Nat.div_div_eq_div_mul, Nat.pow_succ]), by rw [show 9 * c + (t + 1) = (9 * c + t) + 1 from rfl, Nt.lowd, ← HD.out, ← Nt.low_fill]; exact hblk3.set_ _ _, hrq3.far (by show g ≠ w.heap.size; omega) _, hb3.setCell (Nat.le_refl _) _⟩
          case measure => simp [intOf]; omega
        · obtain rfl : t = 9 := by omega
          go_wp2_with fail
          refine (trimmed_any _ n2 cp q _ HLQ.out hrq3.ints hcg (by omega)).mono ?_
          rintro e w' ⟨k, rfl, hk, hvt, hlt2, rfl⟩
          have e1 := Nt.limbs_take (n := y / 1000000000) HOQ.out (by rw [HVQ.out]; simp) (by rw [HLQ.out]; exact hk) hvt hlt2
          have e2 : y / 1000000000 = x / 10 ^ (9 * (c + 1)) := by rw [Nt.pow9, ← Nat.div_div_eq_div_mul, hy.out]
          rw [e2] at e1
          have hlen2 : (q.take k).length = k := by rw [List.length_take, HLQ.out]; omega
          have h5 := (hrq3.take k).row hlo k cp hlen2 (by omega)
          rw [← e1] at h5 hlen2
          have H5 := Lib.hid h5
          have HLEN2 := Lib.hid hlen2
          clear hvt hlt2 e1 e2 hlen2 h5
          go_wp2_with fail
          go_roundw
          case rel => exact ⟨c + 1, f2, k, cp, some ⟨g, 0, none⟩, rfl, rfl, by omega, by omega, Lib.hid (by have := hft.out; have := hfc.out; omega), HLEN2, Lib.hid H5.out, hblk3, hb3⟩
          case measure => simp [intOf]; have := hft.out; omega
    · obtain rfl : n2 = 0 := by omega
      have HZ : Hid (x < 10 ^ (9 * c)) := Lib.hid (by
        have h2 := (Nt.len_zero_iff _).1 hlen.out
        exact (Nat.div_eq_zero_iff_lt (Nat.pow_pos (by omega))).1 h2)
      obtain ⟨m, hm⟩ : ∃ m, Hid (9 * c = m) := ⟨_, Lib.hid rfl⟩
      rw [hm.out] at HZ hblk hfc
      clear hlen hnum
      have hfm := hfc.out
      have HFM := Lib.hid hfm
      have hm9 : m ≤ 9873 := by omega
      clear hfm
      go_wp2_with fail
      obtain ⟨wo, rfl⟩ : ∃ wo : World, wo = wr := ⟨_, rfl⟩
      go_loop [5] (fun u5 => ∃ f2 k : Nat, u5 = .int .i64 f2 ∧ f2 ≤ 9873 ∧ k ≤ m ∧ Hid (f2 + k = 9873) ∧ Hid (x < 10 ^ k)) (fun u5 => 9873 - (intOf u5).toNat)
      case atStart => exact ⟨f, m, rfl, hf, Nat.le_refl _, HFM, HZ⟩
      case round =>
        obtain ⟨f2, k, rfl, hf2, hkm, hfk, hxk⟩ := hrel
        by_cases hlt : f2 < 9873
        · have hk0 : 0 < k := by have := hfk.out; omega
          obtain ⟨k, rfl⟩ : ∃ j, k = j + 1 := ⟨k - 1, by omega⟩
          have hcell := hblk.cell f2 (by rw [List.length_append, Ls.zeros_len, Nt.lowd_len]; have := HFM.out; omega)
          rw [show f2 = f + m - (k + 1) from by have := HFM.out; have := hfk.out; omega, Nt.low_nth x f m (k + 1) hkm, show f + m - (k + 1) = f2 from by have := HFM.out; have := hfk.out; omega] at hcell
          obtain ⟨d, hd⟩ : ∃ d, Hid (Ls.nth (Nt.lowd x (k + 1)) 0 = d) := ⟨_, Lib.hid rfl⟩
          rw [hd.out] at hcell
          cases hdb : (d == 48)
          · have HT : Hid (10 ^ k ≤ x) := Lib.hid (Nt.lowd_top (by rw [hd.out]; simpa using hdb))
            have hne : ((f2 : Int) == 9873) = false := by simp; omega
            have hcv := conv_row wo w.heap.size f2 (k + 1) (k + 1) (Nt.lowd x (k + 1)) (Nt.lowd_len _ _) (Nt.lowd_bd _ _) (fun j hj => by
              rw [hblk.cell (f2 + j) (by rw [List.length_append, Ls.zeros_len, Nt.lowd_len]; have := HFM.out; have := hfk.out; omega)]
              rw [show f2 + j = f + m - (k + 1) + j from by have := HFM.out; have := hfk.out; omega, Nt.low_drop x f m (k + 1) hkm j hj])
            have hsl := slice_arr wo w.heap.size f2 (k + 1) hfk.out (by omega)
            go_wp2_with fail
            go_ret2
            exact ⟨ret_si (by rw [Nt.lowd_dec k x HT.out hxk.out]), hbel⟩
          · have HT : Hid (x < 10 ^ k) := Lib.hid (Nt.lowd_skip hxk.out (by rw [hd.out]; simpa using hdb))
            go_wp2_with fail
            go_round
            case rel => exact ⟨f2 + 1, k, by first | rfl | go_num, by omega, by omega, Lib.hid (by have := hfk.out; omega), HT⟩
            case measure => simp [intOf]; omega
        · obtain rfl : f2 = 9873 := by omega
          have HX0 : Hid (x = 0) := Lib.hid (by
            have e : k = 0 := by have := hfk.out; omega
            have h3 := hxk.out
            rw [e] at h3
            simpa using h3)
          go_wp2_with fail
          go_ret2
          exact ⟨ret_si (by rw [HX0.out, Lib.decDigits_one (by omega)]; rfl), hbel⟩

theorem text_num {w : World} {l1 : Nat} {u : Value} {x : Nat} (hx : Kt.Num w l1 u x) (h1 : (Nt.limbs x).length ≤ 1024) :
    Calls Try.prog 18 #[u] w fun e w' => e = .returned (.tuple #[.string ⟨(Lib.decDigits x).toArray⟩, .int .i64 0]) ∧ Below w.heap.size w w' := by
  obtain ⟨A, c, rfl, _, _⟩ := num_ok hx
  exact text_at x l1 A _ c w hx rfl h1

end Go.Proofs.Ytfjdhclpcbgdbaa
