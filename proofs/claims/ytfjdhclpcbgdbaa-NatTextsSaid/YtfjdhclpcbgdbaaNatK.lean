/- What Read of the number package returns for texts of at most 9865 bytes: its walk. -/
import Derived.Test.YtfjdhclpcbgdbaaNatJ
namespace Nt
open Go
theorem V_step {s : List Int} {i : Nat} {c t m A : Int} (hs : s.length = i) (h : V s + P i * c = A) (ht : t = m + c) :
    V (s ++ [t % 4294967296]) + P (i + 1) * (t / 4294967296) = A + P i * m := by
  rw [V_snoc, hs, P_succ]
  have e : P i * t = P i * (t % 4294967296) + 4294967296 * P i * (t / 4294967296) := by
    rw [Int.mul_comm 4294967296 (P i), Int.mul_assoc, ← Int.mul_add]
    congr 1
    omega
  subst ht
  rw [Int.mul_add] at e
  omega
theorem scale_step (l : List Int) (i : Nat) (wh c0 : Int) : V (l.take i) * wh + c0 + P i * (Ls.nth l i * wh) = V (l.take (i + 1)) * wh + c0 := by
  rw [V_take_nth, Int.add_mul, Int.mul_assoc]; omega
theorem over_set {s l : List Int} {i : Nat} (v : Int) (hs : s.length = i) (hi : i < l.length) : (s ++ l.drop i).set i v = (s ++ [v]) ++ l.drop (i + 1) := by
  rw [List.set_append_right _ _ (by omega), hs, Nat.sub_self, List.append_assoc]
  congr 1
  rw [List.drop_eq_getElem_cons hi]
  rfl
theorem over_len {s l : List Int} {i : Nat} (hs : s.length = i) (hi : i ≤ l.length) : (s ++ l.drop i).length = l.length := by
  rw [List.length_append, hs, List.length_drop]; omega
theorem over_nth {s l : List Int} {i : Nat} (hs : s.length = i) : Ls.nth (s ++ l.drop i) i = Ls.nth l i := by
  unfold Ls.nth
  rw [List.getD, List.getD, List.getElem?_append_right (by omega), hs, Nat.sub_self, List.getElem?_drop, Nat.add_zero]
theorem over_all {s l : List Int} : s ++ l.drop l.length = s := by simp
theorem R_of_low {l : List Int} (ho : Ok l) (h : l.length ≠ 0 → P (l.length - 1) ≤ V l) : R l := by
  refine ⟨ho, ?_⟩
  by_cases h0 : l.length = 0
  · exact .inl (List.eq_nil_of_length_eq_zero h0)
  · right
    intro e
    have h1 := h h0
    have h2 := V_take_all l l.length (Nat.le_refl _)
    have h3 := V_take l (l.length - 1) (by omega)
    rw [show l.length - 1 + 1 = l.length from by omega, h2, e, Int.mul_zero, Int.add_zero] at h3
    have h4 := V_lt (ho.take (l.length - 1))
    rw [List.length_take, Nat.min_eq_left (by omega)] at h4
    omega
theorem dv_take (s : ByteArray) (k : Nat) (h : k < s.size) : dv (s.data.toList.take (k + 1)) = 10 * dv (s.data.toList.take k) + (s[k].toNat - 48) := by
  rw [btake s k h, dv_snoc]
theorem tok_all {l : List UInt8} (h : tokB l = true) : ∀ c ∈ l, isDig c = true := by
  simp only [tokB, Bool.and_eq_true] at h
  exact List.all_eq_true.1 h.2
theorem tok_pos {l : List UInt8} (h : tokB l = true) : 0 < l.length := by
  simp only [tokB, Bool.and_eq_true, Bool.not_eq_true', List.isEmpty_eq_false_iff] at h
  exact List.length_pos_iff.2 h.1.1
theorem pow10_le (d k : Nat) (h : d ≤ k) : 10 ^ d ≤ 10 ^ k := Nat.pow_le_pow_right (by omega) h
theorem dv_len (l : List UInt8) (h : ∀ c ∈ l, isDig c = true) : (limbs (dv l)).length ≤ l.length := by
  rw [len_le_iff, P_pow]
  have h1 := dv_lt l h
  have h2 : 10 ^ l.length ≤ 2 ^ (32 * l.length) := by
    rw [Nat.pow_mul]
    exact Nat.pow_le_pow_left (by decide) _
  exact Int.ofNat_lt.2 (Nat.lt_of_lt_of_le h1 h2)
end Nt
namespace Go.Proofs.Ytfjdhclpcbgdbaa
open Go Go.RowKit

theorem own_set {w : World} {base : Nat} {T : TypeId} {k : IntKind} {g n c : Nat} {zs : List Int} (h : Kt.Own w base T k (.slice (some ⟨g, 0, none⟩) n c) zs) (j : Nat) (x : Int) :
    Kt.Own (w.setCell ⟨g, j, none⟩ (.int k x)) base T k (.slice (some ⟨g, 0, none⟩) n c) (zs.set j x) := by
  have e : zs.length = n := by
    have h' := h
    obtain ⟨_, h2⟩ := h'
    rcases h2 with ⟨hv, _⟩ | ⟨_, _, _, hv, _⟩
    · cases hv
    · injection hv with _ h3 _; exact h3.symm
  subst e
  have h1 := (World.ownsRow.stored h j (.int k x)).1
  unfold Kt.Own
  rw [List.length_set, List.map_set]
  exact h1

theorem read_bad (s : ByteArray) (w : World) (hs : s.size ≤ maxLen) (h : Nt.tokB s.data.toList = false) :
    Calls Try.prog 19 #[.string s] w fun e w' => e = .returned (.tuple #[.slice none 0 0, .int .i64 30]) ∧ Below w.heap.size w w' := by
  have H := Lib.hid h
  clear h
  go_enter Try.func19, Try.ntmps19
  go_wp2_with fail
  refine (textr_any s _ hs).mono ?_
  rw [H.out]
  rintro e w' ⟨rfl, rfl⟩
  go_wp2
  go_ret2
  exact ⟨rfl, Below.refl _ _⟩

set_option maxRecDepth 100000 in
set_option maxHeartbeats 4000000 in
theorem read_ok (s : ByteArray) (w : World) (hs : s.size ≤ 9865) (h : Nt.tokB s.data.toList = true) :
    Calls Try.prog 19 #[.string s] w (Got w (Nt.dv s.data.toList)) := by
  have H := Lib.hid h
  have HD := Lib.hid (Nt.tok_all h)
  have hpos : 0 < s.size := by have := Nt.tok_pos h; simpa using this
  clear h
  obtain ⟨i0, hi0, hz0, hz1, hz2⟩ := info_parts Try.infoU32
  have hlong : decide ((9865 : Int) < (s.size : Int)) = false := by simp; omega
  go_enter Try.func19, Try.ntmps19
  go_wp2_with fail
  refine (textr_any s _ (by unfold maxLen; omega)).mono ?_
  rw [H.out]
  rintro e w' ⟨rfl, rfl⟩
  go_wp2_with fail
  go_loopw [4, 5] (fun v i wr => ∃ (k n c : Nat) (A : Option Addr), k ≤ s.size ∧ i = .int .i64 k ∧ v = .slice A n c ∧ n ≤ k ∧ Hid ((Nt.limbs (Nt.dv (s.data.toList.take k))).length = n) ∧ Kt.Own wr w.heap.size 33 .u32 (.slice A n c) (Nt.limbs (Nt.dv (s.data.toList.take k))) ∧ Below w.heap.size w wr) (fun _ i _ => s.size - (intOf i).toNat)
  case atStart => exact ⟨0, 0, 0, none, Nat.zero_le _, rfl, rfl, Nat.le_refl _, Lib.hid rfl, Kt.Own.nil _ _ _ _, Below.refl _ _⟩
  case round =>
    obtain ⟨k, n, c, A, hk, rfl, rfl, hnk, hlen, hown, hbel⟩ := hrel
    by_cases hlt : k < s.size
    · obtain ⟨e, he⟩ : ∃ e : Nat, Hid ((k : Int) + ((s.size : Int) - (k : Int) - 1) % 9 + 1 = (e : Int)) := ⟨((k : Int) + ((s.size : Int) - (k : Int) - 1) % 9 + 1).toNat, Lib.hid (by omega)⟩
      have he1 : k < e := by have := he.out; omega
      have he2 : e ≤ k + 9 := by have := he.out; omega
      have he3 : e ≤ s.size := by have := he.out; omega
      obtain ⟨y, hy⟩ : ∃ y, Hid (Nt.dv (s.data.toList.take k) = y) := ⟨_, Lib.hid rfl⟩
      rw [hy.out] at hlen hown
      go_wp2_with fail
      rw [he.out]
      obtain ⟨wo, rfl⟩ : ∃ wo : World, wo = wr := ⟨_, rfl⟩
      go_loop [5, 7, 8] (fun i ch wh => ∃ (j cv wv : Nat), k ≤ j ∧ j ≤ e ∧ i = .int .i64 j ∧ ch = .int .u64 cv ∧ wh = .int .u64 wv ∧ cv < wv ∧ wv ≤ 1000000000 ∧ Hid (wv = 10 ^ (j - k)) ∧ Hid (Nt.dv (s.data.toList.take j) = y * wv + cv)) (fun i _ _ => e - (intOf i).toNat)
      case atStart => exact ⟨k, 0, 1, Nat.le_refl _, by omega, rfl, rfl, rfl, by omega, by omega, Lib.hid (by simp), Lib.hid (by rw [hy.out]; simp)⟩
      case round =>
        obtain ⟨j, cv, wv, hkj, hje, rfl, rfl, rfl, hcw, hw9, hwv, hdv⟩ := hrel
        by_cases hltj : j < e
        · have hjs : j < s.size := by omega
          have hdig := HD.out s[j] (by rw [Array.mem_toList_iff]; exact Array.getElem_mem _)
          simp only [Nt.isDig, decide_eq_true_eq] at hdig
          obtain ⟨hd0, hd1⟩ := hdig
          have hd2 : 48 ≤ (s[j].toNat : Int) := by omega
          have hd3 : (s[j].toNat : Int) ≤ 57 := by omega
          have hw8 : wv ≤ 100000000 := by rw [hwv.out]; exact Nt.pow10_le (j - k) 8 (by omega)
          have HT := Lib.hid (Nt.dv_take s j hjs)
          have hcast : ((s[j].toNat - 48 : Nat) : Int) = (s[j].toNat : Int) - 48 := by omega
          have HC := Lib.hid hcast
          clear hcast
          go_wp2_with fail
          go_round
          case rel => exact ⟨j + 1, cv * 10 + (s[j].toNat - 48), wv * 10, by omega, by omega, by go_num, by first | rfl | (congr 1; have := HC.out; omega), by first | rfl | go_num, by omega, by omega, Lib.hid (by rw [hwv.out, show j + 1 - k = (j - k) + 1 from by omega, Nat.pow_succ]), Lib.hid (by rw [HT.out, hdv.out, ← Nat.mul_assoc]; omega)⟩
          case measure => simp [intOf]; omega
        · obtain rfl : j = e := by omega
          have hw10 : 10 ≤ wv := by
            rw [hwv.out]
            have := Nt.pow10_le 1 (j - k) (by omega)
            simpa using this
          have HDV := hdv
          go_wp2_with fail
          go_loopw [7, 48] (fun ch i wr => ∃ (i2 cc : Nat) (q : List Int), i2 ≤ n ∧ i = .int .i64 i2 ∧ ch = .int .u64 cc ∧ cc ≤ 1000000000 ∧ Hid (q.length = i2) ∧ Hid (Nt.Ok q) ∧ Hid (Nt.V q + Nt.P i2 * cc = Nt.V ((Nt.limbs y).take i2) * wv + cv) ∧ Kt.Own wr w.heap.size 33 .u32 (.slice A n c) (q ++ (Nt.limbs y).drop i2) ∧ Below w.heap.size w wr) (fun _ i _ => n - (intOf i).toNat)
          case atStart => exact ⟨0, cv, [], Nat.zero_le _, rfl, rfl, by omega, Lib.hid rfl, Lib.hid Nt.Ok.nil, Lib.hid (by simp [Nt.V, Nt.P]), hown, hbel⟩
          case round =>
            obtain ⟨i2, cc, q, hi2, rfl, rfl, hcc, hlq, hoq, hvq, hown2, hbel2⟩ := hrel
            by_cases hlti : i2 < n
            · have hil : i2 < (Nt.limbs y).length := by rw [hlen.out]; exact hlti
              have hol := Nt.over_len (l := Nt.limbs y) hlq.out (by omega)
              obtain ⟨g, c2, e0, _, hbg, hgs, hcells, hfr0⟩ := hown2.block (by rw [hol, hlen.out]; omega)
              injection e0 with e1 e2 e3
              subst e1
              clear e2
              have hcell := hcells i2 (by rw [hol]; exact hil)
              rw [Nt.over_nth hlq.out] at hcell
              have hfr := hfr0 i2
              obtain ⟨x, hx⟩ : ∃ x, Hid (Ls.nth (Nt.limbs y) i2 = x) := ⟨_, Lib.hid rfl⟩
              have hxb := (Nt.limbs_Ok y).nth_any i2
              rw [hx.out] at hcell hxb
              obtain ⟨hx0, hx1⟩ := hxb
              have hp0 : 0 ≤ x * (wv : Int) := Int.mul_nonneg hx0 (by omega)
              have hp1 : x * (wv : Int) ≤ 4294967295 * 1000000000 := Int.mul_le_mul hx1 (by omega) (by omega) (by omega)
              have HOWN := Lib.hid hown2
              clear hcells hfr0 hol hown2 e3
              have hbs : w.heap.size ≤ g := hbg
              go_wp2_with fail
              go_roundw
              case rel => exact ⟨i2 + 1, ((x * (wv : Int) + cc) / 4294967296).toNat, q ++ [(x * (wv : Int) + cc) % 4294967296], by omega, by go_num, by congr 1; omega, by omega, Lib.hid (by rw [List.length_append, hlq.out]; rfl), Lib.hid (hoq.out.append (Nt.Ok.one (by omega) (by omega))), Lib.hid (by
                have h1 := Nt.V_step hlq.out hvq.out (t := x * (wv : Int) + cc) rfl
                rw [← hx.out, Nt.scale_step, hx.out] at h1
                rw [← h1]
                congr 2
                omega), by rw [← Nt.over_set _ hlq.out hil]; exact own_set HOWN.out _ _, hbel2.setCell hbs _⟩
              case measure => simp [intOf]; omega
            · obtain rfl : i2 = n := by omega
              have hq : q ++ (Nt.limbs y).drop i2 = q := by rw [List.drop_of_length_le (by rw [hlen.out]; exact Nat.le_refl _), List.append_nil]
              rw [hq] at hown2
              have hV : Nt.V q + Nt.P i2 * cc = ((Nt.dv (s.data.toList.take j) : Nat) : Int) := by
                rw [hvq.out, Nt.V_take_all _ _ (by rw [hlen.out]; exact Nat.le_refl _), Nt.V_limbs, hdv.out]
                simp
              have HV := Lib.hid hV
              have hlow : i2 ≠ 0 → Nt.P (i2 - 1) * 10 ≤ Nt.V q + Nt.P i2 * cc := fun hne => by
                have h1 := Nt.limbs_low (n := y) (by
                  intro e0
                  have := (Nt.len_zero_iff y).2 e0
                  have := hlen.out
                  omega)
                rw [hlen.out] at h1
                rw [hvq.out, Nt.V_take_all _ _ (by rw [hlen.out]; exact Nat.le_refl _), Nt.V_limbs]
                have h2 : Nt.P (i2 - 1) * 10 ≤ (y : Int) * wv := Int.mul_le_mul h1 (by omega) (by omega) (by omega)
                omega
              have HLOW := Lib.hid hlow
              clear hV hlow hq hlt
              by_cases hc0 : cc = 0
              · have hcb : ((cc : Int) != 0) = false := by simp [hc0]
                have HL : Hid (Nt.limbs (Nt.dv (s.data.toList.take j)) = q) := Lib.hid (by
                  have h1 := HV.out
                  rw [hc0] at h1
                  have h1' : Nt.V q = ((Nt.dv (s.data.toList.take j) : Nat) : Int) := by simpa using h1
                  refine Nt.limbs_of (Nt.R_of_low hoq.out (fun hne => ?_)) h1'
                  have h2 := HLOW.out (by rw [hlq.out] at hne; exact hne)
                  rw [HV.out, ← h1', ← hlq.out] at h2
                  have := Nt.P_pos (q.length - 1)
                  omega)
                have HC := Lib.hid hc0
                clear hc0
                go_wp2_with fail
                go_roundw
                case rel => exact ⟨j, i2, c, A, by omega, rfl, rfl, by omega, Lib.hid (by rw [HL.out]; exact hlq.out), by rw [HL.out]; exact hown2, hbel2⟩
                case measure => simp [intOf]; omega
              · have hcb : ((cc : Int) != 0) = true := by simp; omega
                have hown3 : wr.ownsRow w.heap.size 33 1 (.slice A i2 c) i2 (q.map (Value.int .u32)) := by have h1 := hown2; unfold Kt.Own at h1; rwa [hlq.out] at h1
                have HL : Hid (Nt.limbs (Nt.dv (s.data.toList.take j)) = q ++ [(cc : Int)]) := Lib.hid (by
                  refine Nt.limbs_of ⟨hoq.out.append (Nt.Ok.one (by omega) (by omega)), .inr ?_⟩ ?_
                  · rw [List.length_append, List.length_singleton, Nat.add_sub_cancel, Nt.nth_append_right _ _ _ (Nat.le_refl _), Nat.sub_self]
                    show (cc : Int) ≠ 0
                    omega
                  · rw [Nt.V_snoc, hlq.out]; exact HV.out)
                have hgrown : w.heap.size ≤ wr.heap.size := hbel2.size
                clear hc0 hown2
                go_wp2_with (at_builtin; refine wpList_append_own _ rfl (.tmp 69) (.tmp 72) 22 rfl w.heap.size 33 i0 (.int .u32 0) 1 4 Try.underlying22 hi0 hz0 hz1 hz2 rfl (by decide) _ _ _ rfl (hown3.alloc _) ⟨wr.heap.size, 0, none⟩ 1 1 [.int .u32 (cc : Int)] rfl rfl (Kt.cell_one _ _ _) (ints_oneCell .u32 [(cc : Int)]) (by unfold maxLen; omega) (by omega) (by simp; omega) ?_)
                intro v' w2 hown' hgrow _
                have hown4 : Kt.Own w2 w.heap.size 33 .u32 v' (q ++ [(cc : Int)]) := Kt.Own.snoc (by rw [hlq.out]; exact hown')
                have hb2 : Below w.heap.size w w2 := (hbel2.alloc hgrown _).grown hgrow (by simp; omega) (fun g hg => (World.ownsRow.lt hown3 g hg).1)
                obtain ⟨A5, c5, e5, _, _⟩ := hown4.shape
                have hl5 : (q ++ [(cc : Int)]).length = i2 + 1 := by rw [List.length_append, hlq.out]; rfl
                rw [hl5] at e5
                subst e5
                have HL5 := Lib.hid hl5
                clear hown' hgrow hown3 hl5
                go_wp2
                go_roundw
                case rel => exact ⟨j, i2 + 1, c5, A5, by omega, rfl, rfl, by omega, Lib.hid (by rw [HL.out]; exact HL5.out), by rw [HL.out]; exact hown4, hb2⟩
                case measure => simp [intOf]; omega
    · obtain rfl : k = s.size := by omega
      have hall : s.data.toList.take s.size = s.data.toList := List.take_of_length_le (by simp)
      rw [hall] at hlen hown
      have hrow := Kt.Row.of_own hown
      clear hall hown
      by_cases hfit : n ≤ 1024
      · go_wp2
        go_ret2
        exact ⟨.inl ⟨by rw [hlen.out]; exact hfit, _, rfl, hrow⟩, hbel⟩
      · go_wp2
        go_ret2
        exact ⟨.inr ⟨by rw [hlen.out]; omega, rfl⟩, hbel⟩

end Go.Proofs.Ytfjdhclpcbgdbaa
