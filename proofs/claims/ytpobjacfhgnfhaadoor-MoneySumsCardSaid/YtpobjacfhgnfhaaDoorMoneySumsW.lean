/- The walk of MoneySums. -/
import Derived.Test.YtpobjacfhgnfhaaDoorSumsM
namespace Go.Proofs.YtpobjacfhgnfhaaDoor
open Go Go.RowKit

theorem sum_valn (A : Option Addr) (n cp : Nat) (zs : List Int) (v e0 : Int) (w : World) (hl : zs.length = n) (hz : Kt.Ints w w.heap.size .i64 A zs) (hn : n ≤ 4096) (hv : sumV zs = v) (he : sumE zs = e0) :
    Calls Tryd.prog 20 #[.slice A n cp] w fun e w' => e = .returned (.tuple #[.int .i64 v, .int .i64 e0]) ∧ w = w' := by
  subst hl
  exact sum_val A cp zs v e0 w hz hn hv he

set_option maxRecDepth 100000 in
set_option maxHeartbeats 8000000 in
theorem walk_MoneySums (w : World) (A : Option Addr) (cp : Nat) (l : List Int) (_hlc : l.length ≤ cp) (_hcm : cp ≤ maxLen) (hz : Kt.Ints w w.heap.size .i64 A l) (_hw : ∀ x ∈ l, (Lit.int .i64 x).wf = true) (hn : l.length * 8 ≤ 140737488351232)
    (cut : Int) (wcut : (Lit.int .u16 cut).wf = true) (ht : Tab w) :
    Calls Tryd.prog 9 #[.slice A l.length cp, .int .u16 cut] w fun e w' => e = .returned (.bool true) ∧ Below w.heap.size w w' := by
  have HT := Lib.hid ht
  clear ht
  have hcut : 0 ≤ cut ∧ cut ≤ 65535 := by
    have hmin : IntKind.u16.min = 0 := rfl
    have hmax : IntKind.u16.max = 65535 := rfl
    simp only [Lit.wf, Bool.and_eq_true, decide_eq_true_eq] at wcut
    omega
  clear wcut
  obtain ⟨hcut1, hcut2⟩ := hcut
  obtain ⟨i0, hi0, hz0, hz1, hz2⟩ := info_parts Tryd.infoInt
  go_enter Tryd.func9, Tryd.ntmps9
  go_wp2_with fail
  refine (awake_any _ HT.out).mono ?_
  rintro e w0 ⟨rfl, hb0⟩
  have hz' := hz.on hb0
  clear hz
  go_wp2_with fail
  go_loopw [5, 7] (fun v i wr => ∃ k : Nat, k ≤ l.length ∧ k ≤ 4096 ∧ i = .int .i64 k ∧ Kt.Own wr w0.heap.size 3 .i64 v ((ams l).take k) ∧ Below w0.heap.size w0 wr ∧ Hid (k = 0 → v = .slice none 0 0)) (fun _ i _ => l.length - (intOf i).toNat)
  case atStart => exact ⟨0, Nat.zero_le _, by omega, rfl, Kt.Own.nil _ _ _ _, Below.refl _ _, Lib.hid (fun _ => rfl)⟩
  case round =>
    obtain ⟨k, hk, hk2, rfl, hown, hbel, hnil⟩ := hrel
    by_cases hlt : k < l.length ∧ k < 4096
    · obtain ⟨hlt, hlt2⟩ := hlt
      obtain ⟨b, off, rfl, hb, hc⟩ := hz' (by omega)
      have hcell := (hbel.cell (p := ⟨b, off + k, none⟩) hb).trans (hc k hlt)
      have hlen : ((ams l).take k).length = k := by rw [List.length_take, ams_len]; omega
      have HN := Lib.hid (ams_nth l k hlt hlt2)
      have hlw : k < (ams l).length := by rw [ams_len]; omega
      have HT1 := Lib.hid (Ls.take_nth (ams l) k hlw)
      have HLEN := Lib.hid hlen
      have hgrown : w0.heap.size ≤ wr.heap.size := hbel.size
      have hown2 : wr.ownsRow w0.heap.size 3 1 u5 k (((ams l).take k).map (Value.int .i64)) := by have := hown; unfold Kt.Own at this; rwa [hlen] at this
      clear hc hlen hlw hnil
      go_wp2_with fail
      refine (amount_any (Ls.nth l k) _).mono ?_
      rintro e w' ⟨rfl, rfl⟩
      go_wp2_with (at_builtin; refine wpList_append_own _ rfl (.tmp 32) (.tmp 38) 33 rfl w0.heap.size 3 i0 (.int .i64 0) 1 8 Tryd.underlying33 hi0 hz0 hz1 hz2 rfl (by decide) _ _ _ rfl (hown2.alloc _) ⟨wr.heap.size, 0, none⟩ 1 1 [.int .i64 (amountOf (Ls.nth l k))] rfl rfl (Kt.cell_one _ _ _) (ints_oneCell .i64 [amountOf (Ls.nth l k)]) (by unfold maxLen; omega) (by omega) (by simp; omega) ?_)
      intro v' w1 hown' hgrow _
      have hown3 : Kt.Own w1 w0.heap.size 3 .i64 v' ((ams l).take (k + 1)) := by
        rw [HT1.out, HN.out]
        apply Kt.Own.snoc
        rw [HLEN.out, List.map_take]
        exact hown'
      have hbel1 : Below w0.heap.size w0 w1 := (hbel.alloc hgrown _).grown hgrow (by simp; omega) (fun g hg => Kt.own_block_ne hown g hg)
      clear hown' hgrow hown hown2 hcell hbel
      go_wp2
      go_roundw
      case rel => exact ⟨k + 1, by omega, by omega, by go_num, hown3, hbel1, Lib.hid (fun h => by omega)⟩
      case measure => simp [intOf]; omega
    · have hkk : k = min 4096 l.length := by omega
      have HA : Hid ((ams l).take k = ams l) := Lib.hid (List.take_of_length_le (by rw [ams_len]; omega))
      rw [HA.out] at hown
      have hlen : (ams l).length = k := by rw [ams_len]; omega
      have hall := ams_all l
      obtain ⟨xs, HX⟩ : ∃ xs, Hid (ams l = xs) := ⟨_, Lib.hid rfl⟩
      rw [HX.out] at hown hlen hall
      have HALL := Lib.hid hall
      have hbw : Below w.heap.size w wr := Kt.next hb0 hbel
      obtain ⟨wx, rfl⟩ : ∃ wx : World, wx = wr := ⟨_, rfl⟩
      clear hall hkk hbel hb0 hz'
      by_cases h0 : k = 0
      · obtain rfl := h0
        rw [hnil.out rfl]
        have hx0 : xs = [] := List.eq_nil_of_length_eq_zero hlen
        subst hx0
        clear hnil hown hlen HA
        go_wp2_with fail
        refine wp_loop_rounds 1 ?_
        rw [rounds_succ]
        go_wp2_with fail
        refine (sum_valn none 0 0 [] 0 0 _ rfl Kt.Ints.nil (by omega) (by decide) (by decide)).mono ?_
        rintro e w' ⟨rfl, rfl⟩
        go_wp2_with fail
        refine (sum_valn none 0 0 [] 0 0 _ rfl Kt.Ints.nil (by omega) (by decide) (by decide)).mono ?_
        rintro e w' ⟨rfl, rfl⟩
        go_wp2_with fail
        refine (pick_val cut 1 0 _ (by omega) (by omega) (by omega)).mono ?_
        rintro e w' ⟨rfl, rfl⟩
        go_wp2_with fail
        refine (sum_valn none 0 0 [] 0 0 _ rfl Kt.Ints.nil (by omega) (by decide) (by decide)).mono ?_
        rintro e w' ⟨rfl, rfl⟩
        go_wp2_with fail
        refine (sum_valn none 0 0 [] 0 0 _ rfl Kt.Ints.nil (by omega) (by decide) (by decide)).mono ?_
        rintro e w' ⟨rfl, rfl⟩
        go_wp2_with fail
        refine (add_val 0 0 0 0 _ (by decide) (by decide)).mono ?_
        rintro e w1 ⟨rfl, hb1⟩
        go_wp2
        go_ret
        exact ⟨rfl, Kt.next hbw hb1⟩
      · have hpos : 0 < xs.length := by omega
        obtain ⟨g, c, hv, hgc, hgb, hgl, hcells, hfz⟩ := hown.block hpos
        rw [hv]
        have hints : Kt.Ints wx wx.heap.size .i64 (some ⟨g, 0, none⟩) xs := fun _ => ⟨g, 0, rfl, hgl, fun j hj => by rw [Nat.zero_add]; exact hcells j hj⟩
        obtain ⟨n, HNL⟩ : ∃ n, Hid (xs.length = n) := ⟨_, Lib.hid rfl⟩
        have hn1 : 1 ≤ n := by have := HNL.out; omega
        have hn2 : n ≤ 4096 := by have := HNL.out; omega
        rw [HNL.out] at hgc
        rw [HNL.out]
        clear hnil hown hlen HA hv hcells hfz hpos h0
        by_cases hb2 : k < l.length <;> (
        go_wp2_with fail
        clear hlt hk hk2 hb2
        go_loopw [6, 42] (fun v i wr => ∃ k : Nat, k ≤ n ∧ i = .int .i64 k ∧ Kt.Own wr wx.heap.size 3 .i64 v (xs.reverse.take k) ∧ Below wx.heap.size wx wr) (fun _ i _ => n - (intOf i).toNat)
        case atStart => exact ⟨0, Nat.zero_le _, rfl, Kt.Own.nil _ _ _ _, Below.refl _ _⟩
        case round =>
          obtain ⟨k, hk, rfl, hown, hbel⟩ := hrel
          have hrl : Hid (xs.reverse.length = n) := Lib.hid (by rw [List.length_reverse]; exact HNL.out)
          by_cases hlt : k < n
          · obtain ⟨b, off, e0, hb, hc⟩ := hints (by have := HNL.out; omega)
            injection e0 with e0
            injection e0 with e1 e2 _
            subst e1; subst e2
            have hcell := (hbel.cell (p := ⟨g, 0 + (n - 1 - k), none⟩) hb).trans (hc (n - 1 - k) (by have := HNL.out; omega))
            rw [Nat.zero_add] at hcell
            have hlen : (xs.reverse.take k).length = k := by rw [List.length_take]; have := hrl.out; omega
            have HN : Hid (Ls.nth xs.reverse k = Ls.nth xs (n - 1 - k)) := Lib.hid (by rw [rev_nth xs k (by have := HNL.out; omega), HNL.out])
            have HT1 := Lib.hid (Ls.take_nth xs.reverse k (by have := hrl.out; omega))
            have HLEN := Lib.hid hlen
            have hgrown : wx.heap.size ≤ wr.heap.size := hbel.size
            have hown2 : wr.ownsRow wx.heap.size 3 1 u6 k ((xs.reverse.take k).map (Value.int .i64)) := by have := hown; unfold Kt.Own at this; rwa [hlen] at this
            have ecast : ((n : Int) - 1 - (k : Int)).toNat = n - 1 - k := by omega
            clear hc hlen
            go_wp2_with (at_builtin; refine wpList_append_own _ rfl (.tmp 45) (.tmp 54) 33 rfl wx.heap.size 3 i0 (.int .i64 0) 1 8 Tryd.underlying33 hi0 hz0 hz1 hz2 rfl (by decide) _ _ _ rfl (hown2.alloc _) ⟨wr.heap.size, 0, none⟩ 1 1 [.int .i64 (Ls.nth xs (n - 1 - k))] rfl rfl (Kt.cell_one _ _ _) (ints_oneCell .i64 [Ls.nth xs (n - 1 - k)]) (by unfold maxLen; omega) (by omega) (by simp; omega) ?_)
            intro v' w1 hown' hgrow _
            have hown3 : Kt.Own w1 wx.heap.size 3 .i64 v' (xs.reverse.take (k + 1)) := by
              rw [HT1.out, HN.out]
              apply Kt.Own.snoc
              have ex : (xs.reverse.take k).map (Value.int .i64) = List.take k (xs.map (Value.int .i64)).reverse := by rw [List.map_take, List.map_reverse]
              rw [HLEN.out, ex]
              exact hown'
            have hbel1 : Below wx.heap.size wx w1 := (hbel.alloc hgrown _).grown hgrow (by simp; omega) (fun g hg => Kt.own_block_ne hown g hg)
            clear hown' hgrow hown hown2 hcell hbel
            go_wp2
            go_roundw
            case rel => exact ⟨k + 1, by omega, by go_num, hown3, hbel1⟩
            case measure => simp [intOf]; omega
          · obtain rfl : k = n := by omega
            have HA : Hid (xs.reverse.take k = xs.reverse) := Lib.hid (List.take_of_length_le (by have := hrl.out; omega))
            rw [HA.out] at hown
            obtain ⟨A2, c2, hv2, _, hi2⟩ := hown.shape
            rw [hrl.out] at hv2
            rw [hv2]
            have hints2 := hints.on hbel
            have hbw2 : Below w.heap.size w wr := Kt.next hbw hbel
            clear hown hv2 hints hbel hbw hlt
            have hi3 := hi2
            clear hi2
            obtain ⟨hrv, hre⟩ := sum_rev HALL.out
            obtain ⟨v, e, hv, he, hcase⟩ : ∃ v e, sumV xs = v ∧ sumE xs = e ∧ (e = 0 ∨ (e = 3 ∧ v = 0)) := ⟨_, _, rfl, rfl, by rcases sum_cases HALL.out with ⟨a, _, _⟩ | ⟨a, b, _⟩ <;> simp_all⟩
            rw [hv] at hrv
            rw [he] at hre
            obtain ⟨p, hp⟩ : ∃ p : Nat, cut % ((k : Int) + 1) = p := ⟨(cut % ((k : Int) + 1)).toNat, by have := Int.emod_nonneg cut (show ((k : Int) + 1) ≠ 0 by omega); omega⟩
            have hpk : p ≤ k := by have := Int.emod_lt_of_pos cut (show 0 < ((k : Int) + 1) by omega); omega
            have hpc : p ≤ c := by omega
            obtain ⟨v1, e1, hv1, he1, hc1⟩ : ∃ v1 e1, sumV (xs.take p) = v1 ∧ sumE (xs.take p) = e1 ∧ (e1 = 0 ∨ e1 = 3) := ⟨_, _, rfl, rfl, by rcases sum_cases (all_sub HALL.out (ys := xs.take p) fun x hx => List.mem_of_mem_take hx) with ⟨a, _, _⟩ | ⟨a, _, _⟩ <;> simp [a]⟩
            obtain ⟨v2, e2, hv2', he2, hc2⟩ : ∃ v2 e2, sumV (xs.drop p) = v2 ∧ sumE (xs.drop p) = e2 ∧ (e2 = 0 ∨ e2 = 3) := ⟨_, _, rfl, rfl, by rcases sum_cases (all_sub HALL.out (ys := xs.drop p) fun x hx => List.mem_of_mem_drop hx) with ⟨a, _, _⟩ | ⟨a, _, _⟩ <;> simp [a]⟩
            have HP : e1 = 0 → e2 = 0 → sumV [v1, v2] = v ∧ sumE [v1, v2] = e := fun a b => by
              subst a; subst b
              have := sum_parts HALL.out p he1 he2
              rw [hv1, hv2', hv, he] at this
              exact this
            have hv := Lib.hid hv
            have he := Lib.hid he
            have hrv := Lib.hid hrv
            have hre := Lib.hid hre
            have hv1 := Lib.hid hv1
            have he1 := Lib.hid he1
            have hv2' := Lib.hid hv2'
            have he2 := Lib.hid he2
            have HP := Lib.hid HP
            have hp := Lib.hid hp
            rcases hcase with rfl | ⟨rfl, rfl⟩ <;> rcases hc1 with rfl | rfl <;> rcases hc2 with rfl | rfl <;> (
            go_wp2_with fail
            refine (sum_valn (some ⟨g, 0, none⟩) k c xs _ _ _ HNL.out hints2 hn2 hv.out he.out).mono ?_
            rintro e w' ⟨rfl, rfl⟩
            go_wp2_with fail
            refine (sum_valn A2 k c2 xs.reverse _ _ _ hrl.out hi3 hn2 hrv.out hre.out).mono ?_
            rintro e w' ⟨rfl, rfl⟩
            go_wp2_with fail
            refine (pick_val cut (k + 1) p _ (by omega) (by omega) hp.out).mono ?_
            rintro e w' ⟨rfl, rfl⟩
            go_wp2_with fail
            refine (sum_valn (some ⟨g, 0, none⟩) p c (xs.take p) _ _ _ (by rw [List.length_take, HNL.out]; omega) (ints_take hints2 p) (by omega) hv1.out he1.out).mono ?_
            rintro e w' ⟨rfl, rfl⟩
            by_cases hcp : c = p
            · have hkp : k = p := by omega
              go_wp2_with fail
              refine (sum_valn (some ⟨g, 0, none⟩) 0 0 (xs.drop p) _ _ _ (by rw [List.length_drop, HNL.out]; omega) (ints_empty (by rw [List.length_drop, HNL.out]; omega)) (by omega) hv2'.out he2.out).mono ?_
              rintro e w' ⟨rfl, rfl⟩
              go_wp2_with fail
              first
                | (go_ret
                   exact ⟨rfl, hbw2⟩)
                | (refine (add_val v1 v2 _ _ _ (HP.out (by trivial) (by trivial)).1 (HP.out (by trivial) (by trivial)).2).mono ?_
                   rintro e w1 ⟨rfl, hb1⟩
                   go_wp2
                   go_ret
                   exact ⟨rfl, Kt.next hbw2 hb1⟩)
            · go_wp2_with fail
              have hid3 := ints_drop hints2 p
              rw [Nat.zero_add] at hid3
              refine (sum_valn (some ⟨g, p, none⟩) (k - p) (c - p) (xs.drop p) _ _ _ (by rw [List.length_drop, HNL.out]) hid3 (by omega) hv2'.out he2.out).mono ?_
              rintro e w' ⟨rfl, rfl⟩
              go_wp2_with fail
              first
                | (go_ret
                   exact ⟨rfl, hbw2⟩)
                | (refine (add_val v1 v2 _ _ _ (HP.out (by trivial) (by trivial)).1 (HP.out (by trivial) (by trivial)).2).mono ?_
                   rintro e w1 ⟨rfl, hb1⟩
                   go_wp2
                   go_ret
                   exact ⟨rfl, Kt.next hbw2 hb1⟩)))

end Go.Proofs.YtpobjacfhgnfhaaDoor
