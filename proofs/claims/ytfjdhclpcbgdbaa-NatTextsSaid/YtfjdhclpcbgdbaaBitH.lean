/- What the reference's divmod returns: the bits of a quotient, and of what is left. -/
import Derived.Test.YtfjdhclpcbgdbaaBitG
namespace Kt
open Go Go.RowKit
theorem Own.lit (w : World) (base : Nat) (T : TypeId) (k : IntKind) (zs : List Int) (n : Nat) (cs : Array Value) (hcs : cs = IArr k zs) (hn : zs.length = n) (hb : base ≤ w.heap.size) (hm : n ≤ maxLen) :
    Own (w.alloc (.cells cs T)) base T k (.slice (some ⟨w.heap.size, 0, none⟩) n n) zs := by
  subst hcs; subst hn
  refine ⟨by simp, .inr ⟨w.heap.size, zs.length, IArr k zs, rfl, hb, heap_alloc_new w _, Nat.le_refl _, hm, by simp [IArr], ?_⟩⟩
  rw [Nat.mul_one]
  simp [IArr]
  rw [List.take_of_length_le (by simp)]
theorem Row.far {w : World} {lo : Nat} {k : IntKind} {v : Value} {zs : List Int} (h : Row w lo k v zs) {p : Addr} (hp : p.block < lo) (u : Value) : Row (w.setCell p u) lo k v zs := by
  obtain ⟨A, c, e, hc, h0, hn⟩ := h
  refine ⟨A, c, e, hc, h0, fun hpos => ?_⟩
  obtain ⟨b, ha, h1, h2, h3, h4⟩ := hn hpos
  have hpb : b ≠ p.block := by omega
  exact ⟨b, ha, h1, by simpa using h2, fun j hj => by rw [World.cell?_setCell_other _ _ _ _ (fun e => hpb (by rw [e]))]; exact h3 j hj, fun j => by rw [World.frozen?_setCell]; exact h4 j⟩
end Kt
namespace Go.Proofs.Ytfjdhclpcbgdbaa
open Go Go.RowKit
section
variable {w : World} {l1 l2 : Nat} {u v : Value} {x y : Nat}
theorem rtrim_own {base : Nat} {T : TypeId} {bs : List Int} (h : Kt.Own w base T .i64 v bs) (ho : Bt.Ok bs) (hx : Bt.V bs = (x : Int)) (hl : bs.length ≤ 4611686018427387904) :
    Calls Try.prog 59 #[v] w fun e w' => ∃ r, e = .returned r ∧ Kt.Row w base .i64 r (Bt.limbs x) ∧ w = w' := by
  obtain ⟨A', c', rfl, hc', hi⟩ := Kt.Own.shape h
  refine (rtrim_any A' bs.length c' bs _ rfl hi hc' hl).mono ?_
  rintro e w' ⟨t, rfl, ht, hvt, hlt', rfl⟩
  exact ⟨_, rfl, own_cut h ho hx ht hvt hlt', rfl⟩
set_option maxHeartbeats 4000000 in
theorem rdivmod_val (hu : Kt.Row w l1 .i64 u (Bt.limbs x)) (hv : Kt.Row w l2 .i64 v (Bt.limbs y)) (hy : 0 < y) (h1 : (Bt.limbs x).length ≤ 90000) :
    Calls Try.prog 48 #[u, v] w fun e w' => ∃ q r, e = .returned (.tuple #[q, r]) ∧ Kt.Row w' w.heap.size .i64 q (Bt.limbs (x / y)) ∧ Kt.Row w' w.heap.size .i64 r (Bt.limbs (x % y)) ∧ Below w.heap.size w w' := by
  obtain ⟨A, n, ca, rfl, hn, _, ha⟩ := bits_at hu
  have hn1 : n ≤ 90000 := by have := hn.out; omega
  have HY := Lib.hid hy
  clear h1 hu hy
  obtain ⟨i0, hi0, hz0, hz1, hz2⟩ := info_parts Try.infoI64
  have hmk := fun W => Kt.run_make_ints (P := Try.prog) 74 3 i0 .i64 Try.underlying74 hi0 hz0 hz1 (by omega) n (by omega) W
  go_enter Try.func48, Try.ntmps48
  go_wp2_with fail
  clear hmk
  go_loopw [7, 8] (fun o i wr => ∃ (k r : Nat) (Q : List Int), k ≤ n ∧ i = .int .i64 ((k : Int) - 1) ∧ Kt.Row wr w.heap.size .i64 o (Bt.limbs r) ∧ Hid (r < y) ∧ Hid (r ≤ x) ∧ Kt.IBlk wr w.heap.size 3 .i64 Q ∧ Hid (Q.length = n) ∧ Hid (Bt.Ok Q) ∧ Hid (∀ j, j < k → Ls.nth Q j = 0) ∧ Hid (Bt.V (Q.drop k) * (y : Int) + (r : Int) = Bt.V ((Bt.limbs x).drop k)) ∧ Below w.heap.size w wr) (fun _ i _ => (intOf i + 1).toNat)
  case atStart => exact ⟨n, 0, Ls.zeros n, Nat.le_refl _, rfl, Kt.Row.nil _ _ _, Lib.hid HY.out, Lib.hid (Nat.zero_le _), Kt.IBlk.new' _ _ _ _ _ (by simp), Lib.hid (Ls.zeros_len n), Lib.hid (Bt.Ok.zeros n), Lib.hid (fun j _ => Bt.nth_zeros n j), Lib.hid (by rw [List.drop_of_length_le (by rw [Ls.zeros_len]; exact Nat.le_refl _), List.drop_of_length_le (by rw [hn.out]; exact Nat.le_refl _)]; simp [Bt.V]), (Below.refl _ _).alloc (by simp) _⟩
  case round =>
    obtain ⟨k, r, Q, hk, rfl, hrow, hry, hrx, hblk, hql, hqo, hq0, hdv, hbel⟩ := hrel
    by_cases h0 : 0 < k
    · obtain ⟨k, rfl⟩ : ∃ j, k = j + 1 := ⟨k - 1, by omega⟩
      rw [show ((k + 1 : Nat) : Int) - 1 = (k : Int) from by omega]
      obtain ⟨b, o, rfl, hb, hc⟩ := ha (by have := hn.out; omega)
      have hcell := (hbel.cell (p := ⟨b, o + k, none⟩) hb).trans (hc k (by have := hn.out; omega))
      clear hc
      obtain ⟨d, hd⟩ : ∃ d, Hid (Ls.nth (Bt.limbs x) k = d) := ⟨_, Lib.hid rfl⟩
      have hdb := (Bt.limbs_Ok x).nth_any k
      rw [hd.out] at hcell hdb
      obtain ⟨hd0, hd1⟩ := hdb
      obtain ⟨z, hz⟩ : ∃ z : Nat, d + 2 * (r : Int) = (z : Int) := ⟨(d + 2 * (r : Int)).toNat, by omega⟩
      have HZ := Lib.hid hz
      have HZ2 : Hid (z < 2 * y) := Lib.hid (by have := hry.out; omega)
      have HDV : Hid (Bt.V (Q.drop k) * (y : Int) + (z : Int) = Bt.V ((Bt.limbs x).drop k)) := Lib.hid (by
        have h8 := Bt.div_not (y := (y : Int)) (r := (r : Int)) (by rw [hn.out]; omega) (by rw [hql.out, hn.out]) hdv.out hd.out (hq0.out k (by omega))
        rw [show 2 * (r : Int) + d = (z : Int) from by omega] at h8; exact h8)
      have HDV1 : Hid (Bt.V ((Q.set k 1).drop k) * (y : Int) + ((z : Int) - (y : Int)) = Bt.V ((Bt.limbs x).drop k)) := Lib.hid (by
        have h8 := Bt.div_one (y := (y : Int)) (r := (r : Int)) (by rw [hn.out]; omega) (by rw [hql.out, hn.out]) hdv.out hd.out
        rw [show 2 * (r : Int) + d - (y : Int) = (z : Int) - (y : Int) from by omega] at h8; exact h8)
      have HZX : Hid (z ≤ x) := Lib.hid (by
        have h1 := Bt.V_drop_le x k
        have h2 := Bt.V_nonneg (hqo.out.drop k)
        have h3 : 0 ≤ Bt.V (Q.drop k) * (y : Int) := Int.mul_nonneg h2 (by omega)
        have := HDV.out; omega)
      have HOD : Hid (Bt.Ok (d :: Bt.limbs r)) := Lib.hid (Bt.Ok.cons (by omega) (by omega) (Bt.limbs_Ok r))
      clear hz
      have hlw : w.heap.size < wr.heap.size := hblk.lt
      have hown0 : Kt.Own (wr.alloc (.cells #[.int .i64 d] 3)) w.heap.size 3 .i64 (.slice (some ⟨wr.heap.size, 0, none⟩) 1 1) [d] := Kt.Own.lit _ _ _ _ _ _ _ rfl rfl (by omega) (by decide)
      obtain ⟨Br, cr, rfl, hcr, hnil, hir⟩ := hrow.ints
      obtain ⟨m, hm⟩ : ∃ m, Hid ((Bt.limbs r).length = m) := ⟨_, Lib.hid rfl⟩
      have hm9 : m ≤ 90000 := by rw [← hm.out]; have h2 := Bt.len_mono hrx.out; have := hn.out; omega
      rw [hm.out] at hcr ⊢
      cases Br with
      | none =>
        obtain rfl := hnil rfl
        obtain rfl : m = 0 := by omega
        have hr0 : Bt.limbs r = [] := List.eq_nil_of_length_eq_zero hm.out
        go_wp2_with (at_builtin; refine wpList_append_own_none rfl (.tmp 23) (.tmp 24) 74 rfl w.heap.size 3 i0 1 Try.underlying74 hi0 _ 1 [.int .i64 d] rfl hown0 rfl ?_)
        have hown4 : Kt.Own (wr.alloc (.cells #[.int .i64 d] 3)) w.heap.size 3 .i64 (.slice (some ⟨wr.heap.size, 0, none⟩) 1 1) (d :: Bt.limbs r) := by rw [hr0]; exact hown0
        have hbel3 : Below w.heap.size w (wr.alloc (.cells #[.int .i64 d] 3)) := hbel.alloc hbel.size _
        have hblk3 : Kt.IBlk (wr.alloc (.cells #[.int .i64 d] 3)) w.heap.size 3 .i64 Q := hblk.alloc (.cells #[.int .i64 d] 3)
        clear hr0 hown0
        generalize wr.alloc (.cells #[.int .i64 d] 3) = w3 at *
        have hrb : (Bt.limbs r).length ≤ 90000 := by have h2 := Bt.len_mono hrx.out; have := hn.out; omega
        clear hrow
        go_wp2_with fail
        refine (rtrim_own (x := z) hown4 HOD.out (by rw [Bt.V_ahead]; exact HZ.out) (by rw [List.length_cons]; omega)).mono ?_
        rintro e w' ⟨vt, rfl, hrow2, rfl⟩
        clear hown4
        go_wp2_with fail
        refine (rcmp_val hrow2 (hv.on hbel3) (by have h2 := Bt.len_mono HZX.out; have := hn.out; omega)).mono ?_
        rintro e w' ⟨rfl, nd, rfl⟩
        have hblk4 := hblk3.drewN nd
        by_cases hlt : z < y
        · rw [Bt.cmp_lt hlt]
          go_wp2_with fail
          go_roundw
          case rel => exact ⟨k, z, Q, by omega, rfl, hrow2.drewN nd, Lib.hid hlt, HZX, hblk4, hql, hqo, Lib.hid (fun j hj => hq0.out j (by omega)), HDV, Kt.below_drewN hbel3 nd⟩
          case measure => simp [intOf]
        · obtain ⟨cv, hcv⟩ : ∃ cv, Hid (Bt.cmpV z y = cv) := ⟨_, Lib.hid rfl⟩
          have hcv0 : 0 ≤ cv := by rw [← hcv.out]; unfold Bt.cmpV; rw [if_neg hlt]; split <;> omega
          rw [hcv.out]
          go_wp2_with fail
          refine (rsub_val (hrow2.drewN nd) ((hv.on hbel3).drewN nd) (by omega) (by have h2 := Bt.len_mono HZX.out; have := hn.out; omega)).mono ?_
          rintro e w5 ⟨r5, rfl, hr5, hb5⟩
          have hb6 := Kt.next (Kt.below_drewN hbel3 nd) hb5
          have hblk5 := hblk4.on hb5
          have hcell5 := hblk5.cell k (by rw [hql.out]; omega)
          have hfr5 := hblk5.frozen k
          have hgl := hblk5.lt
          go_wp2_with fail
          go_roundw
          case rel => exact ⟨k, z - y, Q.set k 1, by omega, rfl, (hr5.far (by show w.heap.size < w3.heap.size; exact hblk3.lt) _).less (Nat.le_of_lt hblk3.lt), Lib.hid (by have := HZ2.out; omega), Lib.hid (by have := HZX.out; omega), hblk5.set_ _ _, Lib.hid (by rw [List.length_set]; exact hql.out), Lib.hid (hqo.out.set _ (by omega) (by omega)), Lib.hid (fun j hj => by rw [Bt.nth_set_ne _ (by omega)]; exact hq0.out j (by omega)), Lib.hid (by have := HDV1.out; rw [show ((z - y : Nat) : Int) = (z : Int) - (y : Int) from by omega]; exact this), hb6.setCell (Nat.le_refl _) _⟩
          case measure => simp [intOf]
      | some ad =>
        have hnews := ints_news ((hir.on ((Below.refl _ _).alloc (Nat.le_refl _) (.cells #[.int .i64 d] 3))))
        go_wp2_with (at_builtin; refine wpList_append_own _ rfl (.tmp 23) (.tmp 24) 74 rfl w.heap.size 3 i0 (.int .i64 0) 1 8 Try.underlying74 hi0 hz0 hz1 hz2 rfl (by decide) _ 1 [.int .i64 d] rfl hown0 ad m cr ((Bt.limbs r).map (Value.int .i64)) rfl (by rw [List.length_map, hm.out, Nat.mul_one]) hnews (ints_oneCell .i64 (Bt.limbs r)) (by unfold maxLen; omega) (by omega) (by simp; omega) ?_)
        intro v' w3 hown3 hgrow _
        have hown4 : Kt.Own w3 w.heap.size 3 .i64 v' (d :: Bt.limbs r) := by
          unfold Kt.Own
          rw [List.length_cons, hm.out, Nat.add_comm]
          exact hown3
        have hbel3 : Below w.heap.size w w3 := (hbel.alloc hbel.size _).grown hgrow (by simp; omega) (fun g hg => Kt.own_block_ne hown0 _ hg)
        have hblk3 : Kt.IBlk w3 w.heap.size 3 .i64 Q := Kt.Blk.grown (hblk.alloc (.cells #[.int .i64 d] 3)) hgrow (by simp [Value.ownBlock]; omega)
        clear hown3 hgrow hown0 hnews
        have hrb : (Bt.limbs r).length ≤ 90000 := by have h2 := Bt.len_mono hrx.out; have := hn.out; omega
        clear hrow
        go_wp2_with fail
        refine (rtrim_own (x := z) hown4 HOD.out (by rw [Bt.V_ahead]; exact HZ.out) (by rw [List.length_cons]; omega)).mono ?_
        rintro e w' ⟨vt, rfl, hrow2, rfl⟩
        clear hown4
        go_wp2_with fail
        refine (rcmp_val hrow2 (hv.on hbel3) (by have h2 := Bt.len_mono HZX.out; have := hn.out; omega)).mono ?_
        rintro e w' ⟨rfl, nd, rfl⟩
        have hblk4 := hblk3.drewN nd
        by_cases hlt : z < y
        · rw [Bt.cmp_lt hlt]
          go_wp2_with fail
          go_roundw
          case rel => exact ⟨k, z, Q, by omega, rfl, hrow2.drewN nd, Lib.hid hlt, HZX, hblk4, hql, hqo, Lib.hid (fun j hj => hq0.out j (by omega)), HDV, Kt.below_drewN hbel3 nd⟩
          case measure => simp [intOf]
        · obtain ⟨cv, hcv⟩ : ∃ cv, Hid (Bt.cmpV z y = cv) := ⟨_, Lib.hid rfl⟩
          have hcv0 : 0 ≤ cv := by rw [← hcv.out]; unfold Bt.cmpV; rw [if_neg hlt]; split <;> omega
          rw [hcv.out]
          go_wp2_with fail
          refine (rsub_val (hrow2.drewN nd) ((hv.on hbel3).drewN nd) (by omega) (by have h2 := Bt.len_mono HZX.out; have := hn.out; omega)).mono ?_
          rintro e w5 ⟨r5, rfl, hr5, hb5⟩
          have hb6 := Kt.next (Kt.below_drewN hbel3 nd) hb5
          have hblk5 := hblk4.on hb5
          have hcell5 := hblk5.cell k (by rw [hql.out]; omega)
          have hfr5 := hblk5.frozen k
          have hgl := hblk5.lt
          go_wp2_with fail
          go_roundw
          case rel => exact ⟨k, z - y, Q.set k 1, by omega, rfl, (hr5.far (by show w.heap.size < w3.heap.size; exact hblk3.lt) _).less (Nat.le_of_lt hblk3.lt), Lib.hid (by have := HZ2.out; omega), Lib.hid (by have := HZX.out; omega), hblk5.set_ _ _, Lib.hid (by rw [List.length_set]; exact hql.out), Lib.hid (hqo.out.set _ (by omega) (by omega)), Lib.hid (fun j hj => by rw [Bt.nth_set_ne _ (by omega)]; exact hq0.out j (by omega)), Lib.hid (by have := HDV1.out; rw [show ((z - y : Nat) : Int) = (z : Int) - (y : Int) from by omega]; exact this), hb6.setCell (Nat.le_refl _) _⟩
          case measure => simp [intOf]
    · obtain rfl : k = 0 := by omega
      have hdv2 := hdv.out
      rw [List.drop_zero, List.drop_zero, Bt.V_limbs] at hdv2
      have HQR := Lib.hid (Bt.div_all hqo.out hdv2 hry.out)
      clear hdv2
      go_wp2_with fail
      refine (rtrim_any (some ⟨w.heap.size, 0, none⟩) n n Q _ hql.out hblk.ints (Nat.le_refl _) (by omega)).mono ?_
      rintro e w' ⟨tt, rfl, ht, hvt, hlt', rfl⟩
      have e1 := Bt.limbs_take hqo.out HQR.out.1 (by rw [hql.out]; exact ht) hvt hlt'
      have hrq : Kt.Row wr w.heap.size .i64 (.slice (some ⟨w.heap.size, 0, none⟩) tt n) (Bt.limbs (x / y)) := by
        rw [e1]
        exact Kt.Row.of_blk hblk (Nat.le_refl _) tt n (by rw [List.length_take, hql.out]; omega) rfl ht (by rw [hql.out]; exact ht)
      have hrr := hrow
      rw [HQR.out.2] at hrr
      clear hvt hlt' e1
      go_wp2_with fail
      go_ret2
      exact ⟨_, _, rfl, hrq, hrr, hbel⟩
end
end Go.Proofs.Ytfjdhclpcbgdbaa
