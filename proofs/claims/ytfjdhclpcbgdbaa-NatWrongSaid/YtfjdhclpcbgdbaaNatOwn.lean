/- CopyLimbs and number once more: their results are slices of the call's own, to which may be appended. -/
import Derived.Test.YtfjdhclpcbgdbaaNatE
namespace Go.Proofs.Ytfjdhclpcbgdbaa
open Go Go.RowKit
theorem copyl_own (A : Option Addr) (n cp : Nat) (l : List Int) (w : World) (hl : l.length = n) (hz : Kt.Ints w w.heap.size .u32 A l) (hA : A = none → n = 0 ∧ cp = 0) (hn : n * 4 ≤ 140737488351232) :
    Calls Try.prog 31 #[.slice A n cp] w fun e w' => ∃ v, e = .returned v ∧ Kt.Own w' w.heap.size 33 .u32 v l ∧ Below w.heap.size w w' := by
  subst hl
  obtain ⟨i0, hi0, hz0, hz1, hz2⟩ := info_parts Try.infoU32
  cases A with
  | none =>
    obtain ⟨h0, rfl⟩ := hA rfl
    have e : l = [] := List.eq_nil_of_length_eq_zero h0
    subst e
    go_enter Try.func31, Try.ntmps31
    go_wp2_with (at_builtin; refine wpList_append_own_none rfl (.tmp 4) (.tmp 5) 22 rfl w.heap.size 33 i0 1 Try.underlying22 hi0 _ 0 [] rfl (World.ownsRow_nil _ _ _ _) rfl ?_)
    go_wp2
    go_ret
    exact ⟨_, rfl, Kt.Own.nil _ _ _ _, Below.refl _ _⟩
  | some a =>
    have hnews := ints_news hz
    go_enter Try.func31, Try.ntmps31
    go_wp2_with (at_builtin; refine wpList_append_own _ rfl (.tmp 4) (.tmp 5) 22 rfl w.heap.size 33 i0 (.int .u32 0) 1 4 Try.underlying22 hi0 hz0 hz1 hz2 rfl (by decide) _ 0 [] rfl (World.ownsRow_nil _ _ _ _) a l.length cp (l.map (Value.int .u32)) rfl (by simp) hnews (ints_oneCell .u32 l) (by unfold maxLen; omega) (by omega) (Nat.le_refl _) ?_)
    intro v' w1 hown hgrow _
    try simp only [Nat.zero_add, List.nil_append] at hown
    have hr : Kt.Own w1 w.heap.size 33 .u32 v' l := hown
    have hb : Below w.heap.size w w1 := (Below.refl _ _).grown hgrow (Nat.le_refl _) (fun g hg => by simp [Value.ownBlock] at hg)
    clear hown hgrow hnews
    go_wp2
    go_ret
    exact ⟨v', rfl, hr, hb⟩
set_option maxHeartbeats 400000 in
theorem number_own_at (A : Option Addr) (n cp : Nat) (l : List Int) (q r : Nat) (w : World) (hl : l.length = n) (hz : Kt.Ints w w.heap.size .u32 A l) (hA : A = none → cp = 0) (hcp : n ≤ cp) (hok : Nt.Ok l) (hn : n * 4 ≤ 140737488351232) (hq : q ≤ 1024) (hr : r ≤ n) (hrq : r ≤ q) (hmin : (n ≤ q ∧ n = r) ∨ (q < n ∧ q = r)) :
    Calls Try.prog 14 #[.slice A n cp, .int .i64 q] w fun e w' => ∃ v x, e = .returned v ∧ Kt.Own w' w.heap.size 33 .u32 v (Nt.limbs x) ∧ (Nt.limbs x).length ≤ q ∧ Below w.heap.size w w' := by
  have hk : Nt.Ok (l.take r) := hok.take r
  have hv := Nt.V_nonneg hk
  obtain ⟨x, HX⟩ : ∃ x : Nat, Hid (Nt.V (l.take r) = (x : Int)) := ⟨(Nt.V (l.take r)).toNat, Lib.hid (by omega)⟩
  have HL : Hid ((l.take r).length = r) := Lib.hid (by rw [List.length_take]; omega)
  have hz2 := ints_take hz r (by omega)
  have HO := Lib.hid hk
  have HA := Lib.hid hA
  clear hv hk hz hl hA hok
  generalize l.take r = l at HX HL HO hz2
  rcases hmin with ⟨h1, h2⟩ | ⟨h1, h2⟩
  all_goals
    have H2 := Lib.hid h2
    clear h2
    go_enter Try.func14, Try.ntmps14
    go_wp2_with fail
    go_loop [0] (fun v => ∃ k : Nat, k ≤ r ∧ v = .slice A k cp ∧ Hid (Nt.V (l.take k) = Nt.V l)) (fun v => match v with | .slice _ k _ => k | _ => 0)
    case atStart => exact ⟨r, Nat.le_refl _, by rw [H2.out], Lib.hid (by rw [Nt.V_take_all _ _ (by rw [HL.out]; exact Nat.le_refl _)])⟩
    case round =>
      obtain ⟨k, hk, rfl, hv⟩ := hrel
      have hfin : (k = 0 ∨ Ls.nth l (k - 1) ≠ 0) → Calls Try.prog 31 #[.slice A k cp] w fun e w' => ∃ v, e = .returned v ∧ Kt.Own w' w.heap.size 33 .u32 v (Nt.limbs x) ∧ (Nt.limbs x).length ≤ q ∧ Below w.heap.size w w' := fun h0 => by
        have e := Nt.limbs_take HO.out HX.out (by have := HL.out; omega) hv.out h0
        have hlen : (Nt.limbs x).length = k := by rw [e, List.length_take]; have := HL.out; omega
        refine (copyl_own A k cp (l.take k) w (by rw [← e]; exact hlen) (ints_take hz2 k (by have := HL.out; omega)) (fun h => by have := HA.out h; omega) (by omega)).mono ?_
        rintro e1 w1 ⟨v, rfl, hrow, hb⟩
        exact ⟨v, rfl, by rw [← e] at hrow; exact hrow, by omega, hb⟩
      have HF := Lib.hid hfin
      clear hfin
      by_cases h0 : 0 < k
      · obtain ⟨b, off, rfl, hb, hc⟩ := hz2 (by have := HL.out; omega)
        have hcell := hc (k - 1) (by have := HL.out; omega)
        clear hc
        obtain ⟨y, hy⟩ : ∃ y, Hid (Ls.nth l (k - 1) = y) := ⟨_, Lib.hid rfl⟩
        rw [hy.out] at hcell
        cases hxb : (y == 0)
        · have HXX : Hid (Ls.nth l (k - 1) ≠ 0) := Lib.hid (by rw [hy.out]; simpa using hxb)
          go_wp2_with fail
          refine (HF.out (.inr HXX.out)).mono ?_
          rintro e w1 ⟨v, rfl, hnum, hlx, hbel⟩
          go_wp2
          go_ret
          exact ⟨v, x, rfl, hnum, hlx, hbel⟩
        · have HXX : Hid (Nt.V (l.take (k - 1)) = Nt.V l) := Lib.hid (Nt.V_take_pred (k := k - 1) (by have := HL.out; omega) (by rw [show k - 1 + 1 = k from by omega]; exact hv.out) (by rw [hy.out]; simpa using hxb))
          go_wp2_with fail
          go_round
          case rel => exact ⟨k - 1, by omega, by first | rfl | (congr 1; omega), HXX⟩
          case measure => simp; omega
      · obtain rfl : k = 0 := by omega
        go_wp2_with fail
        refine (HF.out (.inl (by trivial))).mono ?_
        rintro e w1 ⟨v, rfl, hnum, hlx, hbel⟩
        go_wp2
        go_ret
        exact ⟨v, x, rfl, hnum, hlx, hbel⟩
theorem number_own (A : Option Addr) (n cp : Nat) (l : List Int) (q : Nat) (w : World) (hl : l.length = n) (hz : Kt.Ints w w.heap.size .u32 A l) (hA : A = none → cp = 0) (hcp : n ≤ cp) (hok : Nt.Ok l) (hn : n * 4 ≤ 140737488351232) (hq : q ≤ 1024) :
    Calls Try.prog 14 #[.slice A n cp, .int .i64 q] w fun e w' => ∃ v x, e = .returned v ∧ Kt.Own w' w.heap.size 33 .u32 v (Nt.limbs x) ∧ (Nt.limbs x).length ≤ q ∧ Below w.heap.size w w' := by
  by_cases h : n ≤ q
  · exact number_own_at A n cp l q n w hl hz hA hcp hok hn hq (Nat.le_refl _) h (.inl ⟨h, rfl⟩)
  · exact number_own_at A n cp l q q w hl hz hA hcp hok hn hq (by omega) (Nat.le_refl _) (.inr ⟨by omega, rfl⟩)

end Go.Proofs.Ytfjdhclpcbgdbaa
