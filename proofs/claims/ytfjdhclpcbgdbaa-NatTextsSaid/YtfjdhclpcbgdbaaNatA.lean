/- What Right, trimmed, copied, compared and Cmp of package nat return: their walks. -/
import Derived.Test.YtfjdhclpcbgdbaaProg
import Derived.Test.YtfjdhclpcbgdbaaNum
import Derived.Laws.AppendOwnNone
import Derived.Maps.AppendAt
import Derived.BigQuiet
import Derived.Outline
namespace Go.Proofs.Ytfjdhclpcbgdbaa
open Go Go.RowKit

theorem ret_bi {a b : Bool} (h : a = b) : Ending.returned (.bool a) = .returned (.bool b) := by rw [h]
def rightB (l : List Int) : Bool := decide (l.length ≤ 1024) && (decide (l.length = 0) || Ls.nth l (l.length - 1) != 0)
theorem right_any (A : Option Addr) (n cp : Nat) (l : List Int) (w : World) (hl : l.length = n) (hz : Kt.Ints w w.heap.size .u32 A l) (hn : n ≤ 4611686018427387904) :
    Calls Try.prog 25 #[.slice A n cp] w fun e w' => e = .returned (.bool (rightB l)) ∧ w = w' := by
  by_cases h1 : n ≤ 1024
  · by_cases h0 : 0 < n
    · obtain ⟨b, off, rfl, hb, hc⟩ := hz (by omega)
      have hcell := hc (n - 1) (by omega)
      clear hc
      obtain ⟨x, hx⟩ : ∃ x, Hid (Ls.nth l (n - 1) = x) := ⟨_, Lib.hid rfl⟩
      rw [hx.out] at hcell
      have E : Hid (rightB l = (x != 0)) := Lib.hid (by
        have e0 : decide (n ≤ 1024) = true := by simpa using h1
        have e1 : decide (n = 0) = false := by simp; omega
        rw [rightB, hl, hx.out, e0, e1]; rfl)
      clear hl
      have hb0 : ((n : Int) == 0) = false := by simp; omega
      cases hxb : (x != 0)
      · rw [hxb] at E
        go_enter Try.func25, Try.ntmps25
        go_wp2
        go_ret
        exact ⟨ret_bi E.out.symm, rfl⟩
      · rw [hxb] at E
        go_enter Try.func25, Try.ntmps25
        go_wp2
        go_ret
        exact ⟨ret_bi E.out.symm, rfl⟩
    · obtain rfl : n = 0 := by omega
      have E : Hid (rightB l = true) := Lib.hid (by rw [rightB, hl]; rfl)
      clear hl
      go_enter Try.func25, Try.ntmps25
      go_wp2
      go_ret
      exact ⟨ret_bi E.out.symm, rfl⟩
  · have E : Hid (rightB l = false) := Lib.hid (by
      have e0 : decide (n ≤ 1024) = false := by simp; omega
      rw [rightB, hl, e0]; rfl)
    clear hl
    go_enter Try.func25, Try.ntmps25
    go_wp2
    go_ret
    exact ⟨ret_bi E.out.symm, rfl⟩

theorem trimmed_any (A : Option Addr) (n cp : Nat) (l : List Int) (w : World) (hl : l.length = n) (hz : Kt.Ints w w.heap.size .u32 A l) (hcp : n ≤ cp) (hn : n ≤ 4611686018427387904) :
    Calls Try.prog 34 #[.slice A n cp] w fun e w' => ∃ k, e = .returned (.slice A k cp) ∧ k ≤ n ∧ Nt.V (l.take k) = Nt.V l ∧ (k = 0 ∨ Ls.nth l (k - 1) ≠ 0) ∧ w = w' := by
  have HL := Lib.hid hl
  clear hl
  go_enter Try.func34, Try.ntmps34
  go_wp2
  go_loop [0] (fun v => ∃ k : Nat, k ≤ n ∧ v = .slice A k cp ∧ Hid (Nt.V (l.take k) = Nt.V l)) (fun v => match v with | .slice _ k _ => k | _ => 0)
  case atStart => exact ⟨n, Nat.le_refl _, rfl, Lib.hid (by rw [Nt.V_take_all _ _ (by rw [HL.out]; exact Nat.le_refl _)])⟩
  case round =>
    obtain ⟨k, hk, rfl, hv⟩ := hrel
    by_cases h0 : 0 < k
    · obtain ⟨b, off, rfl, hb, hc⟩ := hz (by have := HL.out; omega)
      have hcell := hc (k - 1) (by have := HL.out; omega)
      clear hc
      obtain ⟨x, hx⟩ : ∃ x, Hid (Ls.nth l (k - 1) = x) := ⟨_, Lib.hid rfl⟩
      rw [hx.out] at hcell
      cases hxb : (x == 0)
      · have HX : Hid (Ls.nth l (k - 1) ≠ 0) := Lib.hid (by rw [hx.out]; simpa using hxb)
        go_wp2
        go_ret
        exact ⟨k, rfl, hk, hv.out, .inr HX.out, rfl⟩
      · have HX : Hid (Nt.V (l.take (k - 1)) = Nt.V l) := Lib.hid (Nt.V_take_pred (k := k - 1) (by have := HL.out; omega) (by rw [show k - 1 + 1 = k from by omega]; exact hv.out) (by rw [hx.out]; simpa using hxb))
        go_wp2
        go_round
        case rel => exact ⟨k - 1, by omega, by first | rfl | (congr 1; omega), HX⟩
        case measure => simp; omega
    · obtain rfl : k = 0 := by omega
      go_wp2
      go_ret
      exact ⟨0, rfl, Nat.zero_le _, hv.out, .inl rfl, rfl⟩

theorem Try.infoU32 : (Try.prog.info? 33).map (fun i => (i.zero, i.size, i.bytes)) = some (some (.int .u32 0), 1, 4) := by kernel_rfl
theorem ints_news {w : World} {B : Nat} {a : Addr} {l : List Int} {k : IntKind} (hz : Kt.Ints w B k (some a) l) : ∀ j u, (l.map (Value.int k))[j]? = some u → w.cell? (a.add j) = some u := by
  intro j u hj
  have hlt : j < l.length := by
    rcases Nat.lt_or_ge j l.length with h | h
    · exact h
    · rw [List.getElem?_eq_none (by simpa using h)] at hj; cases hj
  obtain ⟨b, off, e, _, hc⟩ := hz (by omega)
  injection e with e
  subst e
  rw [List.getElem?_map, Ls.nth_of hlt] at hj
  have := hc j hlt
  simp only [Option.map_some, Option.some.injEq] at hj
  rw [← hj, Addr.add_lit]
  exact this

theorem copied_any (A : Option Addr) (n cp : Nat) (l : List Int) (w : World) (hl : l.length = n) (hz : Kt.Ints w w.heap.size .u32 A l) (hA : A = none → n = 0 ∧ cp = 0) (hn : n * 4 ≤ 140737488351232) :
    Calls Try.prog 32 #[.slice A n cp] w fun e w' => ∃ v, e = .returned v ∧ Kt.Row w' w.heap.size .u32 v l ∧ Below w.heap.size w w' := by
  subst hl
  obtain ⟨i0, hi0, hz0, hz1, hz2⟩ := info_parts Try.infoU32
  cases A with
  | none =>
    obtain ⟨h0, rfl⟩ := hA rfl
    have e : l = [] := List.eq_nil_of_length_eq_zero h0
    subst e
    go_enter Try.func32, Try.ntmps32
    go_wp2_with (at_builtin; refine wpList_append_own_none rfl (.const (.slice none 0 0)) (.tmp 3) 22 rfl w.heap.size 33 i0 1 Try.underlying22 hi0 _ 0 [] rfl (World.ownsRow_nil _ _ _ _) rfl ?_)
    go_wp2
    go_ret
    exact ⟨_, rfl, Kt.Row.nil _ _ _, Below.refl _ _⟩
  | some a =>
    have hnews := ints_news hz
    go_enter Try.func32, Try.ntmps32
    go_wp2_with (at_builtin; refine wpList_append_own _ rfl (.const (.slice none 0 0)) (.tmp 3) 22 rfl w.heap.size 33 i0 (.int .u32 0) 1 4 Try.underlying22 hi0 hz0 hz1 hz2 rfl (by decide) _ 0 [] rfl (World.ownsRow_nil _ _ _ _) a l.length cp (l.map (Value.int .u32)) rfl (by simp) hnews (ints_oneCell .u32 l) (by unfold maxLen; omega) (by omega) (Nat.le_refl _) ?_)
    intro v' w1 hown hgrow _
    try simp only [Nat.zero_add, List.nil_append] at hown
    have hr : Kt.Row w1 w.heap.size .u32 v' l := Kt.Row.of_own (T := 33) (show Kt.Own w1 w.heap.size 33 .u32 v' l from hown)
    have hb : Below w.heap.size w w1 := (Below.refl _ _).grown hgrow (Nat.le_refl _) (fun g hg => by simp [Value.ownBlock] at hg)
    clear hown hgrow hnews
    go_wp2
    go_ret
    exact ⟨v', rfl, hr, hb⟩

theorem compared_any (A B : Option Addr) (n m ca cb : Nat) (a b : List Int) (x y : Nat) (w : World) (hla : a.length = n) (hlb : b.length = m) (ha : Kt.Ints w w.heap.size .u32 A a) (hb : Kt.Ints w w.heap.size .u32 B b)
    (hn : n ≤ 4611686018427387904) (hx : a = Nt.limbs x) (hy : b = Nt.limbs y) :
    Calls Try.prog 39 #[.slice A n ca, .slice B m cb] w fun e w' => e = .returned (.int .i64 (Nt.cmpV x y)) ∧ ∃ k, w' = w.drewN k := by
  have hra : Nt.R a := by rw [hx]; exact Nt.limbs_R x
  have hrb : Nt.R b := by rw [hy]; exact Nt.limbs_R y
  have hva : Nt.V a = (x : Int) := by rw [hx]; exact Nt.V_limbs x
  have hvb : Nt.V b = (y : Int) := by rw [hy]; exact Nt.V_limbs y
  clear hx hy
  by_cases hl : n = m
  · have hne : ((n : Int) != (m : Int)) = false := by simp [hl]
    subst hl
    have HLA := Lib.hid hla
    have HLB := Lib.hid hlb
    have HRA := Lib.hid hra
    have HRB := Lib.hid hrb
    have HVA := Lib.hid hva
    have HVB := Lib.hid hvb
    clear hla hlb hra hrb hva hvb
    go_enter Try.func39, Try.ntmps39
    go_wp2
    go_loopw [5] (fun i wr => ∃ k : Nat, k ≤ n ∧ i = .int .i64 ((k : Int) - 1) ∧ Hid (a.drop k = b.drop k) ∧ ∃ q, wr = w.drewN q) (fun i _ => (intOf i + 1).toNat)
    case atStart => exact ⟨n, Nat.le_refl _, rfl, Lib.hid (by rw [List.drop_of_length_le (by rw [HLA.out]; exact Nat.le_refl _), List.drop_of_length_le (by rw [HLB.out]; exact Nat.le_refl _)]), 0, rfl⟩
    case round =>
      obtain ⟨k, hk, rfl, hd, q, rfl⟩ := hrel
      by_cases h0 : 0 < k
      · obtain ⟨k, rfl⟩ : ∃ j, k = j + 1 := ⟨k - 1, by omega⟩
        obtain ⟨b1, o1, rfl, hb1, hc1⟩ := ha (by have := HLA.out; omega)
        obtain ⟨b2, o2, rfl, hb2, hc2⟩ := hb (by have := HLB.out; omega)
        have hcell1 := hc1 k (by have := HLA.out; omega)
        have hcell2 := hc2 k (by have := HLB.out; omega)
        clear hc1 hc2
        rw [show ((k + 1 : Nat) : Int) - 1 = (k : Int) from by omega]
        obtain ⟨s, hs⟩ : ∃ s, Hid (Ls.nth a k = s) := ⟨_, Lib.hid rfl⟩
        obtain ⟨t, ht⟩ : ∃ t, Hid (Ls.nth b k = t) := ⟨_, Lib.hid rfl⟩
        rw [hs.out] at hcell1
        rw [ht.out] at hcell2
        by_cases hlt : s < t
        · have HE : Hid (Nt.cmpV x y = -1) := Lib.hid (by
            have := Nt.V_less_of (k := k) HRA.out.1 HRB.out.1 (by rw [HLA.out, HLB.out]) (by rw [HLA.out]; omega) hd.out (by rw [hs.out, ht.out]; exact hlt)
            rw [HVA.out, HVB.out] at this
            rw [Nt.cmpV, if_pos (by omega)])
          go_wp2
          go_quiet (fail)
          go_wp2
          go_ret
          exact ⟨Kt.ret_int HE.out.symm, _, by first | rfl | exact World.drewN_drewN _ _ _⟩
        · by_cases hgt : t < s
          · have HE : Hid (Nt.cmpV x y = 1) := Lib.hid (by
              have := Nt.V_less_of (k := k) HRB.out.1 HRA.out.1 (by rw [HLA.out, HLB.out]) (by rw [HLB.out]; omega) hd.out.symm (by rw [hs.out, ht.out]; exact hgt)
              rw [HVA.out, HVB.out] at this
              rw [Nt.cmpV, if_neg (by omega), if_pos (by omega)])
            go_wp2
            go_quiet (fail)
            go_wp2
            go_quiet (fail)
            go_wp2
            go_ret
            exact ⟨Kt.ret_int HE.out.symm, _, by first | rfl | exact World.drewN_drewN _ _ _ | (rw [World.drewN_drewN]; exact World.drewN_drewN _ _ _)⟩
          · have HD : Hid (a.drop k = b.drop k) := Lib.hid (Nt.drop_step (by rw [HLA.out]; omega) (by rw [HLA.out, HLB.out]) hd.out (by rw [hs.out, ht.out]; omega))
            go_wp2
            go_quiet (fail)
            go_wp2
            go_quiet (fail)
            go_wp2
            go_roundw
            case rel => exact ⟨k, by omega, rfl, HD, _, by first | rfl | exact World.drewN_drewN _ _ _ | (rw [World.drewN_drewN]; exact World.drewN_drewN _ _ _)⟩
            case measure => simp [intOf]
      · obtain rfl : k = 0 := by omega
        have HE : Hid (Nt.cmpV x y = 0) := Lib.hid (by
          have := hd.out
          rw [List.drop_zero, List.drop_zero] at this
          have e1 := HVA.out
          rw [this, HVB.out] at e1
          rw [Nt.cmpV, if_neg (by omega), if_neg (by omega)])
        go_wp2
        go_ret
        exact ⟨Kt.ret_int HE.out.symm, q, rfl⟩
  · have hne : ((n : Int) != (m : Int)) = true := by simp; omega
    by_cases hlt : n < m
    · have HE : Hid (Nt.cmpV x y = -1) := Lib.hid (by
        have := Nt.V_short hra.1 hrb (by omega)
        rw [hva, hvb] at this
        rw [Nt.cmpV, if_pos (by omega)])
      clear hla hlb hra hrb hva hvb hl
      go_enter Try.func39, Try.ntmps39
      go_wp2
      go_ret
      exact ⟨Kt.ret_int HE.out.symm, 0, rfl⟩
    · have HE : Hid (Nt.cmpV x y = 1) := Lib.hid (by
        have := Nt.V_short hrb.1 hra (by omega)
        rw [hva, hvb] at this
        rw [Nt.cmpV, if_neg (by omega), if_pos (by omega)])
      clear hla hlb hra hrb hva hvb hl
      go_enter Try.func39, Try.ntmps39
      go_wp2
      go_ret
      exact ⟨Kt.ret_int HE.out.symm, 0, rfl⟩

end Go.Proofs.Ytfjdhclpcbgdbaa
