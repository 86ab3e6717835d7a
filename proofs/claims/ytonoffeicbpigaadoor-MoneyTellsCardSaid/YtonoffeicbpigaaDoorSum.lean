/- What Sum and Add of package money, and SameInts, return: their walks. -/
import Derived.Test.YtonoffeicbpigaaDoorBase
import Derived.Test.YtonoffeicbpigaaDoorLists
namespace Go.Proofs.YtonoffeicbpigaaDoor
open Go Go.RowKit

def sumE (zs : List Int) : Int := if zs.all inR then (if inR (Ls.isum zs) then 0 else 3) else 2
def sumV (zs : List Int) : Int := if zs.all inR && inR (Ls.isum zs) then Ls.isum zs else 0

theorem all_take {zs : List Int} {k : Nat} (hk : k < zs.length) (h : (zs.take k).all inR = true) (hx : inR (Ls.nth zs k) = true) : (zs.take (k + 1)).all inR = true := by
  rw [Ls.take_nth zs k hk, List.all_append, h]; simp [hx]
theorem not_all {zs : List Int} {k : Nat} (hk : k < zs.length) (hx : inR (Ls.nth zs k) = false) : zs.all inR = false := by
  rw [List.all_eq_false]
  exact ⟨_, Ls.nth_mem zs k hk, by simp [hx]⟩
theorem sum_bad {zs : List Int} (h : zs.all inR = false) : sumV zs = 0 ∧ sumE zs = 2 := by simp [sumV, sumE, h]
theorem sum_long {zs : List Int} (h : zs.all inR = true) (h' : inR (Ls.isum zs) = false) : sumV zs = 0 ∧ sumE zs = 3 := by simp [sumV, sumE, h, h']
theorem sum_ok {zs : List Int} (h : zs.all inR = true) (h' : inR (Ls.isum zs) = true) : sumV zs = Ls.isum zs ∧ sumE zs = 0 := by simp [sumV, sumE, h, h']
theorem inR_bd {c : Int} (h : inR c = true) : -1000000000000000 ≤ c ∧ c ≤ 1000000000000000 := by simpa [inR] using h
theorem take_bd {zs : List Int} {k : Nat} (hk : k ≤ 4096) (h : (zs.take k).all inR = true) : -4096000000000000000 ≤ Ls.isum (zs.take k) ∧ Ls.isum (zs.take k) ≤ 4096000000000000000 := by
  have := Ls.isum_take_bd zs 1000000000000000 k (by omega) (fun x hx => inR_bd (List.all_eq_true.1 h x hx))
  omega

set_option maxHeartbeats 400000 in
theorem sum_any (A : Option Addr) (cp : Nat) (zs : List Int) (w : World) (hz : Kt.Ints w w.heap.size .i64 A zs) (hn : zs.length ≤ 4096) :
    Calls Tryd.prog 16 #[.slice A zs.length cp] w fun e w' => e = .returned (.tuple #[.int .i64 (sumV zs), .int .i64 (sumE zs)]) ∧ w = w' := by
  go_enter Tryd.func16, Tryd.ntmps16
  go_wp2
  go_loop [4, 12] (fun s i => ∃ k : Nat, k ≤ zs.length ∧ i = .int .i64 k ∧ s = .int .i64 (Ls.isum (zs.take k)) ∧ Hid ((zs.take k).all inR = true)) (fun _ i => zs.length - (intOf i).toNat)
  case atStart => exact ⟨0, Nat.zero_le _, rfl, rfl, by simp [Hid]⟩
  case round =>
    obtain ⟨k, hk, rfl, rfl, hall⟩ := hrel
    by_cases hlt : k < zs.length
    · obtain ⟨b, off, rfl, hb, hc⟩ := hz (by omega)
      have hcell := hc k hlt
      have hbd := take_bd (by omega) hall.out
      cases hx : inR (Ls.nth zs k)
      · have HS := Lib.hid (sum_bad (not_all hlt hx))
        go_wp2_with (go_at_call 13; refine (right_any _ _).mono ?_; rintro e w' ⟨rfl, rfl⟩)
        go_ret2
        exact ⟨Kt.ret_ii HS.out.1.symm HS.out.2.symm, rfl⟩
      · have HA := Lib.hid (all_take hlt hall.out hx)
        have HT := Lib.hid (Ls.isum_take zs k hlt)
        have hb2 := inR_bd hx
        go_wp2_with (go_at_call 13; refine (right_any _ _).mono ?_; rintro e w' ⟨rfl, rfl⟩)
        go_round
        case rel => exact ⟨k + 1, by omega, by go_num, by rw [HT.out], HA.out⟩
        case measure => simp [intOf]; omega
    · obtain rfl : k = zs.length := by omega
      have hall2 : zs.all inR = true := by have := hall.out; rwa [List.take_length] at this
      have HE : Hid (Ls.isum (zs.take zs.length) = Ls.isum zs) := by rw [List.take_length]; exact Lib.hid rfl
      rw [HE.out]
      cases hx : inR (Ls.isum zs)
      · have HS := Lib.hid (sum_long hall2 hx)
        clear hall2
        go_wp2_with (go_at_call 13; refine (right_any _ _).mono ?_; rintro e w' ⟨rfl, rfl⟩)
        go_ret2
        exact ⟨Kt.ret_ii HS.out.1.symm HS.out.2.symm, rfl⟩
      · have HS := Lib.hid (sum_ok hall2 hx)
        clear hall2
        go_wp2_with (go_at_call 13; refine (right_any _ _).mono ?_; rintro e w' ⟨rfl, rfl⟩)
        go_ret2
        exact ⟨Kt.ret_ii HS.out.1.symm HS.out.2.symm, rfl⟩

theorem sum_many (A : Option Addr) (n cp : Nat) (w : World) (hn : 4096 < n) :
    Calls Tryd.prog 16 #[.slice A n cp] w fun e w' => e = .returned (.tuple #[.int .i64 0, .int .i64 5]) ∧ w = w' := by
  go_enter Tryd.func16, Tryd.ntmps16
  go_wp2
  go_ret2
  exact ⟨rfl, rfl⟩

theorem add_any (a b : Int) (w : World) :
    Calls Tryd.prog 11 #[.int .i64 a, .int .i64 b] w fun e w' => e = .returned (.tuple #[.int .i64 (sumV [a, b]), .int .i64 (sumE [a, b])]) ∧ Below w.heap.size w w' := by
  go_enter Tryd.func11, Tryd.ntmps11
  go_wp2_with (go_at_call 16; refine (sum_any _ 2 [a, b] _ (Kt.ints_lit w _ .i64 [a, b] _ rfl) (by simp)).mono ?_; rintro e w' ⟨rfl, rfl⟩)
  go_ret2
  exact ⟨rfl, (Below.refl _ _).alloc (Nat.le_refl _) _⟩

/-! ### SameInts -/
def sameB (a b : List Int) : Bool := a == b
theorem same_no {a b : List Int} (h : a.length ≠ b.length) : sameB a b = false := by
  simp only [sameB, beq_eq_false_iff_ne, ne_eq]
  intro e; exact h (by rw [e])
theorem same_at {a b : List Int} {k : Nat} (h : Ls.nth a k ≠ Ls.nth b k) : sameB a b = false := by
  simp only [sameB, beq_eq_false_iff_ne, ne_eq]
  intro e; exact h (by rw [e])
theorem same_all {a b : List Int} (hl : a.length = b.length) (h : ∀ j, j < a.length → Ls.nth a j = Ls.nth b j) : sameB a b = true := by
  simp only [sameB, beq_iff_eq]
  exact Ls.ext_nth hl h

theorem same_any (A B : Option Addr) (ca cb : Nat) (a b : List Int) (w : World) (ha : Kt.Ints w w.heap.size .i64 A a) (hb : Kt.Ints w w.heap.size .i64 B b) (hla : a.length ≤ 4611686018427387904) :
    Calls Tryd.prog 8 #[.slice A a.length ca, .slice B b.length cb] w fun e w' => e = .returned (.bool (sameB a b)) ∧ Below w.heap.size w w' := by
  by_cases hl : a.length = b.length
  · have hne : ((a.length : Int) != (b.length : Int)) = false := by simp [hl]
    have HL := Lib.hid hl
    clear hl
    go_enter Tryd.func8, Tryd.ntmps8
    go_wp2
    go_loopw [5] (fun i wr => ∃ k : Nat, k ≤ a.length ∧ i = .int .i64 k ∧ Hid (∀ j, j < k → Ls.nth a j = Ls.nth b j) ∧ ∃ n, wr = w.drewN n) (fun i _ => a.length - (intOf i).toNat)
    case atStart => exact ⟨0, Nat.zero_le _, rfl, Lib.hid (fun j hj => absurd hj (by omega)), 0, rfl⟩
    case round =>
      obtain ⟨k, hk, rfl, heq, n, rfl⟩ := hrel
      by_cases hlt : k < a.length
      · obtain ⟨b1, o1, rfl, hb1, hc1⟩ := ha (by omega)
        obtain ⟨b2, o2, rfl, hb2, hc2⟩ := hb (by have := HL.out; omega)
        have hcell1 := hc1 k hlt
        have hcell2 := hc2 k (by have := HL.out; omega)
        have hltb : k < b.length := by have := HL.out; omega
        clear hc1 hc2
        by_cases hx : Ls.nth a k = Ls.nth b k
        · have hxb : (Ls.nth a k != Ls.nth b k) = false := by simp [hx]
          have HX := Lib.hid hx
          clear hx
          go_wp2
          go_quiet (fail)
          go_wp2
          go_roundw
          case rel => exact ⟨k + 1, by omega, by go_num, Lib.hid (fun j hj => by
            by_cases e : j = k
            · subst e; exact HX.out
            · exact heq.out j (by omega)), _, by first | rfl | exact World.drewN_drewN _ _ _⟩
          case measure => simp [intOf]; omega
        · have hxb : (Ls.nth a k != Ls.nth b k) = true := by simp [hx]
          have HS := Lib.hid (same_at hx)
          clear hx
          go_wp2
          go_quiet (fail)
          go_wp2
          go_ret
          exact ⟨Kt.ret_bool HS.out.symm, by first | exact Kt.below_of_drewN _ _ | exact Kt.below_drewN (Kt.below_of_drewN _ _) _⟩
      · go_wp2
        go_ret
        exact ⟨Kt.ret_bool (same_all HL.out (fun j hj => heq.out j (by omega))).symm, Kt.below_of_drewN _ _⟩
  · have hne : ((a.length : Int) != (b.length : Int)) = true := by simp; omega
    have HS := Lib.hid (same_no hl)
    clear hl
    go_enter Tryd.func8, Tryd.ntmps8
    go_wp2
    go_ret
    exact ⟨Kt.ret_bool HS.out.symm, Below.refl _ _⟩

end Go.Proofs.YtonoffeicbpigaaDoor
