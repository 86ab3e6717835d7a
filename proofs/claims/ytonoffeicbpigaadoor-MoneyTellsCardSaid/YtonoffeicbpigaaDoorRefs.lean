/- The reference implementation of amounts: numbers, sums, division downwards. -/
import Derived.Test.YtonoffeicbpigaaDoorSum
namespace Go.Proofs.YtonoffeicbpigaaDoor
open Go Go.RowKit

theorem rright_any (c : Int) (w : World) :
    Calls Tryd.prog 14 #[.int .i64 c] w fun e w' => e = .returned (.bool (inR c)) ∧ w = w' := by
  by_cases h1 : -1000000000000000 ≤ c
  · by_cases h2 : c ≤ 1000000000000000
    · have e : inR c = true := by simp [inR, h1, h2]
      rw [e]
      go_enter Tryd.func14, Tryd.ntmps14
      go_wp2
      go_ret
      exact ⟨rfl, rfl⟩
    · have e : inR c = false := by simp [inR, h1, h2]
      rw [e]
      go_enter Tryd.func14, Tryd.ntmps14
      go_wp2
      go_ret
      exact ⟨rfl, rfl⟩
  · have e : inR c = false := by simp [inR, h1]
    rw [e]
    go_enter Tryd.func14, Tryd.ntmps14
    go_wp2
    go_ret
    exact ⟨rfl, rfl⟩

set_option maxHeartbeats 400000 in
theorem rsum_short (A : Option Addr) (cp : Nat) (zs : List Int) (w : World) (hz : Kt.Ints w w.heap.size .i64 A zs) (hn : zs.length ≤ 4096) :
    Calls Tryd.prog 17 #[.slice A zs.length cp] w fun e w' => e = .returned (.tuple #[.int .i64 (sumV zs), .int .i64 (sumE zs)]) ∧ w = w' := by
  go_enter Tryd.func17, Tryd.ntmps17
  go_wp2
  go_loop [4, 5] (fun s i => ∃ k : Nat, k ≤ zs.length ∧ i = .int .i64 k ∧ s = .int .i64 (Ls.isum (zs.take k)) ∧ Hid ((zs.take k).all inR = true)) (fun _ i => zs.length - (intOf i).toNat)
  case atStart => exact ⟨0, Nat.zero_le _, rfl, rfl, by simp [Hid]⟩
  case round =>
    obtain ⟨k, hk, rfl, rfl, hall⟩ := hrel
    by_cases hlt : k < zs.length
    · obtain ⟨b, off, rfl, hb, hc⟩ := hz (by omega)
      have hcell := hc k hlt
      have hbd := take_bd (by omega) hall.out
      cases hx : inR (Ls.nth zs k)
      · have HS := Lib.hid (sum_bad (not_all hlt hx))
        go_wp2_with (go_at_call 14; refine (rright_any _ _).mono ?_; rintro e w' ⟨rfl, rfl⟩)
        go_ret2
        exact ⟨Kt.ret_ii HS.out.1.symm HS.out.2.symm, rfl⟩
      · have HA := Lib.hid (all_take hlt hall.out hx)
        have HT := Lib.hid (Ls.isum_take zs k hlt)
        have hb2 := inR_bd hx
        go_wp2_with (go_at_call 14; refine (rright_any _ _).mono ?_; rintro e w' ⟨rfl, rfl⟩)
        go_round
        case rel => exact ⟨k + 1, by omega, by go_num, by rw [HT.out], HA.out⟩
        case measure => simp [intOf]; omega
    · obtain rfl : k = zs.length := by omega
      have hall2 : zs.all inR = true := by have := hall.out; rwa [List.take_length] at this
      have HE : Hid (Ls.isum (zs.take zs.length) = Ls.isum zs) := by rw [List.take_length]; exact Lib.hid rfl
      rw [HE.out]
      cases hx : inR (Ls.isum zs)
      · have HS := Lib.hid (sum_long hall2 hx)
        clear hall2
        go_wp2_with (go_at_call 14; refine (rright_any _ _).mono ?_; rintro e w' ⟨rfl, rfl⟩)
        go_ret2
        exact ⟨Kt.ret_ii HS.out.1.symm HS.out.2.symm, rfl⟩
      · have HS := Lib.hid (sum_ok hall2 hx)
        clear hall2
        go_wp2_with (go_at_call 14; refine (rright_any _ _).mono ?_; rintro e w' ⟨rfl, rfl⟩)
        go_ret2
        exact ⟨Kt.ret_ii HS.out.1.symm HS.out.2.symm, rfl⟩


theorem rsum_many (A : Option Addr) (n cp : Nat) (w : World) (hn : 4096 < n) :
    Calls Tryd.prog 17 #[.slice A n cp] w fun e w' => e = .returned (.tuple #[.int .i64 0, .int .i64 5]) ∧ w = w' := by
  go_enter Tryd.func17, Tryd.ntmps17
  go_wp2
  go_ret2
  exact ⟨rfl, rfl⟩

theorem radd_any (a b : Int) (w : World) :
    Calls Tryd.prog 12 #[.int .i64 a, .int .i64 b] w fun e w' => e = .returned (.tuple #[.int .i64 (sumV [a, b]), .int .i64 (sumE [a, b])]) ∧ Below w.heap.size w w' := by
  go_enter Tryd.func12, Tryd.ntmps12
  go_wp2_with (go_at_call 17; refine (rsum_short _ 2 [a, b] _ (Kt.ints_lit w _ .i64 [a, b] _ rfl) (by simp)).mono ?_; rintro e w' ⟨rfl, rfl⟩)
  go_ret2
  exact ⟨rfl, (Below.refl _ _).alloc (Nat.le_refl _) _⟩

end Go.Proofs.YtonoffeicbpigaaDoor
