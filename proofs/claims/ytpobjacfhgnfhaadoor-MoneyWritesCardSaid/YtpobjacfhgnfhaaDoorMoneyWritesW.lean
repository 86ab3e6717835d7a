/- The walk of MoneyWrites. -/
import Derived.Test.YtpobjacfhgnfhaaDoorLawKit
import Derived.Test.YtpobjacfhgnfhaaDoorTextL
namespace Go.Proofs.YtpobjacfhgnfhaaDoor
open Go Go.RowKit

set_option maxRecDepth 100000 in
set_option maxHeartbeats 4000000 in
theorem walk_MoneyWrites (m : Int) (_wm : (Lit.int .i64 m).wf = true) (n : Int) (_wn : (Lit.int .i64 n).wf = true) (w : World) (ht : Tab w) :
    Calls Tryd.prog 6 #[.int .i64 m, .int .i64 n] w fun e w' => e = .returned (.bool true) ∧ Below w.heap.size w w' := by
  have HT := Lib.hid ht
  clear ht
  obtain ⟨ha1, ha2⟩ := amountOf_bd m
  obtain ⟨hb_1, hb_2⟩ := amountOf_bd n
  obtain ⟨a, HA⟩ : ∃ c, Hid (amountOf m = c) := ⟨_, Lib.hid rfl⟩
  obtain ⟨b, HB⟩ : ∃ p, Hid (amountOf n = p) := ⟨_, Lib.hid rfl⟩
  rw [HA.out] at ha1 ha2
  rw [HB.out] at hb_1 hb_2
  have HR := Lib.hid (Mny.read_text a ha1 ha2)
  have HL := Lib.hid (Mny.text_less a b)
  have l1 := Mny.text_short a ha1 ha2
  have l2 := Mny.text_short b hb_1 hb_2
  have E := Mny.text_beq a b
  go_enter Tryd.func6, Tryd.ntmps6
  by_cases hab : a = b
  · have E1 : (Mny.textB a == Mny.textB b) = true := by rw [E]; simp [hab]
    have E2 : (a == b) = true := by simp [hab]
    clear hab E
    go_wp2_with fail
    refine (awake_any _ HT.out).mono ?_
    rintro e w0 ⟨rfl, hb0⟩
    have HT0 := Lib.hid (HT.out.on hb0)
    go_wp2_with fail
    refine (amount_val m a _ HA.out).mono ?_
    rintro e w' ⟨rfl, rfl⟩
    go_wp2_with fail
    refine (amount_val n b _ HB.out).mono ?_
    rintro e w' ⟨rfl, rfl⟩
    go_wp2_with fail
    refine (text_yes a _ ha1 ha2 HT0.out).mono ?_
    rintro e w1 ⟨rfl, hb1⟩
    have HT1 := Lib.hid (HT0.out.on hb1)
    go_wp2_with fail
    refine (text_yes b _ hb_1 hb_2 HT1.out).mono ?_
    rintro e w2 ⟨rfl, hb2⟩
    have HT2 := Lib.hid (HT1.out.on hb2)
    go_wp2_with fail
    refine (read_val _ _ HT2.out _ _ HR.out.1 HR.out.2).mono ?_
    rintro e w3 ⟨rfl, hb3⟩
    have hbel : Below w.heap.size w w3 := Kt.next (Kt.next (Kt.next hb0 hb1) hb2) hb3
    clear hb0 hb1 hb2 hb3
    go_wp2
    all_goals go_ret
    all_goals first
      | exact ⟨rfl, hbel⟩
      | exact ⟨Kt.ret_bool (by rw [HL.out (by omega) (by omega) (by omega)]; simp <;> omega), hbel⟩
  · have E1 : (Mny.textB a == Mny.textB b) = false := by rw [E]; simp [hab]
    have E2 : (a == b) = false := by simp [hab]
    clear hab E
    go_wp2_with fail
    refine (awake_any _ HT.out).mono ?_
    rintro e w0 ⟨rfl, hb0⟩
    have HT0 := Lib.hid (HT.out.on hb0)
    go_wp2_with fail
    refine (amount_val m a _ HA.out).mono ?_
    rintro e w' ⟨rfl, rfl⟩
    go_wp2_with fail
    refine (amount_val n b _ HB.out).mono ?_
    rintro e w' ⟨rfl, rfl⟩
    go_wp2_with fail
    refine (text_yes a _ ha1 ha2 HT0.out).mono ?_
    rintro e w1 ⟨rfl, hb1⟩
    have HT1 := Lib.hid (HT0.out.on hb1)
    go_wp2_with fail
    refine (text_yes b _ hb_1 hb_2 HT1.out).mono ?_
    rintro e w2 ⟨rfl, hb2⟩
    have HT2 := Lib.hid (HT1.out.on hb2)
    go_wp2_with fail
    refine (read_val _ _ HT2.out _ _ HR.out.1 HR.out.2).mono ?_
    rintro e w3 ⟨rfl, hb3⟩
    have hbel : Below w.heap.size w w3 := Kt.next (Kt.next (Kt.next hb0 hb1) hb2) hb3
    clear hb0 hb1 hb2 hb3
    go_wp2
    all_goals go_ret
    all_goals first
      | exact ⟨rfl, hbel⟩
      | exact ⟨Kt.ret_bool (by rw [HL.out (by omega) (by omega) (by omega)]; simp <;> omega), hbel⟩

end Go.Proofs.YtpobjacfhgnfhaaDoor
