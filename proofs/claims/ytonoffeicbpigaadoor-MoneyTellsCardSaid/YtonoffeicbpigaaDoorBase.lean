/- What Pick, amount, Right, part, oneIf and Share of package money return: their walks. -/
import Derived.Test.YtonoffeicbpigaaDoorProg
import Derived.Test.YtonoffeicbpigaaDoorKit
import Derived.Test.YtonoffeicbpigaaDoorMath
import Derived.Deep.QuietTactic
import Derived.BigQuiet
import Derived.Outline
namespace Go.Proofs.YtonoffeicbpigaaDoor
open Go Go.RowKit

theorem right_yes (c : Int) (w : World) (h1 : -1000000000000000 ≤ c) (h2 : c ≤ 1000000000000000) :
    Calls Tryd.prog 13 #[.int .i64 c] w fun e w' => e = .returned (.bool true) ∧ w = w' := by
  go_enter Tryd.func13, Tryd.ntmps13
  go_wp2
  go_ret
  exact ⟨rfl, rfl⟩
theorem right_no (c : Int) (w : World) (h : c < -1000000000000000 ∨ 1000000000000000 < c) :
    Calls Tryd.prog 13 #[.int .i64 c] w fun e w' => e = .returned (.bool false) ∧ w = w' := by
  rcases h with h | h
  · go_enter Tryd.func13, Tryd.ntmps13
    go_wp2
    go_ret
    exact ⟨rfl, rfl⟩
  · have h' : -1000000000000000 ≤ c := by omega
    go_enter Tryd.func13, Tryd.ntmps13
    go_wp2
    go_ret
    exact ⟨Kt.ret_bool (by simp; omega), rfl⟩
def inR (c : Int) : Bool := decide (-1000000000000000 ≤ c ∧ c ≤ 1000000000000000)
theorem right_any (c : Int) (w : World) :
    Calls Tryd.prog 13 #[.int .i64 c] w fun e w' => e = .returned (.bool (inR c)) ∧ w = w' := by
  by_cases h : -1000000000000000 ≤ c ∧ c ≤ 1000000000000000
  · have e : inR c = true := by simp [inR, h]
    rw [e]; exact right_yes c w h.1 h.2
  · have e : inR c = false := by simp only [inR, decide_eq_false_iff_not]; exact h
    rw [e]; exact right_no c w (by omega)

theorem part_any (c s wh : Int) (w : World) (h1 : -1000000000000000 ≤ c) (h2 : c ≤ 1000000000000000) (h3 : 0 ≤ s) (h4 : s ≤ wh) (h5 : s ≤ 1000000) (h6 : 1 ≤ wh) (h7 : wh ≤ 4096000000) :
    Calls Tryd.prog 22 #[.int .i64 c, .int .i64 s, .int .i64 wh] w fun e w' => e = .returned (.tuple #[.int .i64 (c * s / wh), .int .i64 (c * s % wh)]) ∧ ∃ n, w' = w.drewN n := by
  by_cases h : c.tmod wh < 0
  · obtain ⟨e1, e2⟩ := Mny.part_neg c s wh h1 h2 h3 h4 h5 h6 h7 h
    have E1 := Lib.hid e1
    have E2 := Lib.hid e2
    clear e1 e2
    go_enter Tryd.func22, Tryd.ntmps22
    go_wp2
    go_quiet (fail)
    go_wp2
    go_quiet (fail)
    go_wp2
    go_ret2
    exact ⟨Kt.ret_ii E1.out E2.out, _, World.drewN_drewN _ _ _⟩
  · obtain ⟨e1, e2⟩ := Mny.part_pos c s wh h1 h2 h3 h4 h5 h6 h7 (by omega)
    have E1 := Lib.hid e1
    have E2 := Lib.hid e2
    clear e1 e2
    go_enter Tryd.func22, Tryd.ntmps22
    go_wp2
    go_quiet (fail)
    go_wp2
    go_quiet (fail)
    go_wp2
    go_ret2
    exact ⟨Kt.ret_ii E1.out E2.out, _, World.drewN_drewN _ _ _⟩

theorem oneIf_any (b : Bool) (w : World) : Calls Tryd.prog 25 #[.bool b] w fun e w' => e = .returned (.int .i64 (Mny.one b)) ∧ w = w' := by
  cases b
  · go_enter Tryd.func25, Tryd.ntmps25
    go_wp2
    go_ret
    exact ⟨rfl, rfl⟩
  · go_enter Tryd.func25, Tryd.ntmps25
    go_wp2
    go_ret
    exact ⟨rfl, rfl⟩

/-! ### The four closures -/
theorem clo1 (w : World) : Calls Tryd.prog 23 #[] w fun e w' => e = .returned (.int .i64 0) ∧ w = w' := by
  go_enter Tryd.func23, Tryd.ntmps23
  go_wp2
  go_ret
  exact ⟨rfl, rfl⟩
theorem clo2 (b : Nat) (r : Int) (w : World) (h : w.cell? ⟨b, 0, none⟩ = some (.int .i64 r)) :
    Calls Tryd.prog 24 #[.pointer (some ⟨b, 0, none⟩)] w fun e w' => e = .returned (.int .i64 (Mny.one (decide (0 < r)))) ∧ w = w' := by
  go_enter Tryd.func24, Tryd.ntmps24
  go_wp2_with (go_at_call 25; refine (oneIf_any _ _).mono ?_; rintro e w' ⟨rfl, rfl⟩)
  go_ret
  exact ⟨rfl, rfl⟩
theorem clo3 (b d : Nat) (r c : Int) (w : World) (h : w.cell? ⟨b, 0, none⟩ = some (.int .i64 r)) (h' : w.cell? ⟨d, 0, none⟩ = some (.int .i64 c)) (h1 : 0 ≤ r) (h2 : r < 10000) :
    Calls Tryd.prog 26 #[.pointer (some ⟨b, 0, none⟩), .pointer (some ⟨d, 0, none⟩)] w fun e w' => e = .returned (.int .i64 (Mny.one (decide (10000 < 2 * r) || (2 * r == 10000 && decide (0 < c))))) ∧ w = w' := by
  go_enter Tryd.func26, Tryd.ntmps26
  go_wp2_with (go_at_call 25; refine (oneIf_any _ _).mono ?_; rintro e w' ⟨rfl, rfl⟩)
  all_goals go_ret
  all_goals exact ⟨Kt.ret_int (congrArg Mny.one (by simp [*])), rfl⟩
theorem tm2 (d : Int) : (d.tmod 2 != 0) = (d % 2 != 0) := by
  have e := Mny.tdm d 2
  have h1 := Mny.tm_lt d 2 (by omega)
  have h2 := Mny.lt_tm d 2 (by omega)
  rw [Bool.eq_iff_iff]
  simp only [bne_iff_ne, ne_eq]
  omega
theorem clo4 (b d : Nat) (r q : Int) (w : World) (h : w.cell? ⟨b, 0, none⟩ = some (.int .i64 r)) (h' : w.cell? ⟨d, 0, none⟩ = some (.int .i64 q)) (h1 : 0 ≤ r) (h2 : r < 10000) :
    Calls Tryd.prog 27 #[.pointer (some ⟨b, 0, none⟩), .pointer (some ⟨d, 0, none⟩)] w fun e w' => e = .returned (.int .i64 (Mny.one (decide (10000 < 2 * r) || (2 * r == 10000 && (q % 2 != 0))))) ∧ w = w' := by
  have e := Lib.hid (tm2 q)
  go_enter Tryd.func27, Tryd.ntmps27
  go_wp2_with (go_at_call 25; refine (oneIf_any _ _).mono ?_; rintro e w' ⟨rfl, rfl⟩)
  all_goals go_ret
  all_goals exact ⟨Kt.ret_int (congrArg Mny.one (by rw [← e.out]; simp [*])), rfl⟩

/-! ### Share -/
theorem ins1 (W : World) (r : Nat) (v : Value) (h : r = W.heap.size) : (Instr.mapUpdate 53 (.map (some r)) (.int .u8 1) v).run Tryd.prog (W.alloc (.map #[] 0)) = .ok () (W.alloc (.map #[⟨.int .u8 1, v, 0⟩] 1)) := by
  subst h
  exact Kt.run_insert_int W #[] 0 1 v Tryd.underlying53 Tryd.underlying5 rfl
theorem ins2 (W : World) (r : Nat) (v1 v : Value) (h : r = W.heap.size) : (Instr.mapUpdate 53 (.map (some r)) (.int .u8 2) v).run Tryd.prog (W.alloc (.map #[⟨.int .u8 1, v1, 0⟩] 1)) = .ok () (W.alloc (.map #[⟨.int .u8 1, v1, 0⟩, ⟨.int .u8 2, v, 1⟩] 2)) := by
  subst h
  exact Kt.run_insert_int W #[⟨.int .u8 1, v1, 0⟩] 1 2 v Tryd.underlying53 Tryd.underlying5 rfl
theorem ins3 (W : World) (r : Nat) (v1 v2 v : Value) (h : r = W.heap.size) : (Instr.mapUpdate 53 (.map (some r)) (.int .u8 3) v).run Tryd.prog (W.alloc (.map #[⟨.int .u8 1, v1, 0⟩, ⟨.int .u8 2, v2, 1⟩] 2)) = .ok () (W.alloc (.map #[⟨.int .u8 1, v1, 0⟩, ⟨.int .u8 2, v2, 1⟩, ⟨.int .u8 3, v, 2⟩] 3)) := by
  subst h
  exact Kt.run_insert_int W #[⟨.int .u8 1, v1, 0⟩, ⟨.int .u8 2, v2, 1⟩] 2 3 v Tryd.underlying53 Tryd.underlying5 rfl
theorem ins4 (W : World) (r : Nat) (v1 v2 v3 v : Value) (h : r = W.heap.size) : (Instr.mapUpdate 53 (.map (some r)) (.int .u8 4) v).run Tryd.prog (W.alloc (.map #[⟨.int .u8 1, v1, 0⟩, ⟨.int .u8 2, v2, 1⟩, ⟨.int .u8 3, v3, 2⟩] 3)) = .ok () (W.alloc (.map #[⟨.int .u8 1, v1, 0⟩, ⟨.int .u8 2, v2, 1⟩, ⟨.int .u8 3, v3, 2⟩, ⟨.int .u8 4, v, 3⟩] 4)) := by
  subst h
  exact Kt.run_insert_int W #[⟨.int .u8 1, v1, 0⟩, ⟨.int .u8 2, v2, 1⟩, ⟨.int .u8 3, v3, 2⟩] 3 4 v Tryd.underlying53 Tryd.underlying5 rfl
theorem look1 (W : World) (r : Nat) (v1 v2 v3 v4 : Value) (h : r = W.heap.size) : (Instr.lookup 53 (.map (some r)) (.int .u8 1) true).run Tryd.prog (W.alloc (.map #[⟨.int .u8 1, v1, 0⟩, ⟨.int .u8 2, v2, 1⟩, ⟨.int .u8 3, v3, 2⟩, ⟨.int .u8 4, v4, 3⟩] 4)) = .ok (.tuple #[v1, .bool true]) (W.alloc (.map #[⟨.int .u8 1, v1, 0⟩, ⟨.int .u8 2, v2, 1⟩, ⟨.int .u8 3, v3, 2⟩, ⟨.int .u8 4, v4, 3⟩] 4)) := by
  subst h
  exact Kt.run_look_int _ _ _ _ 0 1 v1 Tryd.underlying53 Tryd.underlying5 (heap_alloc_new W _) rfl
theorem look2 (W : World) (r : Nat) (v1 v2 v3 v4 : Value) (h : r = W.heap.size) : (Instr.lookup 53 (.map (some r)) (.int .u8 2) true).run Tryd.prog (W.alloc (.map #[⟨.int .u8 1, v1, 0⟩, ⟨.int .u8 2, v2, 1⟩, ⟨.int .u8 3, v3, 2⟩, ⟨.int .u8 4, v4, 3⟩] 4)) = .ok (.tuple #[v2, .bool true]) (W.alloc (.map #[⟨.int .u8 1, v1, 0⟩, ⟨.int .u8 2, v2, 1⟩, ⟨.int .u8 3, v3, 2⟩, ⟨.int .u8 4, v4, 3⟩] 4)) := by
  subst h
  exact Kt.run_look_int _ _ _ _ 1 2 v2 Tryd.underlying53 Tryd.underlying5 (heap_alloc_new W _) rfl
theorem look3 (W : World) (r : Nat) (v1 v2 v3 v4 : Value) (h : r = W.heap.size) : (Instr.lookup 53 (.map (some r)) (.int .u8 3) true).run Tryd.prog (W.alloc (.map #[⟨.int .u8 1, v1, 0⟩, ⟨.int .u8 2, v2, 1⟩, ⟨.int .u8 3, v3, 2⟩, ⟨.int .u8 4, v4, 3⟩] 4)) = .ok (.tuple #[v3, .bool true]) (W.alloc (.map #[⟨.int .u8 1, v1, 0⟩, ⟨.int .u8 2, v2, 1⟩, ⟨.int .u8 3, v3, 2⟩, ⟨.int .u8 4, v4, 3⟩] 4)) := by
  subst h
  exact Kt.run_look_int _ _ _ _ 2 3 v3 Tryd.underlying53 Tryd.underlying5 (heap_alloc_new W _) rfl
theorem look4 (W : World) (r : Nat) (v1 v2 v3 v4 : Value) (h : r = W.heap.size) : (Instr.lookup 53 (.map (some r)) (.int .u8 4) true).run Tryd.prog (W.alloc (.map #[⟨.int .u8 1, v1, 0⟩, ⟨.int .u8 2, v2, 1⟩, ⟨.int .u8 3, v3, 2⟩, ⟨.int .u8 4, v4, 3⟩] 4)) = .ok (.tuple #[v4, .bool true]) (W.alloc (.map #[⟨.int .u8 1, v1, 0⟩, ⟨.int .u8 2, v2, 1⟩, ⟨.int .u8 3, v3, 2⟩, ⟨.int .u8 4, v4, 3⟩] 4)) := by
  subst h
  exact Kt.run_look_int _ _ _ _ 3 4 v4 Tryd.underlying53 Tryd.underlying5 (heap_alloc_new W _) rfl
theorem zeroF (W : World) : (zeroValue 51).run Tryd.prog W = .ok .nilFunc W := by kernel_rfl
theorem lookN (W : World) (r : Nat) (k : Int) (v1 v2 v3 v4 : Value) (h1 : (k == 1) = false) (h2 : (k == 2) = false) (h3 : (k == 3) = false) (h4 : (k == 4) = false) (h : r = W.heap.size) : (Instr.lookup 53 (.map (some r)) (.int .u8 k) true).run Tryd.prog (W.alloc (.map #[⟨.int .u8 1, v1, 0⟩, ⟨.int .u8 2, v2, 1⟩, ⟨.int .u8 3, v3, 2⟩, ⟨.int .u8 4, v4, 3⟩] 4)) = .ok (.tuple #[.nilFunc, .bool false]) (W.alloc (.map #[⟨.int .u8 1, v1, 0⟩, ⟨.int .u8 2, v2, 1⟩, ⟨.int .u8 3, v3, 2⟩, ⟨.int .u8 4, v4, 3⟩] 4)) := by
  subst h
  refine Kt.run_look_none _ _ _ _ k _ Tryd.underlying53 Tryd.underlying5 (heap_alloc_new W _) ?_ (zeroF _)
  simp [Instr.findNow, Instr.sameNow, h1, h2, h3, h4]
theorem share_1 (c s : Int) (w : World) (h1 : -1000000000000000 ≤ c) (h2 : c ≤ 1000000000000000) (h3 : 0 ≤ s) (h4 : s ≤ 10000) :
    Calls Tryd.prog 6 #[.int .i64 c, .int .i64 s, .int .u8 1] w fun e w' => e = .returned (.tuple #[.int .i64 (Mny.share c s 1), .int .i64 0]) ∧ Below w.heap.size w w' := by
  have hmm := @run_makeMap Tryd.prog
  have i1 := ins1
  have i2 := ins2
  have i3 := ins3
  have i4 := ins4
  have l1 := look1
  have r1 : 0 ≤ c * s % 10000 := by omega
  have r2 : c * s % 10000 < 10000 := by omega
  go_enter Tryd.func6, Tryd.ntmps6
  go_wp2_with (first | (go_at_call 13; refine (right_yes _ _ (by omega) (by omega)).mono ?_; rintro e w' ⟨rfl, rfl⟩) | (go_at_call 22; refine (part_any _ _ _ _ (by omega) (by omega) (by omega) (by omega) (by omega) (by omega) (by omega)).mono ?_; rintro e w' ⟨rfl, n, rfl⟩))
  clear i1 i2 i3 i4 l1 hmm
  go_quiet ((go_at_call 23; exact Kt.quiet_left (clo1 _)))
  go_wp2
  go_ret2
  exact ⟨Kt.ret_ii (Mny.share_w1 c s h1 h2 h3 h4) rfl, Kt.below_drewN ((((Kt.below_drewN ((Below.refl _ _).alloc (Nat.le_refl _) _) _).alloc (by simp <;> omega) _).alloc (by simp <;> omega) _).alloc (by simp <;> omega) _) _⟩
theorem share_2 (c s : Int) (w : World) (h1 : -1000000000000000 ≤ c) (h2 : c ≤ 1000000000000000) (h3 : 0 ≤ s) (h4 : s ≤ 10000) :
    Calls Tryd.prog 6 #[.int .i64 c, .int .i64 s, .int .u8 2] w fun e w' => e = .returned (.tuple #[.int .i64 (Mny.share c s 2), .int .i64 0]) ∧ Below w.heap.size w w' := by
  have hmm := @run_makeMap Tryd.prog
  have i1 := ins1
  have i2 := ins2
  have i3 := ins3
  have i4 := ins4
  have l1 := look2
  have r1 : 0 ≤ c * s % 10000 := by omega
  have r2 : c * s % 10000 < 10000 := by omega
  go_enter Tryd.func6, Tryd.ntmps6
  go_wp2_with (first | (go_at_call 13; refine (right_yes _ _ (by omega) (by omega)).mono ?_; rintro e w' ⟨rfl, rfl⟩) | (go_at_call 22; refine (part_any _ _ _ _ (by omega) (by omega) (by omega) (by omega) (by omega) (by omega) (by omega)).mono ?_; rintro e w' ⟨rfl, n, rfl⟩))
  clear i1 i2 i3 i4 l1 hmm
  go_quiet ((go_at_call 24; exact Kt.quiet_left (clo2 (w.heap.size + 1 + 1) (c * s % 10000) _ (by go_simp))))
  go_wp2
  go_ret2
  exact ⟨Kt.ret_ii ((Mny.share_wb c s _ h1 h2 h3 h4).trans (Mny.share2 c s).symm) rfl, Kt.below_drewN ((((Kt.below_drewN ((Below.refl _ _).alloc (Nat.le_refl _) _) _).alloc (by simp <;> omega) _).alloc (by simp <;> omega) _).alloc (by simp <;> omega) _) _⟩
theorem share_3 (c s : Int) (w : World) (h1 : -1000000000000000 ≤ c) (h2 : c ≤ 1000000000000000) (h3 : 0 ≤ s) (h4 : s ≤ 10000) :
    Calls Tryd.prog 6 #[.int .i64 c, .int .i64 s, .int .u8 3] w fun e w' => e = .returned (.tuple #[.int .i64 (Mny.share c s 3), .int .i64 0]) ∧ Below w.heap.size w w' := by
  have hmm := @run_makeMap Tryd.prog
  have i1 := ins1
  have i2 := ins2
  have i3 := ins3
  have i4 := ins4
  have l1 := look3
  have r1 : 0 ≤ c * s % 10000 := by omega
  have r2 : c * s % 10000 < 10000 := by omega
  go_enter Tryd.func6, Tryd.ntmps6
  go_wp2_with (first | (go_at_call 13; refine (right_yes _ _ (by omega) (by omega)).mono ?_; rintro e w' ⟨rfl, rfl⟩) | (go_at_call 22; refine (part_any _ _ _ _ (by omega) (by omega) (by omega) (by omega) (by omega) (by omega) (by omega)).mono ?_; rintro e w' ⟨rfl, n, rfl⟩))
  clear i1 i2 i3 i4 l1 hmm
  go_quiet ((go_at_call 26; exact Kt.quiet_left (clo3 (w.heap.size + 1 + 1) w.heap.size (c * s % 10000) c _ (by go_simp) (by go_simp) (by omega) (by omega))))
  go_wp2
  go_ret2
  exact ⟨Kt.ret_ii ((Mny.share_wb c s _ h1 h2 h3 h4).trans (Mny.share3 c s).symm) rfl, Kt.below_drewN ((((Kt.below_drewN ((Below.refl _ _).alloc (Nat.le_refl _) _) _).alloc (by simp <;> omega) _).alloc (by simp <;> omega) _).alloc (by simp <;> omega) _) _⟩
theorem share_4 (c s : Int) (w : World) (h1 : -1000000000000000 ≤ c) (h2 : c ≤ 1000000000000000) (h3 : 0 ≤ s) (h4 : s ≤ 10000) :
    Calls Tryd.prog 6 #[.int .i64 c, .int .i64 s, .int .u8 4] w fun e w' => e = .returned (.tuple #[.int .i64 (Mny.share c s 4), .int .i64 0]) ∧ Below w.heap.size w w' := by
  have hmm := @run_makeMap Tryd.prog
  have i1 := ins1
  have i2 := ins2
  have i3 := ins3
  have i4 := ins4
  have l1 := look4
  have r1 : 0 ≤ c * s % 10000 := by omega
  have r2 : c * s % 10000 < 10000 := by omega
  go_enter Tryd.func6, Tryd.ntmps6
  go_wp2_with (first | (go_at_call 13; refine (right_yes _ _ (by omega) (by omega)).mono ?_; rintro e w' ⟨rfl, rfl⟩) | (go_at_call 22; refine (part_any _ _ _ _ (by omega) (by omega) (by omega) (by omega) (by omega) (by omega) (by omega)).mono ?_; rintro e w' ⟨rfl, n, rfl⟩))
  clear i1 i2 i3 i4 l1 hmm
  go_quiet ((go_at_call 27; exact Kt.quiet_left (clo4 (w.heap.size + 1 + 1) (w.heap.size + 1) (c * s % 10000) (c * s / 10000) _ (by go_simp) (by go_simp) (by omega) (by omega))))
  go_wp2
  go_ret2
  exact ⟨Kt.ret_ii ((Mny.share_wb c s _ h1 h2 h3 h4).trans (Mny.share4 c s).symm) rfl, Kt.below_drewN ((((Kt.below_drewN ((Below.refl _ _).alloc (Nat.le_refl _) _) _).alloc (by simp <;> omega) _).alloc (by simp <;> omega) _).alloc (by simp <;> omega) _) _⟩

/-- Share of an amount, a share and a way. -/
theorem share_yes (c s k : Int) (w : World) (h1 : -1000000000000000 ≤ c) (h2 : c ≤ 1000000000000000) (h3 : 0 ≤ s) (h4 : s ≤ 10000) (h5 : 1 ≤ k) (h6 : k ≤ 4) :
    Calls Tryd.prog 6 #[.int .i64 c, .int .i64 s, .int .u8 k] w fun e w' => e = .returned (.tuple #[.int .i64 (Mny.share c s k), .int .i64 0]) ∧ Below w.heap.size w w' := by
  rcases (show k = 1 ∨ k = 2 ∨ k = 3 ∨ k = 4 by omega) with rfl | rfl | rfl | rfl
  · exact share_1 c s w h1 h2 h3 h4
  · exact share_2 c s w h1 h2 h3 h4
  · exact share_3 c s w h1 h2 h3 h4
  · exact share_4 c s w h1 h2 h3 h4
theorem share_bad1 (c s k : Int) (w : World) (h1 : c < -1000000000000000 ∨ 1000000000000000 < c) :
    Calls Tryd.prog 6 #[.int .i64 c, .int .i64 s, .int .u8 k] w fun e w' => e = .returned (.tuple #[.int .i64 0, .int .i64 2]) ∧ Below w.heap.size w w' := by
  go_enter Tryd.func6, Tryd.ntmps6
  go_wp2_with (go_at_call 13; refine (right_no _ _ h1).mono ?_; rintro e w' ⟨rfl, rfl⟩)
  go_ret2
  exact ⟨rfl, (Below.refl _ _).alloc (Nat.le_refl _) _⟩
theorem share_bad2 (c s k : Int) (w : World) (h1 : -1000000000000000 ≤ c) (h2 : c ≤ 1000000000000000) (h3 : s < 0) :
    Calls Tryd.prog 6 #[.int .i64 c, .int .i64 s, .int .u8 k] w fun e w' => e = .returned (.tuple #[.int .i64 0, .int .i64 2]) ∧ Below w.heap.size w w' := by
  go_enter Tryd.func6, Tryd.ntmps6
  go_wp2_with (go_at_call 13; refine (right_yes _ _ h1 h2).mono ?_; rintro e w' ⟨rfl, rfl⟩)
  go_ret2
  exact ⟨rfl, (Below.refl _ _).alloc (Nat.le_refl _) _⟩
theorem share_bad3 (c s k : Int) (w : World) (h1 : -1000000000000000 ≤ c) (h2 : c ≤ 1000000000000000) (h0 : 0 ≤ s) (h3 : 10000 < s) :
    Calls Tryd.prog 6 #[.int .i64 c, .int .i64 s, .int .u8 k] w fun e w' => e = .returned (.tuple #[.int .i64 0, .int .i64 2]) ∧ Below w.heap.size w w' := by
  go_enter Tryd.func6, Tryd.ntmps6
  go_wp2_with (go_at_call 13; refine (right_yes _ _ h1 h2).mono ?_; rintro e w' ⟨rfl, rfl⟩)
  go_ret2
  exact ⟨rfl, (Below.refl _ _).alloc (Nat.le_refl _) _⟩
theorem share_bad4 (c s k : Int) (w : World) (h1 : -1000000000000000 ≤ c) (h2 : c ≤ 1000000000000000) (h3 : 0 ≤ s) (h4 : s ≤ 10000) (k1 : (k == 1) = false) (k2 : (k == 2) = false) (k3 : (k == 3) = false) (k4 : (k == 4) = false) :
    Calls Tryd.prog 6 #[.int .i64 c, .int .i64 s, .int .u8 k] w fun e w' => e = .returned (.tuple #[.int .i64 0, .int .i64 2]) ∧ Below w.heap.size w w' := by
  have hmm := @run_makeMap Tryd.prog
  have i1 := ins1
  have i2 := ins2
  have i3 := ins3
  have i4 := ins4
  have l1 := fun W r v1 v2 v3 v4 => lookN W r k v1 v2 v3 v4 k1 k2 k3 k4
  clear k1 k2 k3 k4
  go_enter Tryd.func6, Tryd.ntmps6
  go_wp2_with (first | (go_at_call 13; refine (right_yes _ _ (by omega) (by omega)).mono ?_; rintro e w' ⟨rfl, rfl⟩) | (go_at_call 22; refine (part_any _ _ _ _ (by omega) (by omega) (by omega) (by omega) (by omega) (by omega) (by omega)).mono ?_; rintro e w' ⟨rfl, n, rfl⟩))
  clear i1 i2 i3 i4 l1 hmm
  go_ret2
  exact ⟨rfl, ((((Kt.below_drewN ((Below.refl _ _).alloc (Nat.le_refl _) _) _).alloc (by simp <;> omega) _).alloc (by simp <;> omega) _).alloc (by simp <;> omega) _)⟩

/-- Share of whatever numbers. -/
def shareOk (c s k : Int) : Bool := decide (-1000000000000000 ≤ c ∧ c ≤ 1000000000000000 ∧ 0 ≤ s ∧ s ≤ 10000 ∧ 1 ≤ k ∧ k ≤ 4)
def shareV (c s k : Int) : Int := if shareOk c s k then Mny.share c s k else 0
def shareE (c s k : Int) : Int := if shareOk c s k then 0 else 2
theorem share_any (c s k : Int) (w : World) :
    Calls Tryd.prog 6 #[.int .i64 c, .int .i64 s, .int .u8 k] w fun e w' => e = .returned (.tuple #[.int .i64 (shareV c s k), .int .i64 (shareE c s k)]) ∧ Below w.heap.size w w' := by
  unfold shareV shareE
  by_cases h : -1000000000000000 ≤ c ∧ c ≤ 1000000000000000 ∧ 0 ≤ s ∧ s ≤ 10000 ∧ 1 ≤ k ∧ k ≤ 4
  · have e : shareOk c s k = true := by simp [shareOk, h]
    rw [e]
    exact share_yes c s k w h.1 h.2.1 h.2.2.1 h.2.2.2.1 h.2.2.2.2.1 h.2.2.2.2.2
  · have e : shareOk c s k = false := by simp only [shareOk, decide_eq_false_iff_not]; exact h
    rw [e]
    by_cases hc : c < -1000000000000000 ∨ 1000000000000000 < c
    · exact share_bad1 c s k w hc
    · by_cases hs : s < 0
      · exact share_bad2 c s k w (by omega) (by omega) hs
      · by_cases hs2 : 10000 < s
        · exact share_bad3 c s k w (by omega) (by omega) (by omega) hs2
        · exact share_bad4 c s k w (by omega) (by omega) (by omega) (by omega) (beq_eq_false_iff_ne.2 (by omega)) (beq_eq_false_iff_ne.2 (by omega)) (beq_eq_false_iff_ne.2 (by omega)) (beq_eq_false_iff_ne.2 (by omega))

end Go.Proofs.YtonoffeicbpigaaDoor
