/- What the reference's Right, works, Works, Between, Ahead and Yearly return: their walks; what both the program and the reference answer. -/
import Derived.Test.YtjfgfchnpghpfaaDoorKept
import Derived.Test.YtjfgfchnpghpfaaDoorCivY
namespace Cv
/-- The k-th working day from a day on. -/
theorem ahead_ex {H : List Int} (h : asc (-1) H = true) {a k : Int} (h0 : 0 ≤ a) (h1 : a ≤ 730484) (hk : 0 ≤ k) (hn : k < cnt H 730485 - cnt H a) : ∃ d, a ≤ d ∧ d ≤ 730484 ∧ cnt H d - cnt H a = k ∧ wk H d = true := by
  obtain ⟨i, hi, h2, h3⟩ := between_nat (fun i => cnt H (a + (i : Int))) (cnt H a + k) (730485 - a).toNat (by show cnt H (a + 0) ≤ _; rw [Int.add_zero]; omega) (by show _ < cnt H (a + ((730485 - a).toNat : Int)); rw [show a + ((730485 - a).toNat : Int) = 730485 from by omega]; omega)
  have h2' : cnt H (a + (i : Int)) ≤ cnt H a + k := h2
  have h3' : cnt H a + k < cnt H (a + (i : Int) + 1) := by
    have e : a + ((i + 1 : Nat) : Int) = a + (i : Int) + 1 := by omega
    rw [← e]; exact h3
  have hs := cnt_step h (a + i) (by omega)
  refine ⟨a + i, by omega, by omega, ?_, ?_⟩
  · split at hs <;> omega
  · cases hw : wk H (a + i)
    · rw [hw] at hs; simp at hs; omega
    · rfl
theorem contains_no {H : List Int} {d : Int} (h : ∀ j, j < H.length → Ls.nth H j ≠ d) : H.contains d = false := by
  rw [Bool.eq_false_iff]
  intro e
  have hm : d ∈ H := by simpa using e
  obtain ⟨j, hj, he⟩ := List.getElem_of_mem hm
  exact h j hj (by rw [Ls.nth_get H j hj]; exact he)
theorem contains_yes {H : List Int} {d : Int} {j : Nat} (hj : j < H.length) (h : Ls.nth H j = d) : H.contains d = true := by
  have := Ls.nth_mem H j hj
  rw [h] at this
  simpa using this
theorem leap2004 : leap 2004 = true := by decide
theorem valid_yd (n : Int) : Valid 2004 (n.tdiv 100) (n.tmod 100) ↔ ydB n = true := by
  unfold Valid ydB
  rw [leap2004]
  simp only [Bool.and_eq_true, decide_eq_true_eq]
  by_cases h : 0 < n
  · have e1 : n.tdiv 100 = n / 100 := Int.tdiv_eq_ediv_of_nonneg (by omega)
    have e2 : n.tmod 100 = n % 100 := Int.tmod_eq_emod_of_nonneg (by omega)
    rw [e1, e2]
    constructor
    · rintro ⟨_, _, h1, h2, h3, h4⟩; exact ⟨⟨⟨⟨h, h1⟩, h2⟩, h3⟩, h4⟩
    · rintro ⟨⟨⟨⟨_, h1⟩, h2⟩, h3⟩, h4⟩; exact ⟨by omega, by omega, h1, h2, h3, h4⟩
  · have e1 := Int.mul_tdiv_add_tmod n 100
    have e2 : n.tdiv 100 ≤ 0 := by
      have : -n.tdiv 100 = (-n).tdiv 100 := by rw [Int.neg_tdiv]
      have h3 : 0 ≤ (-n).tdiv 100 := Int.tdiv_nonneg (by omega) (by omega)
      rw [Int.neg_tdiv] at h3
      omega
    constructor
    · rintro ⟨_, _, h1, _⟩; omega
    · rintro ⟨⟨⟨⟨h1, _⟩, _⟩, _⟩, _⟩; omega
end Cv
namespace Go.Proofs.YtjfgfchnpghpfaaDoor
open Go Go.RowKit
theorem rworks_any (d : Int) (A : Option Addr) (n cp : Nat) (H : List Int) (w : World) (hd : 0 ≤ d) (hl : H.length = n) (hz : Kt.Ints w w.heap.size .i64 A H) (hn : n ≤ 4611686018427387904) :
    Calls Tryd.prog 55 #[.int .i64 d, .slice A n cp] w fun e w' => e = .returned (.bool (Cv.wk H d)) ∧ w = w' := by
  have HL := Lib.hid hl
  clear hl
  go_enter Tryd.func55, Tryd.ntmps55
  go_wp2
  go_loop [5] (fun i => ∃ k : Nat, k ≤ n ∧ i = .int .i64 k ∧ Hid (∀ j, j < k → Ls.nth H j ≠ d)) (fun i => n - (intOf i).toNat)
  case atStart => exact ⟨0, Nat.zero_le _, rfl, Lib.hid (fun j h => by omega)⟩
  case round =>
    obtain ⟨k, hk, rfl, hno⟩ := hrel
    by_cases hlt : k < n
    · obtain ⟨b, o, rfl, hb, hc⟩ := hz (by have := HL.out; omega)
      have hcell := hc k (by have := HL.out; omega)
      clear hc
      obtain ⟨x, hx⟩ : ∃ x, Hid (Ls.nth H k = x) := ⟨_, Lib.hid rfl⟩
      rw [hx.out] at hcell
      cases hxd : (x == d)
      · have HN : Hid (∀ j, j < k + 1 → Ls.nth H j ≠ d) := Lib.hid (fun j hj => by
          rcases Nat.lt_or_ge j k with h | h
          · exact hno.out j h
          · obtain rfl : j = k := by omega
            rw [hx.out]
            simpa using hxd)
        go_wp2
        go_round
        case rel => exact ⟨k + 1, by omega, by go_num, HN⟩
        case measure => simp [intOf]; omega
      · have E : Hid (Cv.wk H d = false) := Lib.hid (by
          unfold Cv.wk
          rw [Cv.contains_yes (j := k) (by have := HL.out; omega) (by rw [hx.out]; simpa using hxd)]
          simp)
        go_wp2
        go_ret
        exact ⟨Kt.ret_bool E.out.symm, rfl⟩
    · obtain rfl : k = n := by omega
      have E : Hid (Cv.wk H d = decide (d % 7 < 5)) := Lib.hid (by
        unfold Cv.wk
        rw [Cv.contains_no (by rw [HL.out]; exact hno.out)]
        simp)
      go_wp2
      go_ret
      exact ⟨Kt.ret_bool E.out.symm, rfl⟩
/-- A call that answers (u, c) for the list H, wherever that lies, and leaves old memory alone. -/
def Ans (f : FuncId) (args : Value → Array Value) (H : List Int) (u : Value) (c : Int) : Prop :=
  ∀ (w : World) (A : Option Addr) (n cp : Nat), H.length = n → Kt.Ints w w.heap.size .i64 A H → Calls Tryd.prog f (args (.slice A n cp)) w fun e w' => e = .returned (.tuple #[u, .int .i64 c]) ∧ Below w.heap.size w w'
theorem both_works (H : List Int) (hH : H.length ≤ 4611686018427387904) (d : Int) : ∃ (b : Bool) (c : Int),
    Ans 25 (fun s => #[.int .i64 d, s]) H (.bool b) c ∧ Ans 26 (fun s => #[.int .i64 d, s]) H (.bool b) c := by
  have HR := Lib.hid (fun (w : World) A n cp (hl : H.length = n) hz => rright_any A n cp H w hl hz (by omega))
  cases hr : Cv.rightH H
  · refine ⟨false, 2, fun w A n cp hl hz => works_bad d hl hz hr (by omega), fun w A n cp hl hz => ?_⟩
    rw [hr] at HR
    have HR2 := Lib.hid (HR.out w A n cp hl hz)
    clear HR hl hz hr
    go_enter Tryd.func26, Tryd.ntmps26
    go_wp2_with fail
    refine HR2.out.mono ?_
    rintro e w' ⟨rfl, q, rfl⟩
    go_wp2_with fail
    go_ret2
    exact ⟨rfl, Kt.below_of_drewN _ _⟩
  · rw [hr] at HR
    by_cases h0 : d < 0
    · refine ⟨false, 2, fun w A n cp hl hz => works_day d 2 hl hz hr (.inl ⟨h0, rfl⟩), fun w A n cp hl hz => ?_⟩
      have HR2 := Lib.hid (HR.out w A n cp hl hz)
      have HW := Lib.hid (fun W => within_no d 730484 2 W (by omega) (.inl ⟨h0, rfl⟩))
      clear HR hl hz hr h0
      go_enter Tryd.func26, Tryd.ntmps26
      go_wp2_with fail
      refine HR2.out.mono ?_
      rintro e w' ⟨rfl, q, rfl⟩
      go_wp2_with fail
      refine (HW.out _).mono ?_
      rintro e w' ⟨rfl, rfl⟩
      go_wp2_with fail
      go_ret2
      exact ⟨rfl, Kt.below_of_drewN _ _⟩
    · by_cases h1 : 730484 < d
      · refine ⟨false, 3, fun w A n cp hl hz => works_day d 3 hl hz hr (.inr ⟨h1, rfl⟩), fun w A n cp hl hz => ?_⟩
        have HR2 := Lib.hid (HR.out w A n cp hl hz)
        have HW := Lib.hid (fun W => within_no d 730484 3 W (by omega) (.inr ⟨h1, rfl⟩))
        clear HR hl hz hr h0 h1
        go_enter Tryd.func26, Tryd.ntmps26
        go_wp2_with fail
        refine HR2.out.mono ?_
        rintro e w' ⟨rfl, q, rfl⟩
        go_wp2_with fail
        refine (HW.out _).mono ?_
        rintro e w' ⟨rfl, rfl⟩
        go_wp2_with fail
        go_ret2
        exact ⟨rfl, Kt.below_of_drewN _ _⟩
      · obtain ⟨b, hb⟩ : ∃ b, Hid (Cv.wk H d = b) := ⟨_, Lib.hid rfl⟩
        refine ⟨b, 0, fun w A n cp hl hz => by rw [← hb.out]; exact works_ok d hl hz hr (by omega) (by omega), fun w A n cp hl hz => ?_⟩
        have HR2 := Lib.hid (HR.out w A n cp hl hz)
        have HW := Lib.hid (fun W => within_ok d 730484 W (by omega) (by omega))
        have HK := Lib.hid (fun (q : Nat) => rworks_any d A n cp H (w.drewN q) (by omega) hl hz (by omega))
        rw [hb.out] at HK
        clear HR hl hz hr h0 h1
        go_enter Tryd.func26, Tryd.ntmps26
        go_wp2_with fail
        refine HR2.out.mono ?_
        rintro e w' ⟨rfl, q, rfl⟩
        go_wp2_with fail
        refine (HW.out _).mono ?_
        rintro e w' ⟨rfl, rfl⟩
        go_wp2_with fail
        refine (HK.out _).mono ?_
        rintro e w' ⟨rfl, rfl⟩
        go_wp2_with fail
        go_ret2
        exact ⟨rfl, Kt.below_of_drewN _ _⟩
end Go.Proofs.YtjfgfchnpghpfaaDoor
