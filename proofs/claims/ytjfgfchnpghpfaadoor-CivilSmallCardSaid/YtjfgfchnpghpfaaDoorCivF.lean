/- What Right, counter and its closures of package civil return: their walks. -/
import Derived.Test.YtjfgfchnpghpfaaDoorCivE
import Derived.Test.YtjfgfchnpghpfaaDoorCivW
import Derived.Laws.EntriesVeiled
namespace Go.Proofs.YtjfgfchnpghpfaaDoor
open Go Go.RowKit
theorem right_any (A : Option Addr) (n cp : Nat) (H : List Int) (w : World) (hl : H.length = n) (hz : Kt.Ints w w.heap.size .i64 A H) (hn : n ≤ 4611686018427387904) :
    Calls Tryd.prog 27 #[.slice A n cp] w fun e w' => e = .returned (.bool (Cv.rightH H)) ∧ w = w' := by
  by_cases h : n ≤ 1000
  · have E0 : Hid (Cv.rightH H = Cv.asc (-1) H) := Lib.hid (by unfold Cv.rightH; rw [hl, decide_eq_true h]; rfl)
    have HL := Lib.hid hl
    clear hl
    go_enter Tryd.func27, Tryd.ntmps27
    go_wp2
    go_loop [3, 11] (fun l i => ∃ (k : Nat) (last : Int), k ≤ n ∧ i = .int .i64 k ∧ l = .int .i64 last ∧ Hid (Cv.asc (-1) H = Cv.asc last (H.drop k))) (fun _ i => n - (intOf i).toNat)
    case atStart => exact ⟨0, -1, Nat.zero_le _, rfl, rfl, Lib.hid (by simp)⟩
    case round =>
      obtain ⟨k, last, hk, rfl, rfl, ha⟩ := hrel
      by_cases hlt : k < n
      · obtain ⟨b, o, rfl, hb, hc⟩ := hz (by have := HL.out; omega)
        have hcell := hc k (by have := HL.out; omega)
        clear hc
        obtain ⟨x, hx⟩ : ∃ x, Hid (Ls.nth H k = x) := ⟨_, Lib.hid rfl⟩
        rw [hx.out] at hcell
        have hstep := ha.out
        rw [Cv.drop_cons (by have := HL.out; omega), hx.out, Cv.asc] at hstep
        have HS := Lib.hid hstep
        clear hstep
        by_cases h1 : x ≤ last
        · have E : Hid (Cv.rightH H = false) := Lib.hid (by rw [E0.out, HS.out, decide_eq_false (by omega)]; rfl)
          go_wp2
          go_ret
          exact ⟨Kt.ret_bool E.out.symm, rfl⟩
        · by_cases h2 : 730484 < x
          · have E : Hid (Cv.rightH H = false) := Lib.hid (by rw [E0.out, HS.out, decide_eq_false (show ¬ x ≤ 730484 by omega), Bool.and_false]; rfl)
            go_wp2
            go_ret
            exact ⟨Kt.ret_bool E.out.symm, rfl⟩
          · have HA : Hid (Cv.asc (-1) H = Cv.asc x (H.drop (k + 1))) := Lib.hid (by rw [HS.out, decide_eq_true (show last < x by omega), decide_eq_true (show x ≤ 730484 by omega)]; rfl)
            go_wp2
            go_round
            case rel => exact ⟨k + 1, x, by omega, by go_num, rfl, HA⟩
            case measure => simp [intOf]; omega
      · obtain rfl : k = n := by omega
        have E : Hid (Cv.rightH H = true) := Lib.hid (by rw [E0.out, ha.out, List.drop_of_length_le (by rw [HL.out]; exact Nat.le_refl _)]; rfl)
        go_wp2
        go_ret
        exact ⟨Kt.ret_bool E.out.symm, rfl⟩
  · have E : Hid (Cv.rightH H = false) := Lib.hid (by unfold Cv.rightH; rw [hl, decide_eq_false h]; rfl)
    clear hl
    go_enter Tryd.func27, Tryd.ntmps27
    go_wp2
    go_ret
    exact ⟨Kt.ret_bool E.out.symm, rfl⟩
theorem bef_any (d : Int) (g : Nat) (A : Option Addr) (n cp : Nat) (H : List Int) (w : World) (hl : H.length = n) (hz : Kt.Ints w w.heap.size .i64 A H) (hg : w.cell? ⟨g, 0, none⟩ = some (.slice A n cp)) (hn : n ≤ 1000) (hpos : ∀ x ∈ H, 0 ≤ x) :
    Calls Tryd.prog 60 #[.int .i64 d, .pointer (some ⟨g, 0, none⟩)] w fun e w' => e = .returned (.int .i64 (Cv.bef d H)) ∧ w = w' := by
  have HL := Lib.hid hl
  have HP := Lib.hid hpos
  clear hl hpos
  go_enter Tryd.func60, Tryd.ntmps60
  go_wp2
  go_loop [4, 9] (fun c i => ∃ (k : Nat) (q : Int), k ≤ n ∧ i = .int .i64 k ∧ c = .int .i64 q ∧ 0 ≤ q ∧ q ≤ k ∧ Hid (Cv.bef d H = q + Cv.bef d (H.drop k))) (fun _ i => n - (intOf i).toNat)
  case atStart => exact ⟨0, 0, Nat.zero_le _, rfl, rfl, by omega, by omega, Lib.hid (by simp)⟩
  case round =>
    obtain ⟨k, q, hk, rfl, rfl, hq0, hq1, hbf⟩ := hrel
    by_cases hlt : k < n
    · obtain ⟨b, o, rfl, hb, hc⟩ := hz (by have := HL.out; omega)
      have hcell := hc k (by have := HL.out; omega)
      clear hc
      obtain ⟨x, hx⟩ : ∃ x, Hid (Ls.nth H k = x) := ⟨_, Lib.hid rfl⟩
      have hx0 : 0 ≤ x := by rw [← hx.out]; exact HP.out _ (Ls.nth_mem H k (by have := HL.out; omega))
      rw [hx.out] at hcell
      have hstep := hbf.out
      rw [Cv.drop_cons (by have := HL.out; omega), hx.out, Cv.bef] at hstep
      have HS := Lib.hid hstep
      clear hstep
      by_cases h1 : d ≤ x
      · have E : Hid (Cv.bef d H = q) := Lib.hid (by rw [HS.out, if_pos h1]; omega)
        go_wp2_with fail
        go_ret
        exact ⟨Kt.ret_int E.out.symm, rfl⟩
      · cases hw : decide (x % 7 < 5)
        · have HA : Hid (Cv.bef d H = q + Cv.bef d (H.drop (k + 1))) := Lib.hid (by rw [HS.out, if_neg h1, if_neg (by simpa using hw)]; omega)
          go_wp2_with fail
          refine (work_any x _ hx0).mono ?_
          rw [hw]
          rintro e w' ⟨rfl, rfl⟩
          go_wp2_with fail
          go_round
          case rel => exact ⟨k + 1, q, by omega, by go_num, rfl, by omega, by omega, HA⟩
          case measure => simp [intOf]; omega
        · have HA : Hid (Cv.bef d H = q + 1 + Cv.bef d (H.drop (k + 1))) := Lib.hid (by rw [HS.out, if_neg h1, if_pos (by simpa using hw)]; omega)
          go_wp2_with fail
          refine (work_any x _ hx0).mono ?_
          rw [hw]
          rintro e w' ⟨rfl, rfl⟩
          go_wp2_with fail
          go_round
          case rel => exact ⟨k + 1, q + 1, by omega, by go_num, rfl, by omega, by omega, HA⟩
          case measure => simp [intOf]; omega
    · obtain rfl : k = n := by omega
      have E : Hid (Cv.bef d H = q) := Lib.hid (by rw [hbf.out, List.drop_of_length_le (by rw [HL.out]; exact Nat.le_refl _), Cv.bef]; omega)
      go_wp2_with fail
      go_ret
      exact ⟨Kt.ret_int E.out.symm, rfl⟩
/-- Block g holds the counter of the holidays H. -/
def Cnt (w : World) (g : Nat) (H : List Int) : Prop :=
  ∃ (b : Nat) (A : Option Addr) (n cp : Nat), w.cell? ⟨g, 0, none⟩ = some (.func (Fn.func 60) #[] #[.pointer (some ⟨b, 0, none⟩)]) ∧ w.cell? ⟨b, 0, none⟩ = some (.slice A n cp) ∧ H.length = n ∧ n ≤ 1000 ∧ Kt.Ints w w.heap.size .i64 A H ∧ Cv.asc (-1) H = true
theorem Cnt.drewN {w : World} {g : Nat} {H : List Int} (h : Cnt w g H) (k : Nat) : Cnt (w.drewN k) g H := h
theorem counter_any (A : Option Addr) (n cp : Nat) (H : List Int) (w : World) (hl : H.length = n) (hz : Kt.Ints w w.heap.size .i64 A H) (hr : Cv.rightH H = true) :
    Calls Tryd.prog 54 #[.slice A n cp] w fun e w' => ∃ g, e = .returned (.func (Fn.func 62) #[] #[.pointer (some ⟨g, 0, none⟩)]) ∧ Cnt w' g H ∧ Below w.heap.size w w' := by
  go_enter Tryd.func54, Tryd.ntmps54
  go_wp2_with fail

  go_ret
  have b1 : Below w.heap.size w (w.alloc (.cells #[.slice A n cp] 22)) := (Below.refl _ _).alloc (Nat.le_refl _) _
  have hr2 := hr
  unfold Cv.rightH at hr2
  simp only [Bool.and_eq_true, decide_eq_true_eq] at hr2
  refine ⟨w.heap.size + 1, rfl, ⟨w.heap.size, A, n, cp, ?_, ?_, hl, by omega, ?_, hr2.2⟩, b1.alloc b1.size _⟩
  · simp
  · simp
  · exact (hz.on b1).on ((Below.refl _ _).alloc (Nat.le_refl _) _)
theorem cnt_any (d : Int) (g : Nat) (H : List Int) (w : World) (h0 : 0 ≤ d) (h1 : d ≤ 730485) (hc : Cnt w g H) :
    Calls Tryd.prog 62 #[.int .i64 d, .pointer (some ⟨g, 0, none⟩)] w fun e w' => e = .returned (.int .i64 (Cv.cnt H d)) ∧ w = w' := by
  obtain ⟨b, A, n, cp, hg, hb, hl, hn, hz, ha⟩ := hc
  have HB := Lib.hid (bef_any d b A n cp H w hl hz hb hn (fun x hx => by have := Cv.asc_mem ha x hx; omega))
  obtain ⟨q, hq⟩ : ∃ q, Hid (Cv.bef d H = q) := ⟨_, Lib.hid rfl⟩
  have hbd := Cv.bef_bd d H
  rw [hq.out] at HB hbd
  rw [hl] at hbd
  obtain ⟨q0, q1⟩ := hbd
  have E : Hid (d / 7 * 5 + min (d % 7) 5 - q = Cv.cnt H d) := Lib.hid (by unfold Cv.cnt; rw [hq.out])
  clear hb hz ha hl
  go_enter Tryd.func62, Tryd.ntmps62
  go_wp2_with fail
  refine HB.out.mono ?_
  rintro e w' ⟨rfl, rfl⟩
  go_wp2_with fail
  go_ret
  exact ⟨Kt.ret_int E.out, rfl⟩
end Go.Proofs.YtjfgfchnpghpfaaDoor
