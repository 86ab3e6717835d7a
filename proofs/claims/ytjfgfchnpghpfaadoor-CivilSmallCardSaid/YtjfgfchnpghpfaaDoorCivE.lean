/- What Read and ReadTime of package civil return for any text: their walks. -/
import Derived.Test.YtjfgfchnpghpfaaDoorCivD
namespace Go.Proofs.YtjfgfchnpghpfaaDoor
open Go Go.RowKit
/-- Byte i of a text, as a number (0 beyond the end). -/
def at' (s : ByteArray) (i : Nat) : Int := if h : i < s.size then ((s[i]'h).toNat : Int) else 0
theorem at_in {s : ByteArray} {i : Nat} (h : i < s.size) : at' s i = ((s[i]'h).toNat : Int) := by unfold at'; rw [dif_pos h]
def rOk (s : ByteArray) : Prop := s.size = 10 ∧ at' s 4 = 45 ∧ at' s 7 = 45
instance (s : ByteArray) : Decidable (rOk s) := by unfold rOk; infer_instance
def rV (s : ByteArray) : Int := if rOk s then readV s else 0
def rE (s : ByteArray) : Int := if rOk s then readE s else 11
theorem rE_cases (s : ByteArray) : rE s = 0 ∨ rE s = 11 := by unfold rE readE; split <;> (try split) <;> simp
theorem rV_bd (s : ByteArray) : 0 ≤ rV s ∧ rV s ≤ 730484 := by
  unfold rV readV Cv.dayV
  split
  · split
    · rename_i h
      exact h.date.bd
    · omega
  · omega
theorem read_any (s : ByteArray) (w : World) (hm : s.size ≤ maxLen) : Calls Tryd.prog 36 #[.string s] w fun e w' => e = .returned (.tuple #[.int .i64 (rV s), .int .i64 (rE s)]) ∧ Below w.heap.size w w' := by
  unfold rV rE
  by_cases h : rOk s
  · rw [if_pos h, if_pos h]
    obtain ⟨h1, h2, h3⟩ := h
    rw [at_in (by omega)] at h2 h3
    exact read_in s w h1 (by omega) (by omega)
  · rw [if_neg h, if_neg h]
    by_cases h1 : s.size = 10
    · have h2 : (s[4]'(by omega)).toNat ≠ 45 ∨ (s[7]'(by omega)).toNat ≠ 45 := by
        by_cases h3 : (s[4]'(by omega)).toNat = 45
        · right
          intro h4
          exact h ⟨h1, by rw [at_in (by omega)]; omega, by rw [at_in (by omega)]; omega⟩
        · exact .inl h3
      refine (read_sep s w h1 h2).mono ?_
      rintro e w' ⟨rfl, rfl⟩
      exact ⟨rfl, Below.refl _ _⟩
    · refine (read_size s w h1 hm).mono ?_
      rintro e w' ⟨rfl, rfl⟩
      exact ⟨rfl, Below.refl _ _⟩
def tOk (s : ByteArray) : Prop := s.size = 16 ∧ at' s 10 = 32 ∧ at' s 13 = 58 ∧ rE (s.extract 0 10) = 0 ∧ 0 ≤ cut s 11 13 ∧ cut s 11 13 ≤ 23 ∧ 0 ≤ cut s 14 16 ∧ cut s 14 16 ≤ 59
instance (s : ByteArray) : Decidable (tOk s) := by unfold tOk; infer_instance
def tV (s : ByteArray) : Int := if tOk s then rV (s.extract 0 10) * 1440 + cut s 11 13 * 60 + cut s 14 16 else 0
def tE (s : ByteArray) : Int := if tOk s then 0 else 11
theorem readtime_size (s : ByteArray) (w : World) (hs : s.size ≠ 16) (_hm : s.size ≤ maxLen) :
    Calls Tryd.prog 38 #[.string s] w fun e w' => e = .returned (.tuple #[.int .i64 0, .int .i64 11]) ∧ w = w' := by
  have h1 : ((s.size : Int) != 16) = true := by simp; omega
  clear hs
  go_enter Tryd.func38, Tryd.ntmps38
  go_wp2
  go_ret2
  exact ⟨rfl, rfl⟩
theorem readtime_sep (s : ByteArray) (w : World) (hs : s.size = 16) (h : (s[10]'(by omega)).toNat ≠ 32 ∨ (s[13]'(by omega)).toNat ≠ 58) :
    Calls Tryd.prog 38 #[.string s] w fun e w' => e = .returned (.tuple #[.int .i64 0, .int .i64 11]) ∧ w = w' := by
  by_cases h4 : (s[10]'(by omega)).toNat = 32
  · have h7 : (s[13]'(by omega)).toNat ≠ 58 := by
      rcases h with h | h
      · exact absurd h4 h
      · exact h
    have e4 : ((s[10]'(by omega)).toNat : Int) = 32 := by omega
    have e7 : (((s[13]'(by omega)).toNat : Int) != 58) = true := by simp; omega
    clear h4 h7 h
    go_enter Tryd.func38, Tryd.ntmps38
    go_wp2
    go_ret2
    exact ⟨rfl, rfl⟩
  · have e4 : (((s[10]'(by omega)).toNat : Int) != 32) = true := by simp; omega
    clear h4 h
    go_enter Tryd.func38, Tryd.ntmps38
    go_wp2
    go_ret2
    exact ⟨rfl, rfl⟩
set_option maxRecDepth 100000 in
theorem readtime_in (s : ByteArray) (w : World) (hs : s.size = 16) (h4 : (s[10]'(by omega)).toNat = 32) (h7 : (s[13]'(by omega)).toNat = 58) :
    Calls Tryd.prog 38 #[.string s] w fun e w' => e = .returned (.tuple #[.int .i64 (tV s), .int .i64 (tE s)]) ∧ Below w.heap.size w w' := by
  have e4 : ((s[10]'(by omega)).toNat : Int) = 32 := by omega
  have e7 : ((s[13]'(by omega)).toNat : Int) = 58 := by omega
  have HOK : Hid (tOk s ↔ rE (s.extract 0 10) = 0 ∧ 0 ≤ cut s 11 13 ∧ cut s 11 13 ≤ 23 ∧ 0 ≤ cut s 14 16 ∧ cut s 14 16 ≤ 59) := Lib.hid (by
    unfold tOk
    rw [at_in (by omega), at_in (by omega), e4, e7]
    simp [hs])
  clear h4 h7
  obtain ⟨D, hD⟩ : ∃ Y, Hid (rV (s.extract 0 10) = Y) := ⟨_, Lib.hid rfl⟩
  obtain ⟨c, hc⟩ : ∃ Y, Hid (rE (s.extract 0 10) = Y) := ⟨_, Lib.hid rfl⟩
  obtain ⟨H, hH⟩ : ∃ Y, Hid (cut s 11 13 = Y) := ⟨_, Lib.hid rfl⟩
  obtain ⟨K, hK⟩ : ∃ Y, Hid (cut s 14 16 = Y) := ⟨_, Lib.hid rfl⟩
  have HH := Lib.hid (cut_any s 11 13 (by omega))
  have HK := Lib.hid (cut_any s 14 16 (by omega))
  rw [hH.out] at HH HOK
  rw [hK.out] at HK HOK
  rw [hc.out] at HOK
  have hD0 := rV_bd (s.extract 0 10)
  rw [hD.out] at hD0
  obtain ⟨D0, D1⟩ := hD0
  have hc0 := rE_cases (s.extract 0 10)
  rw [hc.out] at hc0
  have HR := Lib.hid (read_any (s.extract 0 10) w (by rw [ByteArray.size_extract]; unfold maxLen; omega))
  rw [hD.out, hc.out] at HR
  have EV : Hid (tOk s → tV s = D * 1440 + H * 60 + K ∧ tE s = 0) := Lib.hid (fun h => by unfold tV tE; rw [if_pos h, if_pos h, hD.out, hH.out, hK.out]; exact ⟨rfl, rfl⟩)
  have EN : Hid (¬ tOk s → tV s = 0 ∧ tE s = 11) := Lib.hid (fun h => by unfold tV tE; rw [if_neg h, if_neg h]; exact ⟨rfl, rfl⟩)
  have HB : Hid (c ≠ 0 ∨ H < 0 ∨ 23 < H ∨ K < 0 ∨ 59 < K → tV s = 0 ∧ tE s = 11) := Lib.hid (fun h => EN.out (fun h2 => by have := (HOK.out).1 h2; omega))
  have HG : Hid (c = 0 → ¬ H < 0 → ¬ 23 < H → ¬ K < 0 → ¬ 59 < K → tV s = D * 1440 + H * 60 + K ∧ tE s = 0) := Lib.hid (fun h1 h2 h3 h4 h5 => EV.out ((HOK.out).2 ⟨h1, by omega, by omega, by omega, by omega⟩))
  clear EV EN HOK
  go_enter Tryd.func38, Tryd.ntmps38
  go_wp2_with fail
  refine HR.out.mono ?_
  rintro e w1 ⟨rfl, b1⟩
  rcases hc0 with rfl | rfl
  · have HQH : Hid (∀ j, Calls Tryd.prog 57 #[.string (s.extract 11 13)] (w1.drewN j) fun e w' => e = .returned (.int .i64 H) ∧ w1.drewN j = w') := Lib.hid (fun j => HH.out _)
    have HQK : Hid (∀ j, Calls Tryd.prog 57 #[.string (s.extract 14 16)] (w1.drewN j) fun e w' => e = .returned (.int .i64 K) ∧ w1.drewN j = w') := Lib.hid (fun j => HK.out _)
    go_wp2_with fail
    go_quiet (first | (go_at_call_of 57 (Value.string (s.extract 11 13)); first | exact Kt.quiet_left (HQH.out _) | exact Kt.quiet_add_left (HQH.out _)) | (go_at_call_of 57 (Value.string (s.extract 14 16)); first | exact Kt.quiet_left (HQK.out _) | exact Kt.quiet_add_left (HQK.out _)))
    by_cases g1 : H < 0
    · have EE := Lib.hid (HB.out (.inr (.inl g1)))
      go_wp2_with fail
      go_ret2
      exact ⟨ret_ii EE.out.1.symm EE.out.2.symm, Kt.below_drewN b1 _⟩
    by_cases g2 : 23 < H
    · have EE := Lib.hid (HB.out (.inr (.inr (.inl g2))))
      go_wp2_with fail
      go_ret2
      exact ⟨ret_ii EE.out.1.symm EE.out.2.symm, Kt.below_drewN b1 _⟩
    by_cases g3 : K < 0
    · have EE := Lib.hid (HB.out (.inr (.inr (.inr (.inl g3)))))
      go_wp2_with fail
      go_ret2
      exact ⟨ret_ii EE.out.1.symm EE.out.2.symm, Kt.below_drewN b1 _⟩
    by_cases g4 : 59 < K
    · have EE := Lib.hid (HB.out (.inr (.inr (.inr (.inr g4)))))
      go_wp2_with fail
      go_ret2
      exact ⟨ret_ii EE.out.1.symm EE.out.2.symm, Kt.below_drewN b1 _⟩
    · have EE := Lib.hid (HG.out (by trivial) (by first | exact g1 | omega) (by first | exact g2 | omega) (by first | exact g3 | omega) (by first | exact g4 | omega))
      go_wp2_with fail
      go_ret2
      exact ⟨ret_ii EE.out.1.symm EE.out.2.symm, Kt.below_drewN b1 _⟩
  · have EE := Lib.hid (HB.out (.inl (by decide)))
    go_wp2_with fail
    go_ret2
    exact ⟨ret_ii EE.out.1.symm EE.out.2.symm, b1⟩
theorem readtime_any (s : ByteArray) (w : World) (hm : s.size ≤ maxLen) : Calls Tryd.prog 38 #[.string s] w fun e w' => e = .returned (.tuple #[.int .i64 (tV s), .int .i64 (tE s)]) ∧ Below w.heap.size w w' := by
  by_cases h1 : s.size = 16
  · by_cases h2 : (s[10]'(by omega)).toNat = 32 ∧ (s[13]'(by omega)).toNat = 58
    · exact readtime_in s w h1 h2.1 h2.2
    · have hn : ¬ tOk s := fun h => h2 ⟨by have := h.2.1; rw [at_in (by omega)] at this; omega, by have := h.2.2.1; rw [at_in (by omega)] at this; omega⟩
      unfold tV tE
      rw [if_neg hn, if_neg hn]
      refine (readtime_sep s w h1 (by
        by_cases h3 : (s[10]'(by omega)).toNat = 32
        · exact .inr (fun h4 => h2 ⟨h3, h4⟩)
        · exact .inl h3)).mono ?_
      rintro e w' ⟨rfl, rfl⟩
      exact ⟨rfl, Below.refl _ _⟩
  · have hn : ¬ tOk s := fun h => h1 h.1
    unfold tV tE
    rw [if_neg hn, if_neg hn]
    refine (readtime_size s w h1 hm).mono ?_
    rintro e w' ⟨rfl, rfl⟩
    exact ⟨rfl, Below.refl _ _⟩
end Go.Proofs.YtjfgfchnpghpfaaDoor
