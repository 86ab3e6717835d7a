/- What textRight and Read of the number package return: their walks. -/
import Derived.Test.YtfjdhclpcbgdbaaNatH
import Derived.Laws.OwnMore
namespace Nt
open Go
/-- The value of digits. -/
def dv (l : List UInt8) : Nat := l.foldl (fun n c => 10 * n + (c.toNat - 48)) 0
theorem dv_snoc (l : List UInt8) (c : UInt8) : dv (l ++ [c]) = 10 * dv l + (c.toNat - 48) := by unfold dv; rw [List.foldl_append]; rfl
def isDig (c : UInt8) : Bool := decide (48 ≤ c.toNat ∧ c.toNat ≤ 57)
def tokB (l : List UInt8) : Bool := !l.isEmpty && !(l.head? == some 48 && decide (1 < l.length)) && l.all isDig
theorem dv_from (l : List UInt8) : ∀ a : Nat, (∀ c ∈ l, isDig c = true) → l.foldl (fun n c => 10 * n + (c.toNat - 48)) a < (a + 1) * 10 ^ l.length := by
  induction l with
  | nil => intro a _; simp
  | cons c l ih =>
    intro a h
    have hc : isDig c = true := h c (by simp)
    have hl := ih (10 * a + (c.toNat - 48)) (fun d hd => h d (by simp [hd]))
    simp only [isDig, decide_eq_true_eq] at hc
    rw [List.foldl_cons, List.length_cons, Nat.pow_succ]
    have : (10 * a + (c.toNat - 48) + 1) * 10 ^ l.length ≤ ((a + 1) * 10) * 10 ^ l.length := Nat.mul_le_mul_right _ (by omega)
    rw [Nat.mul_comm (10 ^ l.length) 10, ← Nat.mul_assoc]
    omega
theorem dv_lt (l : List UInt8) (h : ∀ c ∈ l, isDig c = true) : dv l < 10 ^ l.length := by
  have := dv_from l 0 h
  simpa [dv] using this
theorem dec_dig (u : Nat) : ∀ c ∈ Lib.decDigits u, isDig c = true := by
  induction u using Nat.strongRecOn with
  | ind u ih =>
    by_cases h : u < 10
    · rw [Lib.decDigits_one h]
      intro c hc
      have e : c = UInt8.ofNat (48 + u) := by simpa using hc
      subst e
      have : (UInt8.ofNat (48 + u)).toNat = 48 + u := by rw [UInt8.toNat_ofNat']; omega
      simp only [isDig, decide_eq_true_eq]; omega
    · rw [dec_step (by omega)]
      intro c hc
      rcases List.mem_append.1 hc with hc | hc
      · exact ih (u / 10) (by omega) c hc
      · have e : c = UInt8.ofNat (48 + u % 10) := by simpa using hc
        subst e
        have : (UInt8.ofNat (48 + u % 10)).toNat = 48 + u % 10 := by rw [UInt8.toNat_ofNat']; omega
        simp only [isDig, decide_eq_true_eq]; omega
theorem dv_dec (u : Nat) : dv (Lib.decDigits u) = u := by
  induction u using Nat.strongRecOn with
  | ind u ih =>
    by_cases h : u < 10
    · rw [Lib.decDigits_one h]
      have : (UInt8.ofNat (48 + u)).toNat = 48 + u := by rw [UInt8.toNat_ofNat']; omega
      show 10 * 0 + ((UInt8.ofNat (48 + u)).toNat - 48) = u
      omega
    · rw [dec_step (by omega), dv_snoc, ih (u / 10) (by omega)]
      have : (UInt8.ofNat (48 + u % 10)).toNat = 48 + u % 10 := by rw [UInt8.toNat_ofNat']; omega
      omega
theorem dec_ne (u : Nat) : Lib.decDigits u ≠ [] := by
  by_cases h : u < 10
  · rw [Lib.decDigits_one h]; simp
  · rw [dec_step (by omega)]; simp
theorem dec_head (u : Nat) : (Lib.decDigits u).head? = some 48 → u = 0 := by
  induction u using Nat.strongRecOn with
  | ind u ih =>
    intro hh
    by_cases h : u < 10
    · rw [Lib.decDigits_one h] at hh
      have e : UInt8.ofNat (48 + u) = 48 := by simpa using hh
      have : (UInt8.ofNat (48 + u)).toNat = 48 + u := by rw [UInt8.toNat_ofNat']; omega
      rw [e] at this
      have h48 : (48 : UInt8).toNat = 48 := rfl
      omega
    · rw [dec_step (by omega), List.head?_append] at hh
      cases hl : Lib.decDigits (u / 10) with
      | nil => exact absurd hl (dec_ne _)
      | cons a t =>
        rw [hl] at hh
        have := ih (u / 10) (by omega) (by rw [hl]; exact hh)
        omega
theorem tok_dec (u : Nat) : tokB (Lib.decDigits u) = true := by
  simp only [tokB, Bool.and_eq_true, Bool.not_eq_true', List.isEmpty_eq_false_iff]
  refine ⟨⟨dec_ne u, ?_⟩, List.all_eq_true.2 (dec_dig u)⟩
  rw [Bool.eq_false_iff]
  intro h
  simp only [Bool.and_eq_true, beq_iff_eq, decide_eq_true_eq] at h
  have := dec_head u h.1
  subst this
  rw [Lib.decDigits_one (by omega)] at h
  simp at h
theorem btake (s : ByteArray) (k : Nat) (h : k < s.size) : s.data.toList.take (k + 1) = s.data.toList.take k ++ [s[k]] := by
  rw [List.take_succ_eq_append_getElem (by simpa using h)]; rfl
theorem tok_no {l : List UInt8} {k : Nat} (hk : k < l.length) (h : isDig l[k] = false) : tokB l = false := by
  have : l.all isDig = false := by
    rw [List.all_eq_false]
    exact ⟨_, List.getElem_mem hk, by simp [h]⟩
  simp [tokB, this]
end Nt
namespace Go.Proofs.Ytfjdhclpcbgdbaa
open Go Go.RowKit

theorem textr_any (s : ByteArray) (w : World) (hs : s.size ≤ maxLen) :
    Calls Try.prog 37 #[.string s] w fun e w' => e = .returned (.bool (Nt.tokB s.data.toList)) ∧ w = w' := by
  unfold maxLen at hs
  by_cases h0 : s.size = 0
  · have he : s.data.toList.isEmpty = true := by
      have : s.data.toList.length = 0 := by simpa using h0
      rw [List.length_eq_zero_iff] at this; rw [this]; rfl
    have E : Hid (Nt.tokB s.data.toList = false) := Lib.hid (by simp [Nt.tokB, he])
    have he2 : (s.toList == []) = true := by rw [ByteArray.toList_eq]; simpa using he
    have he3 : s.toList = [] := by simpa using he2
    clear h0 he
    go_enter Try.func37, Try.ntmps37
    go_wp2
    go_ret
    exact ⟨Kt.ret_bool E.out.symm, rfl⟩
  · have he2 : (s.toList == []) = false := by
      rw [ByteArray.toList_eq, beq_eq_false_iff_ne]
      intro e
      have h1 : s.data.toList.length = 0 := by rw [e]; rfl
      have h2 : s.size = s.data.toList.length := by rw [Array.length_toList]; rfl
      omega
    have he3 : s.toList.isEmpty = false := by
      rw [ByteArray.toList_eq, List.isEmpty_eq_false_iff]
      intro e
      have h1 : s.data.toList.length = 0 := by rw [e]; rfl
      have h2 : s.size = s.data.toList.length := by rw [Array.length_toList]; rfl
      omega
    have hpos : 0 < s.size := by omega
    have hhead : s.data.toList.head? = some s[0] := by
      have : s.data.toList[0]? = some s[0] := by
        rw [List.getElem?_eq_getElem (by simpa using hpos)]; rfl
      rw [← this, List.head?_eq_getElem?]
    have hnil : s.data.toList.isEmpty = false := by rw [← ByteArray.toList_eq]; exact he3
    have hb48 : ((48 : UInt8) = s[0]) ↔ s[0].toNat = 48 := ⟨fun e => by rw [← e]; rfl, fun e => by apply UInt8.toNat_inj.1; rw [e]; rfl⟩
    by_cases hz : s[0].toNat = 48 ∧ 1 < s.size
    · have E : Hid (Nt.tokB s.data.toList = false) := Lib.hid (by
        have h1 : (s.data.toList.head? == some 48) = true := by rw [hhead]; simp [hb48.2 hz.1]
        have h2 : decide (1 < s.data.toList.length) = true := by simpa using hz.2
        rw [Nt.tokB, h1, h2]; simp)
      obtain ⟨hz1, hz2⟩ := hz
      have hz3 : ((s[0].toNat : Int) == 48) = true := by simp; omega
      clear hz1 hhead hb48
      go_enter Try.func37, Try.ntmps37
      go_wp2
      go_ret
      exact ⟨Kt.ret_bool E.out.symm, rfl⟩
    · have HE : Hid (s.data.toList.all Nt.isDig = true → Nt.tokB s.data.toList = true) := Lib.hid (fun h => by
        rw [Nt.tokB, hnil, h]
        have h1 : (s.data.toList.head? == some 48 && decide (1 < s.data.toList.length)) = false := by
          rw [Bool.eq_false_iff]
          intro h2
          simp only [Bool.and_eq_true, beq_iff_eq, decide_eq_true_eq] at h2
          rw [hhead] at h2
          have h3 : s[0] = 48 := by simpa using h2.1
          exact hz ⟨hb48.1 h3.symm, by simpa using h2.2⟩
        rw [h1]; rfl)
      have hcase : ((((s[0].toNat : Int) == 48) = true ∧ decide ((1 : Int) < (s.size : Int)) = false) ∨ ((s[0].toNat : Int) == 48) = false) := by
        by_cases h48 : s[0].toNat = 48
        · left
          refine ⟨by simp [h48], ?_⟩
          have : ¬ 1 < s.size := fun h => hz ⟨h48, h⟩
          simp; omega
        · right; simp; omega
      clear hz hhead hb48 hnil
      rcases hcase with ⟨h48, hlen⟩ | h48
      all_goals
        go_enter Try.func37, Try.ntmps37
        go_wp2
        go_loop [3] (fun i => ∃ k : Nat, k ≤ s.size ∧ i = .int .i64 k ∧ Hid (∀ c ∈ s.data.toList.take k, Nt.isDig c = true)) (fun i => s.size - (intOf i).toNat)
        case atStart => exact ⟨0, Nat.zero_le _, rfl, Lib.hid (by simp)⟩
        case round =>
          obtain ⟨k, hk, rfl, hall⟩ := hrel
          by_cases hlt : k < s.size
          · by_cases h1 : (s[k].toNat : Int) < 48
            · have E : Hid (Nt.tokB s.data.toList = false) := Lib.hid (Nt.tok_no (k := k) (by simpa using hlt) (by
                show Nt.isDig s[k] = false
                simp only [Nt.isDig, decide_eq_false_iff_not]; omega))
              go_wp2
              go_ret
              exact ⟨Kt.ret_bool E.out.symm, rfl⟩
            · by_cases h2 : 57 < (s[k].toNat : Int)
              · have E : Hid (Nt.tokB s.data.toList = false) := Lib.hid (Nt.tok_no (k := k) (by simpa using hlt) (by
                  show Nt.isDig s[k] = false
                  simp only [Nt.isDig, decide_eq_false_iff_not]; omega))
                go_wp2
                go_ret
                exact ⟨Kt.ret_bool E.out.symm, rfl⟩
              · have HA : Hid (∀ c ∈ s.data.toList.take (k + 1), Nt.isDig c = true) := Lib.hid (by
                  rw [Nt.btake s k hlt]
                  intro c hc
                  rcases List.mem_append.1 hc with hc | hc
                  · exact hall.out c hc
                  · have : c = s[k] := by simpa using hc
                    subst this
                    simp only [Nt.isDig, decide_eq_true_eq]; omega)
                go_wp2
                go_round
                case rel => exact ⟨k + 1, by omega, by go_num, HA⟩
                case measure => simp [intOf]; omega
          · obtain rfl : k = s.size := by omega
            have E : Hid (Nt.tokB s.data.toList = true) := Lib.hid (HE.out (List.all_eq_true.2 (by
              have := hall.out
              rwa [List.take_of_length_le (by simp)] at this)))
            go_wp2
            go_ret
            exact ⟨Kt.ret_bool E.out.symm, rfl⟩
end Go.Proofs.Ytfjdhclpcbgdbaa
