/- What the reference's fit and Read return. -/
import Derived.Test.YtfjdhclpcbgdbaaBitJ
import Derived.Test.YtfjdhclpcbgdbaaBitF
import Derived.Deep.RegionWith
import Derived.Deep.DeepCutAuto
namespace Bt
open Go
theorem dv_len (l : List UInt8) (h : ∀ c ∈ l, Nt.isDig c = true) : (limbs (Nt.dv l)).length ≤ 4 * l.length := by
  rw [len_le_iff, P_pow]
  have h1 := Nt.dv_lt l h
  have h2 : 10 ^ l.length ≤ 2 ^ (4 * l.length) := by
    rw [Nat.pow_mul]
    exact Nat.pow_le_pow_left (by decide) _
  exact Int.ofNat_lt.2 (Nat.lt_of_lt_of_le h1 h2)
theorem tok_head {s : ByteArray} (h : 0 < s.size) : s.data.toList.head? = some s[0] := by
  have : s.data.toList[0]? = some s[0] := by
    rw [List.getElem?_eq_getElem (by simpa using h)]; rfl
  rw [← this, List.head?_eq_getElem?]
theorem tok_empty {s : ByteArray} (h : s.size = 0) : Nt.tokB s.data.toList = false := by
  have h1 : s.data.toList = [] := List.eq_nil_of_length_eq_zero (by simpa using h)
  rw [h1]; rfl
theorem byte48 (b : UInt8) : b = 48 ↔ b.toNat = 48 := ⟨fun e => by rw [e]; rfl, fun e => by apply UInt8.toNat_inj.1; rw [e]; rfl⟩
theorem tok_zero {s : ByteArray} (h : 1 < s.size) (h0 : (s[0]'(by omega)).toNat = 48) : Nt.tokB s.data.toList = false := by
  have h1 : (s.data.toList.head? == some 48) = true := by rw [tok_head (by omega)]; simp [(byte48 _).2 h0]
  have h2 : decide (1 < s.data.toList.length) = true := by simpa using h
  rw [Nt.tokB, h1, h2]; simp
theorem tok_yes {s : ByteArray} (h : 0 < s.size) (h0 : (s[0]'h).toNat = 48 → s.size ≤ 1) (ha : ∀ c ∈ s.data.toList, Nt.isDig c = true) : Nt.tokB s.data.toList = true := by
  have hnil : s.data.toList.isEmpty = false := by
    rw [List.isEmpty_eq_false_iff]
    intro e
    have h1 : s.data.toList.length = 0 := by rw [e]; rfl
    have h2 : s.size = s.data.toList.length := by rw [Array.length_toList]; rfl
    omega
  have h1 : (s.data.toList.head? == some 48 && decide (1 < s.data.toList.length)) = false := by
    rw [Bool.eq_false_iff]
    intro h2
    simp only [Bool.and_eq_true, beq_iff_eq, decide_eq_true_eq] at h2
    rw [tok_head h] at h2
    have h3 : s[0] = 48 := by simpa using h2.1
    have h4 := h0 ((byte48 _).1 h3)
    have h5 : s.size = s.data.toList.length := by rw [Array.length_toList]; rfl
    omega
  rw [Nt.tokB, hnil, List.all_eq_true.2 ha, h1]; rfl
end Bt
namespace Kt
open Go Go.RowKit
theorem row_ten_at (w : World) (T : TypeId) (cs : Array Value) (b : Nat) (hb : b = w.heap.size) (hcs : cs = IArr .i64 [0, 1, 0, 1]) : Row (w.alloc (.cells cs T)) 0 .i64 (.slice (some ⟨b, 0, none⟩) 4 4) (Bt.limbs 10) := by
  subst hb
  exact (row_ten w T cs hcs).less (Nat.zero_le _)
theorem ints_lit_at (w : World) (T : TypeId) (k : IntKind) (zs : List Int) (cs : Array Value) (b : Nat) (hb : b = w.heap.size) (hcs : cs = (zs.map (Value.int k)).toArray) :
    Ints (w.alloc (.cells cs T)) (w.alloc (.cells cs T)).heap.size k (some ⟨b, 0, none⟩) zs := by
  subst hb
  exact ints_lit w T k zs cs hcs
theorem Ints.up {w : World} {k : IntKind} {A : Option Addr} {zs : List Int} (h : Ints w w.heap.size k A zs) (o : Obj) : Ints (w.alloc o) (w.alloc o).heap.size k A zs := h.on ((Below.refl _ _).alloc (Nat.le_refl _) _)
end Kt
namespace Go.Proofs.Ytfjdhclpcbgdbaa
open Go Go.RowKit
theorem rfit_val {w : World} {l1 : Nat} {u : Value} {x : Nat} (hu : Kt.Row w l1 .i64 u (Bt.limbs x)) (h1 : (Bt.limbs x).length ≤ 32768) :
    Calls Try.prog 52 #[u] w fun e w' => ∃ v, e = .returned (.tuple #[v, .int .i64 0]) ∧ Kt.Num w' w.heap.size v x ∧ Below w.heap.size w w' := by
  have HC := Lib.hid (rlimbs_val hu (by omega))
  obtain ⟨A, n, ca, rfl, hn, _, ha⟩ := bits_at hu
  have hn1 : n ≤ 32768 := by have := hn.out; omega
  clear h1 hu ha
  go_enter Try.func52, Try.ntmps52
  go_wp2_with fail
  refine HC.out.mono ?_
  rintro e w' ⟨v, rfl, hv, hb⟩
  go_wp2
  go_ret2
  exact ⟨_, rfl, hv, hb⟩
def ReadR (w : World) (s : ByteArray) (e : Ending) (w' : World) : Prop :=
  ((Nt.tokB s.data.toList = true ∧ ∃ v, e = .returned (.tuple #[v, .int .i64 0]) ∧ Kt.Num w' w.heap.size v (Nt.dv s.data.toList)) ∨ (Nt.tokB s.data.toList = false ∧ e = .returned (.tuple #[.slice none 0 0, .int .i64 30]))) ∧ Below w.heap.size w w'
set_option maxHeartbeats 4000000 in
theorem rread_any (s : ByteArray) (w : World) (hs : s.size ≤ 400) : Calls Try.prog 29 #[.string s] w (ReadR w s) := by
  go_enter Try.func29, Try.ntmps29
  go_wp2
  go_loop [5] (fun i => ∃ k : Nat, k ≤ s.size ∧ i = .int .i64 k ∧ Hid (∀ c ∈ s.data.toList.take k, Nt.isDig c = true)) (fun i => s.size - (intOf i).toNat)
  case atStart => exact ⟨0, Nat.zero_le _, rfl, Lib.hid (by simp)⟩
  case round =>
    obtain ⟨k, hk, rfl, hall⟩ := hrel
    by_cases hlt : k < s.size
    · by_cases h1 : (s[k].toNat : Int) < 48
      · have E : Hid (Nt.tokB s.data.toList = false) := Lib.hid (Nt.tok_no (k := k) (by simpa using hlt) (by
          show Nt.isDig s[k] = false
          simp only [Nt.isDig, decide_eq_false_iff_not]; omega))
        go_wp2
        go_ret2
        exact ⟨.inr ⟨E.out, rfl⟩, Below.refl _ _⟩
      · by_cases h2 : 57 < (s[k].toNat : Int)
        · have E : Hid (Nt.tokB s.data.toList = false) := Lib.hid (Nt.tok_no (k := k) (by simpa using hlt) (by
            show Nt.isDig s[k] = false
            simp only [Nt.isDig, decide_eq_false_iff_not]; omega))
          go_wp2
          go_ret2
          exact ⟨.inr ⟨E.out, rfl⟩, Below.refl _ _⟩
        · have HA : Hid (∀ c ∈ s.data.toList.take (k + 1), Nt.isDig c = true) := Lib.hid (by
            rw [Nt.btake s k hlt]
            intro c hc
            rcases List.mem_append.1 hc with hc | hc
            · exact hall.out c hc
            · have : c = s[k] := by simpa using hc
              subst this
              simp only [Nt.isDig, decide_eq_true_eq]; omega)
          go_wp2
          go_round
          case rel => exact ⟨k + 1, by omega, by go_num, HA⟩
          case measure => simp [intOf]; omega
    · obtain rfl : k = s.size := by omega
      have hall2 : ∀ c ∈ s.data.toList, Nt.isDig c = true := by
        have := hall.out
        rwa [List.take_of_length_le (by simp)] at this
      have HALL := Lib.hid hall2
      clear hall hall2 hlt hk
      by_cases hz : s.size = 0
      · have E := Lib.hid (Bt.tok_empty hz)
        have hz2 : ((s.size : Int) == 0) = true := by simp [hz]
        clear hz
        go_wp2
        go_ret2
        exact ⟨.inr ⟨E.out, rfl⟩, Below.refl _ _⟩
      · have hpos : 0 < s.size := by omega
        have hz2 : ((s.size : Int) == 0) = false := by simp [hz]
        by_cases h48 : s[0].toNat = 48 ∧ 1 < s.size
        · have E := Lib.hid (Bt.tok_zero h48.2 h48.1)
          obtain ⟨hq1, hq2⟩ := h48
          have hz3 : ((s[0].toNat : Int) == 48) = true := by simp; omega
          clear hq1
          go_wp2
          go_ret2
          exact ⟨.inr ⟨E.out, rfl⟩, Below.refl _ _⟩
        · have E := Lib.hid (Bt.tok_yes hpos (fun h => by omega) HALL.out)
          have hcase : ((((s[0].toNat : Int) == 48) = true ∧ decide ((1 : Int) < (s.size : Int)) = false) ∨ (((s[0].toNat : Int) == 48) = false ∧ decide ((1 : Int) < (s.size : Int)) = false) ∨ (((s[0].toNat : Int) == 48) = false ∧ decide ((1 : Int) < (s.size : Int)) = true)) := by
            by_cases h : s[0].toNat = 48
            · left
              refine ⟨by simp [h], ?_⟩
              have : ¬ 1 < s.size := fun h2 => h48 ⟨h, h2⟩
              simp; omega
            · right
              by_cases h2 : 1 < s.size
              · right
                exact ⟨by simp; omega, by simp; omega⟩
              · left
                exact ⟨by simp; omega, by simp; omega⟩
          clear h48
          go_upto_region 7 with fail
          go_cut [35] (fun s35 wx => s35 = .bool false ∧ w = wx)
          case first =>
            rcases hcase with ⟨hc1, hc2⟩ | ⟨hc1, hc2⟩ | ⟨hc1, hc2⟩
            all_goals
              go_wp2_with fail
              go_meet
              exact ⟨rfl, rfl⟩
          case rest =>
            obtain ⟨rfl, rfl⟩ := hcut
            clear hcase
            go_wp2_with fail
            go_loopw [4, 6] (fun b i wr => ∃ k : Nat, k ≤ s.size ∧ i = .int .i64 k ∧ Kt.Row wr w.heap.size .i64 b (Bt.limbs (Nt.dv (s.data.toList.take k))) ∧ Below w.heap.size w wr) (fun _ i _ => s.size - (intOf i).toNat)
            case atStart => exact ⟨0, Nat.zero_le _, rfl, Kt.Row.nil _ _ _, Below.refl _ _⟩
            case round =>
              obtain ⟨k, hk, rfl, hrow, hbel⟩ := hrel
              by_cases hlt : k < s.size
              · have hdig := HALL.out s[k] (by rw [Array.mem_toList_iff]; exact Array.getElem_mem _)
                simp only [Nt.isDig, decide_eq_true_eq] at hdig
                obtain ⟨d, hd⟩ : ∃ d : Nat, s[k].toNat = 48 + d := ⟨s[k].toNat - 48, by omega⟩
                have hd9 : d ≤ 9 := by omega
                obtain ⟨t, HT⟩ : ∃ t, Hid (Nt.dv (s.data.toList.take k) = t) := ⟨_, Lib.hid rfl⟩
                have HSTEP : Hid (Nt.dv (s.data.toList.take (k + 1)) = 10 * t + d) := Lib.hid (by rw [Nt.dv_take s k hlt, HT.out, hd]; omega)
                have HLT : Hid ((Bt.limbs t).length ≤ 1600) := Lib.hid (by
                  rw [← HT.out]
                  have h7 := Bt.dv_len (s.data.toList.take k) (fun c hc => HALL.out c (List.mem_of_mem_take hc))
                  rw [List.length_take] at h7
                  omega)
                rw [HT.out] at hrow
                have hz2' : (s[k].toNat : Int) = 48 + (d : Int) := by omega
                have w1 : IntKind.u8.wrap (48 + (d : Int) - 48) = (d : Int) := by rw [IntKind.wrap_u8]; omega
                have hlen10 : (Bt.limbs 10).length = 4 := by rw [Bt.ten]; rfl
                have HOKD : Hid (Nt.Ok [(d : Int)]) := Lib.hid (Nt.Ok.one (by omega) (by omega))
                have HL10 : Hid ((Bt.limbs 10).length + (Bt.limbs t).length ≤ 90000) := Lib.hid (by rw [hlen10]; have := HLT.out; omega)
                have w2 : IntKind.u32.wrap (d : Int) = (d : Int) := by rw [IntKind.wrap_u32]; omega
                have HVD : Hid (Nt.V [(d : Int)] = (d : Int)) := Lib.hid (by simp [Nt.V])
                have HZZ : Hid (Bt.V (Bt.limbs (10 * t)) + Bt.P 0 * Bt.V (Bt.limbs d) = ((10 * t + d : Nat) : Int)) := Lib.hid (by rw [Bt.V_limbs, Bt.V_limbs]; simp [Bt.P])
                have HLM : Hid ((Bt.limbs (10 * t)).length ≤ 100000) := Lib.hid (by
                  have h8 := Bt.len_mul 10 t _ _ (Nat.le_refl _) (Nat.le_refl _)
                  have := HLT.out
                  omega)
                have HLD : Hid ((Bt.limbs d).length + 0 ≤ 100000) := Lib.hid (by
                  have h8 := (Bt.len_le_iff d 4).2 (by rw [Bt.P_pow]; omega)
                  omega)
                clear hdig hd hlen10
                go_upto_region 12 with fail
                go_region_with (first
                  | (go_at_call 51
                     refine (rmul_val (x := 10) (y := t) (l1 := 0) (l2 := w.heap.size) (by first | exact Kt.row_ten_at _ _ _ _ (by simp) rfl | (refine Kt.Row.alloc ?_ _; exact Kt.row_ten_at _ _ _ _ (by simp) rfl)) (by first | exact (hrow.drewN _).alloc _ | exact ((hrow.drewN _).alloc _).alloc _) HL10.out).mono ?_
                     rintro e w' ⟨rm, rfl, hrm, hbm⟩)
                  | (go_at_call 47
                     refine (rbits_any _ 1 1 [(d : Int)] d _ rfl (by first | exact Kt.ints_lit_at _ _ _ _ _ _ (by simp) rfl | (refine Kt.Ints.on ?_ hbm; exact Kt.ints_lit_at _ _ _ _ _ _ (by simp) rfl) | (refine Kt.Ints.on ?_ hbm; refine Kt.Ints.up ?_ _; exact Kt.ints_lit_at _ _ _ _ _ _ (by simp) rfl)) HOKD.out HVD.out (by omega)).mono ?_
                     rintro e w' ⟨rb, rfl, hrb, hbb⟩)
                  | (go_at_call 50
                     refine (radd_val (x := 10 * t) (y := d) (z := 10 * t + d) (up := 0) (by first | exact hrm.on hbb | exact (hrm.alloc _).on hbb) hrb HZZ.out HLM.out HLD.out).mono ?_
                     rintro e w' ⟨ra, rfl, hra, hba⟩))
                all_goals
                  go_wp2_with fail
                  go_roundw
                  case rel => exact ⟨k + 1, by omega, by go_num, by rw [HSTEP.out]; exact hra.less (by have h1 := hbel.size; have h2 := hbm.size; have h3 := hbb.size; simp at h2 h3 ⊢; omega), by
                    first
                      | exact Kt.next (Kt.next (Kt.next ((Kt.below_drewN hbel _).alloc (by exact hbel.size) _) hbm) hbb) hba
                      | exact Kt.next (Kt.next ((Kt.next ((Kt.below_drewN hbel _).alloc (by exact hbel.size) _) hbm).alloc (by have := (Kt.next ((Kt.below_drewN hbel _).alloc (by exact hbel.size) _) hbm).size; exact this) _) hbb) hba
                      | exact Kt.next (Kt.next (Kt.next (((Kt.below_drewN hbel _).alloc (by exact hbel.size) _).alloc (by have := hbel.size; simp; omega) _) hbm) hbb) hba⟩
                  case measure => simp [intOf]; omega
              · obtain rfl : k = s.size := by omega
                rw [List.take_of_length_le (by simp)] at hrow
                go_wp2_with fail
                refine (rfit_val hrow (by have h7 := Bt.dv_len _ HALL.out; simp at h7; omega)).mono ?_
                rintro e w3 ⟨v, rfl, hv, hb3⟩
                go_wp2
                go_ret2
                exact ⟨.inl ⟨E.out, _, rfl, hv.less hbel.size⟩, Kt.next hbel hb3⟩
end Go.Proofs.Ytfjdhclpcbgdbaa
