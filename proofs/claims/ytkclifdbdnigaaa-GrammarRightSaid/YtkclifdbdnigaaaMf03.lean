/- Joined: RfB, RfC, RtB, SzA, TvJ. -/
import Derived.Test.YtkclifdbdnigaaaMf02
import Derived.Test.YtkclifdbdnigaaaMa04
import Derived.Test.YtkclifdbdnigaaaMa06
import Derived.Test.YtkclifdbdnigaaaMf01
import Derived.Test.YtkclifdbdnigaaaMa12
section
/- The reference: whether a symbol derives itself: the walk. -/
namespace Go.Proofs.Ytkclifdbdnigaaa
open Go Go.RowKit
theorem off_blk {w : World} {b : Nat} {T : TypeId} {on : Nat → Bool} (h : Kt.Blk w b T (Kt.BArr on)) : Gr.offW w b = Gr.offc on := Gr.offW_eq fun t ht => (h.cell t).trans (Kt.BArr_get on ht)
theorem Try.infoBool : (Try.prog.info? 4).map (fun i => (i.zero, i.size, i.bytes)) = some (some (.bool false), 1, 1) := by kernel_rfl
theorem make_bools (w : World) : (Instr.makeSlice 112 (.int .i64 64) (.int .i64 64)).run Try.prog w = .ok (.slice (some ⟨w.heap.size, 0, none⟩) 64 64) (w.alloc (.cells (Kt.BArr fun _ => false) 4)) := by
  obtain ⟨i, hi, hz, hs, hb⟩ := info_parts Try.infoBool
  have hr := run_make (P := Try.prog) w 112 4 i _ Try.underlying112 hi hz .i64 .i64 64 64 (by omega) (by omega) (by omega) (by omega)
  rw [hs] at hr
  rw [hr]
  have e : madeCells (Value.bool false).cells 64 = Kt.BArr fun _ => false := by
    have h1 : (Value.bool false).cells = #[Value.bool false] := rfl
    rw [h1]
    apply Array.toList_inj.1
    rw [toList_madeCells_one]
    rfl
  show Result.ok (Value.slice (some ⟨w.heap.size, 0, none⟩) 64 64) (w.alloc (.cells (madeCells (Value.bool false).cells (64 * 1)) 4)) = _
  rw [Nat.mul_one, e]
def RefCycPost (g : List Gr.Rule) (w : World) (e : Ending) (w' : World) : Prop := Below w.heap.size w w' ∧ ∃ b : Bool, e = .returned (.bool b) ∧ (b = true → Gr.Cyc g) ∧ (b = false → ¬ Gr.Cyc g)
set_option maxRecDepth 100000 in
set_option maxHeartbeats 2000000 in
theorem refCyclic_any (g : List Gr.Rule) (A : Option Addr) (n cp : Nat) (w : World) (hl : g.length = n) (hn : n ≤ 200) (hg : Kt.Rules w w.heap.size A g) (hv : ∀ r, r < g.length → Gr.RuleOk (Gr.rul g r)) :
    Calls Try.prog 45 #[.slice A n cp] w (RefCycPost g w) := by
  have HL := Lib.hid hl
  have HG := Lib.hid hg
  have hmk := make_bools
  have HV := Lib.hid hv
  clear hl hg hv
  go_enter Try.func45, Try.ntmps45
  go_wp2_with fail
  go_loopw [3] (fun s wr => ∃ k : Nat, k ≤ 64 ∧ s = .int .i64 k ∧ Hid (∀ t : Nat, t < k → ¬ Gr.Path g (t : Int) (t : Int)) ∧ Below w.heap.size w wr) (fun s _ => 64 - (intOf s).toNat)
  case atStart => exact ⟨0, Nat.zero_le _, rfl, Lib.hid (fun t ht => by omega), Below.refl _ _⟩
  case round =>
    obtain ⟨k, hk, rfl, hnp, hbel⟩ := hrel
    by_cases hlt : k < 64
    · have hs := hbel.size
      have dk64 : decide ((k : Int) < 64) = true := by simp; omega
      go_wp2_with fail
      obtain ⟨rb, hrb⟩ : ∃ rb, wr.heap.size = rb := ⟨_, rfl⟩
      obtain ⟨wb, hwb⟩ : ∃ wb, wr.alloc (.cells (Kt.BArr fun _ => false) 4) = wb := ⟨_, rfl⟩
      have HB0 : Hid (Kt.Blk wb rb 4 (Kt.BArr fun _ => false)) := Lib.hid (by rw [← hwb, ← hrb]; exact Kt.Blk.new wr _ _)
      have hbb : Below w.heap.size w wb := by rw [← hwb]; exact hbel.alloc hs _
      have hrw : w.heap.size ≤ rb := by rw [← hrb]; exact hs
      rw [hwb, hrb]
      clear hwb hrb hbel hs
      go_loopw [5] (fun v wx => ∃ (b : Bool) (on : Nat → Bool), v = .bool b ∧ Hid (Kt.Blk wx rb 4 (Kt.BArr on)) ∧ Hid (Gr.Snd g k on) ∧ Hid (b = false → Gr.Cls g k on g.length) ∧ Below w.heap.size w wx) (fun v wx => Gr.moreM v (Gr.offW wx rb))
      case atStart => exact ⟨true, fun _ => false, rfl, HB0, Lib.hid (fun t _ h => by cases h), Lib.hid (fun h => by cases h), hbb⟩
      case round =>
        obtain ⟨b, on, rfl, hB, hS, hC, hbel⟩ := hrel
        rename World => wo
        have hso := hbel.size
        cases b with
        | false =>
          have ck := (hB.out.cell k).trans (Kt.BArr_get on hlt)
          obtain ⟨ok, hok⟩ : ∃ b, on k = b := ⟨_, rfl⟩
          rw [hok] at ck
          cases ok with
          | true =>
            have HC : Hid (Gr.Cyc g) := Lib.hid ⟨(k : Int), hS.out k hlt hok⟩
            clear hok hB hS hC
            go_wp2_with fail
            go_ret
            exact ⟨hbel, true, rfl, fun _ => HC.out, (fun h => by cases h)⟩
          | false =>
            have HNP : Hid (∀ t : Nat, t < k + 1 → ¬ Gr.Path g (t : Int) (t : Int)) := Lib.hid (fun t ht => by
              by_cases e : t = k
              · subst e; exact (hC.out rfl).self (fun a b e => edge_parts HV.out e) hok
              · exact hnp.out t (by omega))
            clear hok hB hS hC
            go_wp2_with fail
            go_roundw
            case rel => exact ⟨k + 1, by omega, by go_num, HNP, hbel⟩
            case measure => simp [intOf]; omega
        | true =>
          have HM : Hid (Gr.moreM (.bool true) (Gr.offW wo rb) = Gr.offc on + 1) := Lib.hid (by rw [off_blk hB.out]; rfl)
          go_wp2_with fail
          go_loopw [5, 6] (fun v s wy => ∃ (b : Bool) (on2 : Nat → Bool) (i : Nat), i ≤ n ∧ v = .bool b ∧ s = .int .i64 i ∧ Hid (Kt.Blk wy rb 4 (Kt.BArr on2)) ∧ Hid (Gr.Snd g k on2) ∧ Hid (b = false → on2 = on ∧ Gr.Cls g k on i) ∧ Hid (b = true → Gr.offc on2 < Gr.offc on) ∧ Below w.heap.size w wy) (fun _ s _ => n - (intOf s).toNat)
          case atStart => exact ⟨false, on, 0, Nat.zero_le _, rfl, rfl, hB, hS, Lib.hid (fun _ => ⟨rfl, fun r hr => by omega⟩), Lib.hid (fun h => by cases h), hbel⟩
          case round =>
            obtain ⟨b, on2, i, hi, rfl, rfl, hB2, hS2, hC2, hO2, hbl2⟩ := hrel
            have hs2 := hbl2.size
            by_cases hin : i < n
            · have hig : i < g.length := by rw [HL.out]; exact hin
              obtain ⟨bA, oA, rfl, hbA, hcA⟩ := (HG.out.on hbl2) (by rw [HL.out]; omega)
              obtain ⟨cl, A', c', cr, hlr, hit⟩ := hcA i hig
              obtain ⟨⟨hl0, hl64⟩, _, hl8, hsy⟩ := (HV.out i hig).parts
              obtain ⟨ru, hru⟩ : ∃ ru, Hid (Gr.rul g i = ru) := ⟨_, Lib.hid rfl⟩
              obtain ⟨lf, l⟩ := ru
              rw [hru.out] at cl cr hlr hit hl0 hl64 hsy
              obtain ⟨m, hm⟩ : ∃ m, Hid (l.length = m) := ⟨_, Lib.hid rfl⟩
              replace cl : wr.cell? ⟨bA, oA + i * 2, none⟩ = some (.int .i64 lf) := cl
              replace cr : wr.cell? ⟨bA, oA + i * 2 + 1, none⟩ = some (.slice A' l.length c') := cr
              replace hit : Kt.Items wr wr.heap.size A' l := hit
              replace hsy : ∀ x ∈ l, (0 ≤ x.sym ∧ x.sym < 64) ∧ (x.cls = 0 ∨ x.sym = 0) := hsy
              rw [hm.out] at cr
              obtain ⟨ln, rfl⟩ : ∃ ln : Nat, lf = (ln : Int) := ⟨lf.toNat, by
                have h1 : 0 ≤ lf := hl0
                omega⟩
              have hln : ln < 64 := by
                have h1 : (ln : Int) < 64 := hl64
                omega
              have HUN := Lib.hid (refUnit_any (ln : Int) A' m c' l wr hm.out hit)
              have HSY := Lib.hid hsy
              have HOFF : Hid (Gr.offc on2 ≤ Gr.offc on) := Lib.hid (by
                cases b with
                | false => rw [(hC2.out rfl).1]; exact Nat.le_refl _
                | true => exact Nat.le_of_lt (hO2.out rfl))
              clear hcA hlr hit hl0 hl64 hsy hl8
              go_wp2_with fail
              refine HUN.out.mono ?_
              rintro e w3 ⟨rfl, hb3⟩
              have hbl3 : Below w.heap.size w w3 := hbl2.trans (hb3.mono hs2)
              have HB3 := Lib.hid (hB2.out.on hb3)
              have cl3 : w3.cell? ⟨bA, oA + i * 2, none⟩ = some (.int .i64 (ln : Int)) := (hb3.cell (p := ⟨bA, oA + i * 2, none⟩) hbA).trans cl
              have cr3 : w3.cell? ⟨bA, oA + i * 2 + 1, none⟩ = some (.slice A' m c') := (hb3.cell (p := ⟨bA, oA + i * 2 + 1, none⟩) hbA).trans cr
              clear HUN hB2 cl cr
              rcases hu : Gr.unit ⟨(ln : Int), l⟩ with _ | t
              · have hui : Gr.unitI ⟨(ln : Int), l⟩ = -1 := by unfold Gr.unitI; rw [hu]
                rw [hui]
                have HC3 : Hid (b = false → on2 = on ∧ Gr.Cls g k on (i + 1)) := Lib.hid (fun h => by
                  obtain ⟨e, h2⟩ := hC2.out h
                  exact ⟨e, h2.succ fun t ht => by rw [hru.out, hu] at ht; cases ht⟩)
                clear hui hu hC2
                go_wp2_with fail
                go_roundw
                case rel => exact ⟨b, on2, i + 1, by omega, rfl, by go_num, HB3, hS2, HC3, hO2, hbl3⟩
                case measure => simp [intOf]; omega
              · obtain ⟨x, hx1, hx2, hx3⟩ := Gr.unit_some hu
                have hx4 := HSY.out x (by
                  have h1 : l = [x] := hx1
                  rw [h1]; simp)
                obtain ⟨tn, rfl⟩ : ∃ tn : Nat, t = (tn : Int) := ⟨t.toNat, by omega⟩
                have htn : tn < 64 := by omega
                have hui : Gr.unitI ⟨(ln : Int), l⟩ = (tn : Int) := by unfold Gr.unitI; rw [hu]
                rw [hui]
                have HU : Hid (Gr.unit (Gr.rul g i) = some (tn : Int)) := Lib.hid (by rw [hru.out]; exact hu)
                have HLF : Hid ((Gr.rul g i).left = (ln : Int)) := Lib.hid (by rw [hru.out])
                have ct := (HB3.out.cell tn).trans (Kt.BArr_get on2 htn)
                have cln := (HB3.out.cell ln).trans (Kt.BArr_get on2 hln)
                have ft := HB3.out.frozen tn
                clear hui hu hx1 hx2 hx3 hx4 HSY hru
                obtain ⟨ot, hot⟩ : ∃ b, Hid (on2 tn = b) := ⟨_, Lib.hid rfl⟩
                obtain ⟨ol, hol⟩ : ∃ b, Hid (on2 ln = b) := ⟨_, Lib.hid rfl⟩
                rw [hot.out] at ct
                rw [hol.out] at cln
                cases ot with
                | true =>
                  have HC3 : Hid (b = false → on2 = on ∧ Gr.Cls g k on (i + 1)) := Lib.hid (fun h => by
                    obtain ⟨e, h2⟩ := hC2.out h
                    refine ⟨e, h2.succ fun t ht _ => ?_⟩
                    rw [HU.out] at ht
                    injection ht with ht
                    obtain rfl : tn = t := by omega
                    rw [← e]; exact hot.out)
                  clear hC2
                  go_wp2_with fail
                  go_roundw
                  case rel => exact ⟨b, on2, i + 1, by omega, rfl, by go_num, HB3, hS2, HC3, hO2, hbl3⟩
                  case measure => simp [intOf]; omega
                | false =>
                  have HB4 : Hid (Kt.Blk (w3.setCell ⟨rb, tn, none⟩ (.bool true)) rb 4 (Kt.BArr (Gr.upd on2 tn true))) := Lib.hid (by
                    rw [← Kt.BArr_set on2 tn true htn]; exact HB3.out.set_ tn _)
                  have hbl4 : Below w.heap.size w (w3.setCell ⟨rb, tn, none⟩ (.bool true)) := hbl3.setCell (p := ⟨rb, tn, none⟩) hrw _
                  have HO4 : Hid (true = true → Gr.offc (Gr.upd on2 tn true) < Gr.offc on) := Lib.hid (fun _ => Nat.lt_of_lt_of_le (Gr.offc_upd hot.out htn) HOFF.out)
                  have HC4 : Hid (true = false → Gr.upd on2 tn true = on ∧ Gr.Cls g k on (i + 1)) := Lib.hid (fun h => by cases h)
                  by_cases hkl : ln = k
                  · have dk : ((ln : Int) == (k : Int)) = true := by simp [hkl]
                    have HS4 : Hid (Gr.Snd g k (Gr.upd on2 tn true)) := Lib.hid (hS2.out.upd hig HU.out HLF.out hln (.inl hkl))
                    clear hkl hC2 hO2 hS2 HB3
                    go_wp2_with fail
                    go_roundw
                    case rel => exact ⟨true, Gr.upd on2 tn true, i + 1, by omega, rfl, by go_num, HB4, HS4, HC4, Lib.hid (fun _ => HO4.out (by trivial)), hbl4⟩
                    case measure => simp [intOf]; omega
                  · have dk : ((ln : Int) == (k : Int)) = false := by simp; omega
                    cases ol with
                    | true =>
                      have HS4 : Hid (Gr.Snd g k (Gr.upd on2 tn true)) := Lib.hid (hS2.out.upd hig HU.out HLF.out hln (.inr hol.out))
                      clear hkl hC2 hO2 hS2 HB3
                      go_wp2_with fail
                      go_roundw
                      case rel => exact ⟨true, Gr.upd on2 tn true, i + 1, by omega, rfl, by go_num, HB4, HS4, HC4, Lib.hid (fun _ => HO4.out (by trivial)), hbl4⟩
                      case measure => simp [intOf]; omega
                    | false =>
                      have HC3 : Hid (b = false → on2 = on ∧ Gr.Cls g k on (i + 1)) := Lib.hid (fun h => by
                        obtain ⟨e, h2⟩ := hC2.out h
                        refine ⟨e, h2.succ fun t ht hc => ?_⟩
                        exfalso
                        rw [HLF.out] at hc
                        rcases hc with hc | ⟨l2, hc, hc2⟩
                        · exact hkl (by omega)
                        · obtain rfl : ln = l2 := by omega
                          rw [← e, hol.out] at hc2; cases hc2)
                      clear hkl hC2 HB4 hbl4 HO4 HC4
                      go_wp2_with fail
                      go_roundw
                      case rel => exact ⟨b, on2, i + 1, by omega, rfl, by go_num, HB3, hS2, HC3, hO2, hbl3⟩
                      case measure => simp [intOf]; omega
            · obtain rfl : i = n := by omega
              have HMM : Hid (Gr.moreM (.bool b) (Gr.offW wr rb) < Gr.offc on + 1) := Lib.hid (by
                rw [off_blk hB2.out]
                cases b with
                | false => exact Nat.succ_pos _
                | true => exact Nat.succ_lt_succ (hO2.out rfl))
              have HCC : Hid (b = false → Gr.Cls g k on2 g.length) := Lib.hid (fun h => by
                obtain ⟨e, h2⟩ := hC2.out h
                rw [e, HL.out]; exact h2)
              clear hO2 hC2
              go_wp2_with fail
              go_roundw
              case rel => exact ⟨b, on2, rfl, hB2, hS2, HCC, hbl2⟩
              case measure => rw [HM.out]; exact HMM.out
    · obtain rfl : k = 64 := by omega
      have HF : Hid (¬ Gr.Cyc g) := Lib.hid (by
        rintro ⟨s, hp⟩
        have hs : 0 ≤ s ∧ s < 64 := by
          cases hp with
          | one e => exact (edge_parts HV.out e).1
          | cons e _ => exact (edge_parts HV.out e).1
        obtain ⟨t, rfl⟩ : ∃ t : Nat, s = (t : Int) := ⟨s.toNat, by omega⟩
        exact hnp.out t (by omega) hp)
      clear hnp
      go_wp2
      go_ret
      exact ⟨hbel, false, rfl, (fun h => by cases h), fun _ => HF.out⟩
end Go.Proofs.Ytkclifdbdnigaaa
end
section
/- The reference: what is wrong with a grammar: the walk. -/
namespace Gr
/-- What the reference says of a grammar. -/
def RCode (g : List Rule) (c : Int) : Prop :=
  (200 < g.length ∧ c = 5) ∨ (g.length ≤ 200 ∧ firstE g ≠ 0 ∧ c = firstE g) ∨ (g.length ≤ 200 ∧ firstE g = 0 ∧ Cyc g ∧ c = 92) ∨ (g.length ≤ 200 ∧ firstE g = 0 ∧ ¬ Cyc g ∧ c = 0)
theorem VCode.ref {g : List Rule} {c : Int} (h : VCode g c) : RCode g c := by
  rcases h with h | h | h | ⟨h1, h2, h3, h4⟩
  · exact .inl h
  · exact .inr (.inl h)
  · exact .inr (.inr (.inl h))
  · exact .inr (.inr (.inr ⟨h1.len, h3, h2, h4⟩))
theorem RCode.uniq {g : List Rule} {c d : Int} (h : RCode g c) (k : RCode g d) : c = d := by
  rcases h with ⟨h1, rfl⟩ | ⟨h1, h2, rfl⟩ | ⟨h1, h2, h3, rfl⟩ | ⟨h1, h2, h3, rfl⟩ <;> rcases k with ⟨k1, rfl⟩ | ⟨k1, k2, rfl⟩ | ⟨k1, k2, k3, rfl⟩ | ⟨k1, k2, k3, rfl⟩
  all_goals first | rfl | omega | (exact absurd h2 k2) | (exact absurd k2 h2) | (exact absurd h3 k3) | (exact absurd k3 h3)
theorem ruleE_left {s : Int} {l : List Item} (h : symOk s = false) : ruleE ⟨s, l⟩ = 90 := by unfold ruleE; rw [if_pos h]
theorem ruleE_len {s : Int} {l : List Item} (h : symOk s = true) (h2 : l.length = 0 ∨ 8 < l.length) : ruleE ⟨s, l⟩ = 91 := by unfold ruleE; rw [if_neg (by simp [h]), if_pos h2]
theorem ruleE_items {s : Int} {l : List Item} (h : symOk s = true) (h2 : ¬ (l.length = 0 ∨ 8 < l.length)) : ruleE ⟨s, l⟩ = if l.all itemOk then 0 else 90 := by
  unfold ruleE
  rw [if_neg (by simp [h]), if_neg h2]
  show (if l.all itemOk = false then (90 : Int) else 0) = _
  cases l.all itemOk <;> rfl
end Gr
namespace Go.Proofs.Ytkclifdbdnigaaa
open Go Go.RowKit
def RefValidPost (g : List Gr.Rule) (w : World) (e : Ending) (w' : World) : Prop := Below w.heap.size w w' ∧ ∃ c : Int, e = .returned (.int .i64 c) ∧ Gr.RCode g c
set_option maxRecDepth 100000 in
set_option maxHeartbeats 2000000 in
theorem refValid_any (g : List Gr.Rule) (A : Option Addr) (n cp : Nat) (w : World) (hl : g.length = n) (hn : n ≤ 4611686018427387904) (hW : WfR g) (hg : Kt.Rules w w.heap.size A g) :
    Calls Try.prog 13 #[.slice A n cp] w (RefValidPost g w) := by
  have HL := Lib.hid hl
  have HW := Lib.hid hW
  have HG := Lib.hid hg
  clear hl hW hg
  by_cases hlong : 200 < n
  · have d0 : decide ((n : Int) > 200) = true := by simp; omega
    have HV : Hid (Gr.RCode g 5) := Lib.hid (.inl ⟨by have := HL.out; omega, rfl⟩)
    go_enter Try.func13, Try.ntmps13
    go_wp2_with fail
    go_ret
    exact ⟨Below.refl _ _, 5, rfl, HV.out⟩
  · have d0 : decide ((n : Int) > 200) = false := by simp; omega
    go_enter Try.func13, Try.ntmps13
    go_wp2_with fail
    go_loopw [3] (fun s wr => ∃ k : Nat, k ≤ n ∧ s = .int .i64 k ∧ Hid (∀ r, r < k → Gr.ruleE (Gr.rul g r) = 0) ∧ Below w.heap.size w wr) (fun s _ => n - (intOf s).toNat)
    case atStart => exact ⟨0, Nat.zero_le _, rfl, Lib.hid (fun r hr => by omega), Below.refl _ _⟩
    case round =>
      obtain ⟨k, hk, rfl, hz, hbel⟩ := hrel
      rename World => wo
      have hso := hbel.size
      by_cases hlt : k < n
      · have dkn : decide ((k : Int) < n) = true := by simp; omega
        have hkg : k < g.length := by rw [HL.out]; exact hlt
        obtain ⟨bA, oA, rfl, hbA, hcA⟩ := (HG.out.on hbel) (by rw [HL.out]; omega)
        obtain ⟨cl, A', c', cr, hlr, hit⟩ := hcA k hkg
        obtain ⟨ru, hru⟩ : ∃ ru, Hid (Gr.rul g k = ru) := ⟨_, Lib.hid rfl⟩
        have hwf := HW.out k hkg
        obtain ⟨lf, l⟩ := ru
        rw [hru.out] at cl cr hlr hit hwf
        obtain ⟨m, hm⟩ : ∃ m, Hid (l.length = m) := ⟨_, Lib.hid rfl⟩
        replace cl : wo.cell? ⟨bA, oA + k * 2, none⟩ = some (.int .i64 lf) := cl
        replace cr : wo.cell? ⟨bA, oA + k * 2 + 1, none⟩ = some (.slice A' l.length c') := cr
        replace hit : Kt.Items wo wo.heap.size A' l := hit
        replace hlr : l.length ≤ 4611686018427387904 := hlr
        replace hwf : ∀ x ∈ l, 0 ≤ x.cls ∧ x.cls ≤ 65535 := hwf
        rw [hm.out] at cr hlr
        have HWF := Lib.hid hwf
        have HERR : Hid (Gr.ruleE ⟨lf, l⟩ ≠ 0 → Gr.RCode g (Gr.ruleE ⟨lf, l⟩)) := Lib.hid (fun h => .inr (.inl (by
          have h1 := Gr.firstE_at g k hkg hz.out (by rw [hru.out]; exact h)
          rw [hru.out] at h1
          exact ⟨by have := HL.out; omega, by rw [h1]; exact h, h1.symm⟩)))
        clear hcA hwf
        go_wp2_with fail
        refine (refSymbol_any lf wo).mono ?_
        rintro e w2 ⟨rfl, rfl⟩
        obtain ⟨so, hso2⟩ : ∃ b, Hid (Gr.symOk lf = b) := ⟨_, Lib.hid rfl⟩
        rw [hso2.out]
        cases so with
        | false =>
          have HE : Hid (Gr.RCode g 90) := Lib.hid (by
            have h := Gr.ruleE_left (l := l) hso2.out
            have := HERR.out (by rw [h]; decide)
            rwa [h] at this)
          clear hit hz
          go_wp2_with fail
          go_ret
          exact ⟨hbel, 90, rfl, HE.out⟩
        | true =>
          by_cases hm0 : m = 0
          · have dm : decide ((m : Int) < 1) = true := by simp [hm0]
            have HE : Hid (Gr.RCode g 91) := Lib.hid (by
              have h := Gr.ruleE_len (l := l) hso2.out (.inl (by rw [hm.out]; exact hm0))
              have := HERR.out (by rw [h]; decide)
              rwa [h] at this)
            clear hit hz hm0
            go_wp2_with fail
            go_ret
            exact ⟨hbel, 91, rfl, HE.out⟩
          · have dm : decide ((m : Int) < 1) = false := by simp; omega
            by_cases hm8 : 8 < m
            · have dm8 : decide ((m : Int) > 8) = true := by simp; omega
              have HE : Hid (Gr.RCode g 91) := Lib.hid (by
                have h := Gr.ruleE_len (l := l) hso2.out (.inr (by rw [hm.out]; exact hm8))
                have := HERR.out (by rw [h]; decide)
                rwa [h] at this)
              clear hit hz
              go_wp2_with fail
              go_ret
              exact ⟨hbel, 91, rfl, HE.out⟩
            · have dm8 : decide ((m : Int) > 8) = false := by simp; omega
              have HEI : Hid (Gr.ruleE ⟨lf, l⟩ = if l.all Gr.itemOk then 0 else 90) := Lib.hid (Gr.ruleE_items hso2.out (by rw [hm.out]; omega))
              have HE90 : Hid (l.all Gr.itemOk = false → Gr.RCode g 90) := Lib.hid (fun h => by
                have h2 := HEI.out
                rw [h] at h2
                have h3 : Gr.ruleE ⟨lf, l⟩ = 90 := h2
                have := HERR.out (by rw [h3]; decide)
                rwa [h3] at this)
              obtain ⟨bI, oI, rfl, hbI, hcI⟩ := hit (by rw [hm.out]; omega)
              have HCI := Lib.hid hcI
              clear hcI
              go_wp2_with fail
              go_loopw [4] (fun s wr => ∃ q : Nat, q ≤ m ∧ s = .int .i64 q ∧ Hid ((l.take q).all Gr.itemOk = true) ∧ Below wo.heap.size wo wr) (fun s _ => m - (intOf s).toNat)
              case atStart => exact ⟨0, Nat.zero_le _, rfl, Lib.hid rfl, Below.refl _ _⟩
              case round =>
                obtain ⟨q, hq, rfl, hall, hbl⟩ := hrel
                have hsl := hbl.size
                have hbw : Below w.heap.size w wr := hbel.trans (hbl.mono hso)
                have cl2 : wr.cell? ⟨bA, oA + k * 2, none⟩ = some (.int .i64 lf) := (hbl.cell (p := ⟨bA, oA + k * 2, none⟩) hbA).trans cl
                have cr2 : wr.cell? ⟨bA, oA + k * 2 + 1, none⟩ = some (.slice (some ⟨bI, oI, none⟩) m c') := (hbl.cell (p := ⟨bA, oA + k * 2 + 1, none⟩) hbA).trans cr
                by_cases hqm : q < m
                · have hql : q < l.length := by rw [hm.out]; exact hqm
                  obtain ⟨i0, i1⟩ := HCI.out q hql
                  have hx := HWF.out (Gr.itm l q) (by unfold Gr.itm; rw [List.getD_eq_getElem?_getD, List.getElem?_eq_getElem hql]; exact List.getElem_mem _)
                  have HTS := Lib.hid (Gr.take_succ l q hql)
                  obtain ⟨it, hitm⟩ : ∃ it, Hid (Gr.itm l q = it) := ⟨_, Lib.hid rfl⟩
                  obtain ⟨xc, xs⟩ := it
                  rw [hitm.out] at i0 i1 hx HTS
                  have j0 : wr.cell? ⟨bI, oI + q * 2, none⟩ = some (.int .u16 xc) := (hbl.cell (p := ⟨bI, oI + q * 2, none⟩) hbI).trans i0
                  have j1 : wr.cell? ⟨bI, oI + q * 2 + 1, none⟩ = some (.int .i64 xs) := (hbl.cell (p := ⟨bI, oI + q * 2 + 1, none⟩) hbI).trans i1
                  have hx0 : 0 ≤ xc := hx.1
                  have HSUC : Hid ((l.take (q + 1)).all Gr.itemOk = Gr.itemOk ⟨xc, xs⟩) := Lib.hid (by rw [HTS.out, List.all_append, hall.out]; simp)
                  have HBAD : Hid (Gr.itemOk ⟨xc, xs⟩ = false → Gr.RCode g 90) := Lib.hid (fun h => HE90.out (Gr.all_false l (q + 1) (by rw [HSUC.out]; exact h)))
                  obtain ⟨w3, hw3⟩ : ∃ w3, wr.alloc (.cells #[.int .u16 xc, .int .i64 xs] 86) = w3 := ⟨_, rfl⟩
                  have k3 : Kt.Blk w3 wr.heap.size 86 #[.int .u16 xc, .int .i64 xs] := by rw [← hw3]; exact Kt.Blk.new wr _ _
                  have hb3 : Below wo.heap.size wo w3 := by rw [← hw3]; exact hbl.alloc hsl _
                  have hbw3 : Below w.heap.size w w3 := hbel.trans (hb3.mono hso)
                  have y0 : w3.cell? ⟨wr.heap.size, 0, none⟩ = some (.int .u16 xc) := k3.cell 0
                  have y1 : w3.cell? ⟨wr.heap.size, 1, none⟩ = some (.int .i64 xs) := k3.cell 1
                  clear i0 i1 hx k3 HTS
                  go_wp2_with fail
                  refine (refSymbol_any xs w3).mono ?_
                  rintro e w4 ⟨rfl, rfl⟩
                  obtain ⟨sx, hsx⟩ : ∃ b, Hid (Gr.symOk xs = b) := ⟨_, Lib.hid rfl⟩
                  rw [hsx.out]
                  cases sx with
                  | false =>
                    have HE := Lib.hid (HBAD.out (by unfold Gr.itemOk; rw [hsx.out]; rfl))
                    go_wp2_with fail
                    go_ret
                    exact ⟨hbw3, 90, rfl, HE.out⟩
                  | true =>
                    have hxs : 0 ≤ xs := (of_decide_eq_true hsx.out).1
                    by_cases hc0 : xc = 0
                    · have dc : decide (xc > 0) = false := by simp [hc0]
                      have HN : Hid ((l.take (q + 1)).all Gr.itemOk = true) := Lib.hid (by rw [HSUC.out]; unfold Gr.itemOk; rw [hsx.out]; simp [hc0])
                      clear hc0
                      go_wp2_with fail
                      go_roundw
                      case rel => exact ⟨q + 1, by omega, by go_num, HN, hb3⟩
                      case measure => simp [intOf]; omega
                    · have dc : decide (xc > 0) = true := by simp; omega
                      by_cases hs0 : xs = 0
                      · have ds : decide (xs > 0) = false := by simp [hs0]
                        have HN : Hid ((l.take (q + 1)).all Gr.itemOk = true) := Lib.hid (by rw [HSUC.out]; unfold Gr.itemOk; rw [hsx.out]; simp [hs0])
                        clear hc0 hs0
                        go_wp2_with fail
                        go_roundw
                        case rel => exact ⟨q + 1, by omega, by go_num, HN, hb3⟩
                        case measure => simp [intOf]; omega
                      · have ds : decide (xs > 0) = true := by simp; omega
                        have HE := Lib.hid (HBAD.out (by unfold Gr.itemOk; rw [hsx.out]; simp [hc0, hs0]))
                        clear hc0 hs0
                        go_wp2_with fail
                        go_ret
                        exact ⟨hbw3, 90, rfl, HE.out⟩
                · obtain rfl : q = m := by omega
                  have HN : Hid (∀ r, r < k + 1 → Gr.ruleE (Gr.rul g r) = 0) := Lib.hid (fun r hr => by
                    by_cases e : r = k
                    · subst e
                      rw [hru.out, HEI.out]
                      have := hall.out
                      rw [List.take_of_length_le (by rw [hm.out]; exact Nat.le_refl _)] at this
                      rw [this]; rfl
                    · exact hz.out r (by omega))
                  clear hall
                  go_wp2_with fail
                  go_roundw
                  case rel => exact ⟨k + 1, by omega, by go_num, HN, hbw⟩
                  case measure => simp [intOf]; omega
      · obtain rfl : k = n := by omega
        have HO : Hid (∀ r, r < g.length → Gr.RuleOk (Gr.rul g r)) := Lib.hid (fun r hr => hz.out r (by rw [← HL.out]; exact hr))
        have HF : Hid (Gr.firstE g = 0) := Lib.hid (Gr.firstE_zero g HO.out)
        clear hz
        go_wp2_with fail
        refine (refCyclic_any g A k cp wo HL.out (by omega) (HG.out.on hbel) HO.out).mono ?_
        rintro e w2 ⟨hb2, b, rfl, hT, hFa⟩
        have hbw2 : Below w.heap.size w w2 := hbel.trans (hb2.mono hso)
        cases b with
        | true =>
          have HV : Hid (Gr.RCode g 92) := Lib.hid (.inr (.inr (.inl ⟨by have := HL.out; omega, HF.out, hT rfl, rfl⟩)))
          clear hT hFa
          go_wp2_with fail
          go_ret
          exact ⟨hbw2, 92, rfl, HV.out⟩
        | false =>
          have HV : Hid (Gr.RCode g 0) := Lib.hid (.inr (.inr (.inr ⟨by have := HL.out; omega, HF.out, hFa rfl, rfl⟩)))
          clear hT hFa
          go_wp2_with fail
          go_ret
          exact ⟨hbw2, 0, rfl, HV.out⟩
end Go.Proofs.Ytkclifdbdnigaaa
end
section
/- The reference: check, Right: the walks. -/
namespace Gr
/-- What the reference's check says. -/
def CCode (g : List Rule) (n : Nat) (c : Int) : Prop := ∃ v, RCode g v ∧ c = if v ≠ 0 then v else if 40 < n then 5 else 0
theorem KCode.ref {g : List Rule} {n : Nat} {c : Int} (h : KCode g n c) : CCode g n c := by
  obtain ⟨v, h1, h2⟩ := h
  exact ⟨v, h1.ref, h2⟩
theorem CCode.uniq {g : List Rule} {n : Nat} {c d : Int} (h : CCode g n c) (k : CCode g n d) : c = d := by
  obtain ⟨v, h1, rfl⟩ := h
  obtain ⟨u, k1, rfl⟩ := k
  rw [h1.uniq k1]
end Gr
namespace Go.Proofs.Ytkclifdbdnigaaa
open Go Go.RowKit
theorem refTree_any (g : List Gr.Rule) (tk : List Int) (h8 : ∀ r, r < g.length → (Gr.rul g r).right.length ≤ 1000) : ∀ (f : Nat) (x : Gr.TrI), x.size ≤ f → RefTreeAt g tk f x := by
  intro f
  induction f with
  | zero => intro x hx; obtain ⟨r, i, j, l⟩ := x; rw [Gr.TrI.size] at hx; omega
  | succ f ih => exact fun x hx => refTree_step g tk f h8 x fun y hy => ih y (by omega)
theorem refCheck_any (g : List Gr.Rule) (A : Option Addr) (n cp : Nat) (T : Option Addr) (nt ct : Nat) (w : World) (hl : g.length = n) (hn : n ≤ 4611686018427387904) (hW : WfR g) (hg : Kt.Rules w w.heap.size A g) :
    Calls Try.prog 55 #[.slice A n cp, .slice T nt ct] w fun e w' => Below w.heap.size w w' ∧ ∃ c : Int, e = .returned (.int .i64 c) ∧ Gr.CCode g nt c := by
  have HC := Lib.hid (refValid_any g A n cp w hl hn hW hg)
  clear hl hg hW
  go_enter Try.func55, Try.ntmps55
  go_wp2_with fail
  refine HC.out.mono ?_
  rintro e w1 ⟨hb, v, rfl, hv⟩
  have HV := Lib.hid hv
  clear hv HC
  by_cases he : v = 0
  · subst he
    by_cases h40 : 40 < nt
    · have d : decide ((nt : Int) > 40) = true := by simp; omega
      have HK : Hid (Gr.CCode g nt 5) := Lib.hid ⟨0, HV.out, by rw [if_neg (by simp), if_pos h40]⟩
      go_wp2_with fail
      go_ret
      exact ⟨hb, 5, rfl, HK.out⟩
    · have d : decide ((nt : Int) > 40) = false := by simp; omega
      have HK : Hid (Gr.CCode g nt 0) := Lib.hid ⟨0, HV.out, by rw [if_neg (by simp), if_neg h40]⟩
      go_wp2_with fail
      go_ret
      exact ⟨hb, 0, rfl, HK.out⟩
  · have heb : (v == 0) = false := by simp [he]
    have HK : Hid (Gr.CCode g nt v) := Lib.hid ⟨v, HV.out, by rw [if_pos he]⟩
    clear he
    go_wp2_with fail
    go_ret
    exact ⟨hb, v, rfl, HK.out⟩
set_option maxHeartbeats 1000000 in
theorem refRight_any (g : List Gr.Rule) (tk : List Int) (A : Option Addr) (n cp : Nat) (T : Option Addr) (nt ct : Nat) (w : World) (x : Gr.TrI) (v : Value) (f : Nat) (hf : x.size ≤ f) (hl : g.length = n) (hn : n ≤ 4611686018427387904) (hnt : tk.length = nt) (hnt2 : nt ≤ 4611686018427387904)
    (h8 : ∀ r, r < g.length → (Gr.rul g r).right.length ≤ 1000) (hW : WfR g) (hg : Kt.Rules w w.heap.size A g) (ht : Kt.Ints w w.heap.size .u16 T tk) (hv : Kt.TVI w x v) :
    Calls Try.prog 27 #[.slice A n cp, .slice T nt ct, v] w fun e w' => Below w.heap.size w w' ∧ ∃ c, Gr.CCode g nt c ∧ e = .returned (.bool (decide (c = 0) && (decide (x.frm = 0) && (decide (x.fin = nt) && Gr.refT g (hitf tk) nt f x 0)))) := by
  obtain ⟨a0, A4, n4, c4, rfl⟩ := hv.form2
  obtain ⟨a1, ha1⟩ : ∃ a1, Hid (x.frm = a1) := ⟨_, Lib.hid rfl⟩
  obtain ⟨a2, ha2⟩ : ∃ a2, Hid (x.fin = a2) := ⟨_, Lib.hid rfl⟩
  rw [ha1.out, ha2.out] at hv ⊢
  obtain ⟨w1, hw1⟩ : ∃ w1, (w.alloc (.cells #[.int .i64 a0, .int .i64 a1, .int .i64 a2, .slice A4 n4 c4] 60)) = w1 := ⟨_, rfl⟩
  have hb1 : Below w.heap.size w w1 := by rw [← hw1]; exact (Below.refl _ _).alloc (Nat.le_refl _) _
  have k1 : Kt.Blk w1 w.heap.size 60 #[.int .i64 a0, .int .i64 a1, .int .i64 a2, .slice A4 n4 c4] := by rw [← hw1]; exact Kt.Blk.new w _ _
  have HL := Lib.hid hl
  have HNT := Lib.hid hnt
  have HG := Lib.hid (hg.on hb1)
  have HT := Lib.hid (ht.on hb1)
  have HV := Lib.hid (hv.on hb1)
  have HF := Lib.hid hf
  have HK := Lib.hid k1
  have H8 := Lib.hid h8
  have HW := Lib.hid hW
  clear hl hnt hg ht hv hf h8 hW
  go_enter Try.func27, Try.ntmps27
  go_wp2_with fail
  refine (refCheck_any g A n cp T nt ct w1 HL.out hn HW.out HG.out).mono ?_
  rintro e w2 ⟨hb2, c, rfl, hc⟩
  have hb2' : Below w.heap.size w w2 := hb1.trans (hb2.mono hb1.size)
  have HC := Lib.hid hc
  have k2 := HK.out.on hb2
  have x0 : w2.cell? ⟨w.heap.size, 0, none⟩ = some (.int .i64 a0) := k2.cell 0
  have x1 : w2.cell? ⟨w.heap.size, 1, none⟩ = some (.int .i64 a1) := k2.cell 1
  have x2 : w2.cell? ⟨w.heap.size, 2, none⟩ = some (.int .i64 a2) := k2.cell 2
  have x3 : w2.cell? ⟨w.heap.size, 3, none⟩ = some (.slice A4 n4 c4) := k2.cell 3
  clear k1 k2 hw1 hc
  by_cases hcz : c = 0
  · subst hcz
    by_cases h1 : a1 = 0
    · have d1 : (a1 == 0) = true := by simp [h1]
      by_cases h2 : a2 = (nt : Int)
      · have d2 : (a2 == (nt : Int)) = true := by simp [h2]
        have HI := Lib.hid (refTree_any g tk H8.out f x HF.out A n cp T nt ct w2 _ 0 HL.out HNT.out hn hnt2 (HG.out.on hb2) (HT.out.on hb2) (HV.out.on hb2))
        subst h1 h2
        go_wp2_with fail
        refine HI.out.mono ?_
        rintro e w3 ⟨rfl, hb3⟩
        go_wp2_with fail
        go_ret
        exact ⟨hb2'.trans (hb3.mono hb2'.size), 0, HC.out, by simp⟩
      · have d2 : (a2 == (nt : Int)) = false := by simp [h2]
        have H2 := Lib.hid h2
        subst h1
        clear h2
        go_wp2_with fail
        go_ret
        exact ⟨hb2', 0, HC.out, by rw [decide_eq_false H2.out]; rfl⟩
    · have d1 : (a1 == 0) = false := by simp [h1]
      have H1 := Lib.hid h1
      clear h1
      go_wp2_with fail
      go_ret
      exact ⟨hb2', 0, HC.out, by rw [decide_eq_false H1.out]; rfl⟩
  · have heb : (c == 0) = false := by simp [hcz]
    have HCZ := Lib.hid hcz
    clear hcz
    go_wp2_with fail
    go_ret
    exact ⟨hb2', c, HC.out, by rw [decide_eq_false HCZ.out]; rfl⟩
end Go.Proofs.Ytkclifdbdnigaaa
end
section
/- size: it returns. -/
namespace Go.Proofs.Ytkclifdbdnigaaa
open Go Go.RowKit
def SizePost (w : World) (e : Ending) (w' : World) : Prop := (∃ z : Int, e = .returned (.int .i64 z)) ∧ Below w.heap.size w w'
set_option maxRecDepth 10000 in
set_option maxHeartbeats 2000000 in
theorem size_step (x : Gr.TrI) (IH : ∀ y : Gr.TrI, y.size < x.size → ∀ (v : Value) (w : World) (lim : Int), Kt.TVI w y v → Calls Try.prog 25 #[v, .int .i64 lim] w (SizePost w))
    (v : Value) (w : World) (lim : Int) (hv : Kt.TVI w x v) : Calls Try.prog 25 #[v, .int .i64 lim] w (SizePost w) := by
  obtain ⟨r, fr, t0, sub⟩ := x
  obtain ⟨v4, rfl, hl4⟩ := hv.parts
  have HI : Hid (∀ y ∈ sub, ∀ (v : Value) (w : World) (lim : Int), Kt.TVI w y v → Calls Try.prog 25 #[v, .int .i64 lim] w (SizePost w)) := Lib.hid (fun y hy => IH y (Gr.size_mem hy r fr t0))
  have HL4 := Lib.hid hl4
  obtain ⟨A4, c4, b4, off4, vs4, rfl, hA4, hle4, h634, hcells4, _⟩ := hl4
  obtain ⟨ns, hns⟩ : ∃ m, Hid (sub.length = m) := ⟨_, Lib.hid rfl⟩
  rw [hns.out] at HL4 h634 ⊢
  obtain ⟨w1, hw1⟩ : ∃ w1, (w.alloc (.cells #[.int .i64 r, .int .i64 fr, .int .i64 t0, .slice A4 ns c4] 46)) = w1 := ⟨_, rfl⟩
  have hs1 : w1.heap.size = w.heap.size + 1 := by rw [← hw1]; simp
  have hb1 : Below w.heap.size w w1 := by rw [← hw1]; exact (Below.refl _ _).alloc (Nat.le_refl _) _
  have k1 : Kt.Blk w1 w.heap.size 46 #[.int .i64 r, .int .i64 fr, .int .i64 t0, .slice A4 ns c4] := by rw [← hw1]; exact Kt.Blk.new w _ _
  have HK1 := Lib.hid k1
  have HB1 := Lib.hid hb1
  have hlt1 : w.heap.size < w1.heap.size := by omega
  have HW1 := Lib.hid hw1
  clear IH hv k1 hb1 hs1 hA4 hle4 hcells4 hw1
  go_enter Try.func25, Try.ntmps25
  go_wp2_with fail
  rw [HW1.out]
  go_loopw [5, 6] (fun u s wr => ∃ (q : Nat) (z : Int), q ≤ ns ∧ s = .int .i64 q ∧ u = .int .i64 z ∧ Below w1.heap.size w1 wr) (fun _ s _ => ns - (intOf s).toNat)
  case atStart => exact ⟨0, 1, Nat.zero_le _, rfl, rfl, Below.refl _ _⟩
  case round =>
    obtain ⟨q, z, hq, rfl, rfl, hbl⟩ := hrel
    have hsl := hbl.size
    have hbw : Below w.heap.size w wr := HB1.out.trans (hbl.mono (by omega))
    have x3 : wr.cell? ⟨w.heap.size, 3, none⟩ = some (.slice A4 ns c4) := (HK1.out.below hbl (by omega)).cell 3
    by_cases hlt : q < ns
    · have dq : decide ((q : Int) < ns) = true := by simp; omega
      by_cases hz : z ≤ lim
      · have dz : decide (z ≤ lim) = true := by simp [hz]
        have hql : q < sub.length := by rw [hns.out]; exact hlt
        obtain ⟨bs, os, ve, rfl, hbs, hcell, hte⟩ := HL4.out.at hql
        obtain ⟨tt, htt⟩ : ∃ tt, Hid (sub.getD q Kt.noTrI = tt) := ⟨_, Lib.hid rfl⟩
        rw [htt.out] at hte
        have hmem : tt ∈ sub := by
          rw [← htt.out, List.getD_eq_getElem?_getD, List.getElem?_eq_getElem hql]
          exact List.getElem_mem hql
        obtain ⟨a0, a1, At, nt4, ct4, rfl⟩ := hte.form
        obtain ⟨a2, ha2⟩ : ∃ a, Hid (tt.fin = a) := ⟨_, Lib.hid rfl⟩
        rw [ha2.out] at hte hcell
        have z0 : wr.cell? ⟨bs, os + q * 4, none⟩ = some (.int .i64 a0) := (hbw.cell (p := ⟨bs, os + q * 4, none⟩) hbs).trans (hcell 0 (by omega))
        have z1 : wr.cell? ⟨bs, os + q * 4 + 1, none⟩ = some (.int .i64 a1) := (hbw.cell (p := ⟨bs, os + q * 4 + 1, none⟩) hbs).trans (hcell 1 (by omega))
        have z2 : wr.cell? ⟨bs, os + q * 4 + 2, none⟩ = some (.int .i64 a2) := (hbw.cell (p := ⟨bs, os + q * 4 + 2, none⟩) hbs).trans (hcell 2 (by omega))
        have z3 : wr.cell? ⟨bs, os + q * 4 + 3, none⟩ = some (.slice At nt4 ct4) := (hbw.cell (p := ⟨bs, os + q * 4 + 3, none⟩) hbs).trans (hcell 3 (by omega))
        obtain ⟨lm, hlm⟩ : ∃ lm, IntKind.i64.wrap (lim - z) = lm := ⟨_, rfl⟩
        have HCALL := Lib.hid (HI.out tt hmem _ wr lm (hte.on hbw))
        clear hcell hte hmem hz
        go_wp2_with fail
        refine HCALL.out.mono ?_
        rintro e w3 ⟨⟨y, rfl⟩, hb3⟩
        have hbl3 : Below w1.heap.size w1 w3 := hbl.trans (hb3.mono hsl)
        obtain ⟨yy, hyy⟩ : ∃ yy, IntKind.i64.wrap (z + y) = yy := ⟨_, rfl⟩
        go_wp2_with fail
        go_roundw
        case rel => exact ⟨q + 1, yy, by omega, by go_num, rfl, hbl3⟩
        case measure => simp [intOf]; omega
      · have dz : decide (z ≤ lim) = false := by simp; omega
        clear hz
        go_wp2_with fail
        go_ret
        exact ⟨⟨z, rfl⟩, hbw⟩
    · obtain rfl : q = ns := by omega
      go_wp2_with fail
      go_ret
      exact ⟨⟨z, rfl⟩, hbw⟩
theorem size_any (x : Gr.TrI) : ∀ (v : Value) (w : World) (lim : Int), Kt.TVI w x v → Calls Try.prog 25 #[v, .int .i64 lim] w (SizePost w) := by
  have key : ∀ n (x : Gr.TrI), x.size ≤ n → ∀ (v : Value) (w : World) (lim : Int), Kt.TVI w x v → Calls Try.prog 25 #[v, .int .i64 lim] w (SizePost w) := by
    intro n
    induction n with
    | zero => intro x hx; obtain ⟨r, i, j, l⟩ := x; rw [Gr.TrI.size] at hx; omega
    | succ n ih => exact fun x hx => size_step x fun y hy => ih y (by omega)
  exact key _ x (Nat.le_refl _)
end Go.Proofs.Ytkclifdbdnigaaa
end
section
/- Trees with whole numbers in memory, outside of some blocks; rows of them. -/
namespace Kt
open Go Go.RowKit
/-- The value v is the tree, in no block of M. -/
inductive TVJ (W : World) (M : Nat → Prop) : Gr.TrI → Value → Prop
  | node (r i j : Int) (l : List Gr.TrI) (A : Option Addr) (c b off : Nat) (vs : Nat → Value) (hA : 0 < l.length → A = some ⟨b, off, none⟩ ∧ ¬ M b ∧ b < W.heap.size) (hle : l.length ≤ c) (h63 : l.length ≤ 4611686018427387904)
      (hc : ∀ k, k < l.length → ∀ q, q < 4 → W.cell? ⟨b, off + k * 4 + q, none⟩ = (vs k).cells[q]?) (ht : ∀ k, k < l.length → TVJ W M (l.getD k noTrI) (vs k)) :
      TVJ W M (.node r i j l) (.agg #[.int .i64 (r : Int), .int .i64 (i : Int), .int .i64 (j : Int), .slice A l.length c])
/-- The value v is the slice of the trees l, in no block of M. -/
def LVJ (W : World) (M : Nat → Prop) (l : List Gr.TrI) (v : Value) : Prop :=
  ∃ (A : Option Addr) (c b off : Nat) (vs : Nat → Value), v = .slice A l.length c ∧ (0 < l.length → A = some ⟨b, off, none⟩ ∧ ¬ M b ∧ b < W.heap.size) ∧ l.length ≤ c ∧ l.length ≤ 4611686018427387904 ∧
    (∀ k, k < l.length → ∀ q, q < 4 → W.cell? ⟨b, off + k * 4 + q, none⟩ = (vs k).cells[q]?) ∧ ∀ k, k < l.length → TVJ W M (l.getD k noTrI) (vs k)
variable {W W' : World} {M M' : Nat → Prop}
theorem TVJ.keep {t : Gr.TrI} {v : Value} (h : TVJ W M t v) (hk : ∀ k, k < W.heap.size → ¬ M k → W'.heap[k]? = W.heap[k]?) : TVJ W' M t v := by
  induction h with
  | node r i j l A c b off vs hA hle h63 hc ht ih =>
    refine .node r i j l A c b off vs (fun hp => ?_) hle h63 (fun k hkl q hq => ?_) ih
    · obtain ⟨h1, h2, h3⟩ := hA hp
      refine ⟨h1, h2, ?_⟩
      have h4 := hk b h3 h2
      rw [Array.getElem?_eq_getElem h3] at h4
      exact (Array.getElem?_eq_some_iff.1 h4).1
    · obtain ⟨h1, h2, h3⟩ := hA (by omega)
      exact (World.cell?_of_block (a := ⟨b, off + k * 4 + q, none⟩) (hk b h3 h2)).trans (hc k hkl q hq)
theorem TVJ.less {t : Gr.TrI} {v : Value} (h : TVJ W M t v) (hM : ∀ k, M' k → M k) : TVJ W M' t v := by
  induction h with
  | node r i j l A c b off vs hA hle h63 hc ht ih =>
    exact .node r i j l A c b off vs (fun hp => ⟨(hA hp).1, fun e => (hA hp).2.1 (hM b e), (hA hp).2.2⟩) hle h63 hc ih
theorem LVJ.keep {l : List Gr.TrI} {v : Value} (h : LVJ W M l v) (hk : ∀ k, k < W.heap.size → ¬ M k → W'.heap[k]? = W.heap[k]?) : LVJ W' M l v := by
  obtain ⟨A, c, b, off, vs, e, hA, hle, h63, hc, ht⟩ := h
  refine ⟨A, c, b, off, vs, e, fun hp => ?_, hle, h63, fun k hkl q hq => ?_, fun k hkl => (ht k hkl).keep hk⟩
  · obtain ⟨h1, h2, h3⟩ := hA hp
    refine ⟨h1, h2, ?_⟩
    have h4 := hk b h3 h2
    rw [Array.getElem?_eq_getElem h3] at h4
    exact (Array.getElem?_eq_some_iff.1 h4).1
  · obtain ⟨h1, h2, h3⟩ := hA (by omega)
    exact (World.cell?_of_block (a := ⟨b, off + k * 4 + q, none⟩) (hk b h3 h2)).trans (hc k hkl q hq)
theorem LVJ.less {l : List Gr.TrI} {v : Value} (h : LVJ W M l v) (hM : ∀ k, M' k → M k) : LVJ W M' l v := by
  obtain ⟨A, c, b, off, vs, e, hA, hle, h63, hc, ht⟩ := h
  exact ⟨A, c, b, off, vs, e, fun hp => ⟨(hA hp).1, fun e => (hA hp).2.1 (hM b e), (hA hp).2.2⟩, hle, h63, hc, fun k hkl => (ht k hkl).less hM⟩
theorem LVJ.nil (W : World) (M : Nat → Prop) : LVJ W M [] (.slice none 0 0) := ⟨none, 0, 0, 0, fun _ => undef, rfl, fun h => by simp at h, Nat.le_refl _, by simp, fun k hk => by simp at hk, fun k hk => by simp at hk⟩
theorem TVJ.of_list {l : List Gr.TrI} {v : Value} (h : LVJ W M l v) (r i j : Int) : TVJ W M (.node r i j l) (.agg #[.int .i64 (r : Int), .int .i64 (i : Int), .int .i64 (j : Int), v]) := by
  obtain ⟨A, c, b, off, vs, rfl, hA, hle, h63, hc, ht⟩ := h
  exact .node r i j l A c b off vs hA hle h63 hc ht
theorem TVJ.parts {r i j : Int} {l : List Gr.TrI} {v : Value} (h : TVJ W M (.node r i j l) v) : ∃ s, v = .agg #[.int .i64 (r : Int), .int .i64 (i : Int), .int .i64 (j : Int), s] ∧ LVJ W M l s := by
  cases h with
  | node _ _ _ _ A c b off vs hA hle h63 hc ht => exact ⟨_, rfl, A, c, b, off, vs, rfl, hA, hle, h63, hc, ht⟩
theorem TVJ.cells4 {t : Gr.TrI} {v : Value} (h : TVJ W M t v) : ∃ x0 x1 x2 x3, v = .agg #[x0, x1, x2, x3] := by
  cases h with
  | node _ _ _ _ A c b off vs hA hle h63 hc ht => exact ⟨_, _, _, _, rfl⟩
theorem tvj_more {W : World} {S : Nat → Prop} {t : Gr.TrI} {v : Value} (h : Kt.TVJ W S t v) : Kt.TVJ W (fun k => S k ∨ W.heap.size ≤ k) t v := by
  induction h with
  | node r i j l A c b off vs hA hle h63 hc ht ih =>
    refine .node r i j l A c b off vs (fun hp => ?_) hle h63 hc ih
    obtain ⟨h1, h2, h3⟩ := hA hp
    exact ⟨h1, fun e => by rcases e with e | e; exact h2 e; omega, h3⟩
/-- The slice v is a row of the call's own, from base on, and is the trees l: their values are vs, in blocks that are neither of M nor the row's. -/
structure OTJ (TT : TypeId) (W : World) (base : Nat) (M : Nat → Prop) (l : List Gr.TrI) (v : Value) (vs : List Value) : Prop where
  len : vs.length = l.length
  own : W.ownsRow base TT 4 v l.length (flatV vs)
  tr : ∀ k, k < l.length → TVJ W (fun b => M b ∨ v.ownBlock = some b) (l.getD k noTrI) (vs.getD k undef)
variable {TT : TypeId} {base : Nat} {l : List Gr.TrI} {v : Value} {vs : List Value}
theorem OTJ.shape (h : OTJ TT W base M l v vs) : ∃ A c, v = .slice A l.length c := by
  rcases h.own.2 with ⟨rfl, h0⟩ | ⟨g, cap, cur, rfl, _⟩
  · exact ⟨none, 0, by rw [h0]⟩
  · exact ⟨_, _, rfl⟩
theorem OTJ.nil (W : World) (base : Nat) (M : Nat → Prop) : OTJ TT W base M [] (.slice none 0 0) [] := ⟨rfl, World.ownsRow_nil _ _ _ _, fun k hk => by simp at hk⟩
theorem OTJ.form4 (h : OTJ TT W base M l v vs) : ∀ k, k < vs.length → ∃ x0 x1 x2 x3, vs.getD k undef = .agg #[x0, x1, x2, x3] := fun k hk => (h.tr k (by rw [← h.len]; exact hk)).cells4
theorem OTJ.keep (h : OTJ TT W base M l v vs) (hk : ∀ k, k < W.heap.size → ¬ M k → W'.heap[k]? = W.heap[k]?) (hg : ∀ g, v.ownBlock = some g → ¬ M g) : OTJ TT W' base M l v vs :=
  ⟨h.len, ownsRow_keep h.own fun g e => hk g (h.own.lt g e).2 (hg g e), fun k hkl => (h.tr k hkl).keep fun b hb hn => hk b hb fun e => hn (.inl e)⟩
theorem OTJ.below (h : OTJ TT W base M l v vs) (hb : Below W.heap.size W W') : OTJ TT W' base M l v vs :=
  ⟨h.len, ownsRow_keep h.own fun g e => hb.block g (h.own.lt g e).2, fun k hkl => (h.tr k hkl).keep fun b hb2 _ => hb.block b hb2⟩
theorem OTJ.less (h : OTJ TT W base M l v vs) (hM : ∀ k, M' k → M k) : OTJ TT W base M' l v vs := ⟨h.len, h.own, fun k hk => (h.tr k hk).less fun b hb => hb.elim (fun e => .inl (hM b e)) .inr⟩
theorem OTJ.snoc {W' : World} {t : Gr.TrI} {x0 x1 x2 x3 : Value} {g cap : Nat} (h : OTJ TT W base M l v vs) (ht : TVJ W (fun b => M b ∨ v.ownBlock = some b) t (.agg #[x0, x1, x2, x3]))
    (hown : W'.ownsRow base TT 4 (.slice (some ⟨g, 0, none⟩) (l.length + 1) cap) (l.length + 1) (flatV vs ++ [x0, x1, x2, x3])) (hgr : W.grownBy W' v.ownBlock) (hat : v.ownBlock = some g ∨ W.heap.size ≤ g) :
    OTJ TT W' base M (l ++ [t]) (.slice (some ⟨g, 0, none⟩) (l.length + 1) cap) (vs ++ [.agg #[x0, x1, x2, x3]]) := by
  have mv : ∀ {t' : Gr.TrI} {u : Value}, TVJ W (fun b => M b ∨ v.ownBlock = some b) t' u → TVJ W' (fun b => M b ∨ (Value.slice (some ⟨g, 0, none⟩) (l.length + 1) cap).ownBlock = some b) t' u := fun {t' u} h0 => by
    have h1 := (tvj_more h0).keep (W' := W') fun k hk hn => hgr.block k hk fun e => hn (.inl (.inr e.symm))
    refine h1.less fun b hb => ?_
    rcases hb with hb | hb
    · exact .inl (.inl hb)
    · have hb2 : g = b := by simpa [Value.ownBlock] using hb
      subst hb2
      rcases hat with e | e
      · exact .inl (.inr e)
      · exact .inr e
  refine ⟨by simp [h.len], ?_, fun k hk => ?_⟩
  · rw [flatV_snoc, List.length_append]
    exact hown
  · rw [List.length_append] at hk
    rcases Nat.lt_or_ge k l.length with hlt | hge
    · have e1 : (l ++ [t]).getD k noTrI = l.getD k noTrI := by simp [List.getElem?_append_left hlt]
      have e2 : (vs ++ [Value.agg #[x0, x1, x2, x3]]).getD k undef = vs.getD k undef := by simp [List.getElem?_append_left (by rw [h.len]; exact hlt : k < vs.length)]
      rw [e1, e2]
      exact mv (h.tr k hlt)
    · obtain rfl : k = l.length := by simp at hk; omega
      have e1 : (l ++ [t]).getD l.length noTrI = t := by simp
      have e2 : (vs ++ [Value.agg #[x0, x1, x2, x3]]).getD l.length undef = Value.agg #[x0, x1, x2, x3] := by rw [← h.len]; simp
      rw [e1, e2]
      exact mv ht
theorem OTJ.lv (h : OTJ TT W base M l v vs) (h63 : l.length ≤ 4611686018427387904) (hg : ∀ g, v.ownBlock = some g → ¬ M g) : LVJ W M l v := by
  have h4 := h.form4
  rcases h.own.2 with ⟨rfl, h0⟩ | ⟨g, cap, cur, rfl, hb, hcur, hle, hmx, hsz, htk⟩
  · obtain rfl : l = [] := List.eq_nil_of_length_eq_zero h0
    exact LVJ.nil W M
  · refine ⟨_, cap, g, 0, fun k => vs.getD k undef, rfl, fun _ => ⟨rfl, hg g rfl, (h.own.lt g rfl).2⟩, hle, h63, fun k hk q hq => ?_, fun k hk => (h.tr k hk).less fun b hb => .inl hb⟩
    have e := flatV_get vs h4 k q (by rw [h.len]; exact hk) hq
    have hlen := flatV_len vs h4
    obtain ⟨u, hu⟩ : ∃ u, (flatV vs)[k * 4 + q]? = some u := ⟨_, List.getElem?_eq_getElem (by rw [hlen, h.len]; omega)⟩
    have := h.own.cells rfl (k * 4 + q) u hu
    show W.cell? ⟨g, 0 + k * 4 + q, none⟩ = (vs.getD k undef).cells[q]?
    rw [← e, hu]
    simpa [Addr.add_lit, Nat.add_assoc] using this
theorem TVJ.toI {W : World} {M : Nat → Prop} {t : Gr.TrI} {v : Value} (h : TVJ W M t v) : TVI W t v := by
  induction h with
  | node r i j l A c b off vs hA hle h63 hc ht ih => exact .node r i j l A c b off vs (fun hp => ⟨(hA hp).1, (hA hp).2.2⟩) hle h63 hc ih
theorem TVI.toJ {W : World} {t : Gr.TrI} {v : Value} (h : TVI W t v) : TVJ W (fun _ => False) t v := by
  induction h with
  | node r i j l A c b off vs hA hle h63 hc ht ih => exact .node r i j l A c b off vs (fun hp => ⟨(hA hp).1, fun e => e, (hA hp).2⟩) hle h63 hc ih
theorem take_trI (l : List Gr.TrI) (k : Nat) (h : k < l.length) : l.take k ++ [l.getD k noTrI] = l.take (k + 1) := by
  rw [List.take_add_one, List.getElem?_eq_getElem h]
  simp [List.getElem?_eq_getElem h]
end Kt
end
