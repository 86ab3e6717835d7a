/- Joined: RfA, RfB, RfC. -/
import Derived.Test.YtkclifdbdnigaaaMa04
import Derived.Test.YtkclifdbdnigaaaMa06
section
/- The reference: units of rules; whether a symbol derives itself, step by step: its walk. -/
namespace Gr
def unitI (r : Rule) : Int := match unit r with | some s => s | none => -1
/-- How many cells of a block are not set. -/
def offW (w : Go.World) (b : Nat) : Nat := ((List.range 64).filter fun t => match w.cell? ⟨b, t, none⟩ with | some (.bool false) => true | _ => false).length
theorem offW_eq {w : Go.World} {b : Nat} {on : Nat → Bool} (h : ∀ t, t < 64 → w.cell? ⟨b, t, none⟩ = some (.bool (on t))) : offW w b = offc on := by
  unfold offW offc
  congr 1
  refine List.filter_congr fun t ht => ?_
  rw [List.mem_range] at ht
  rw [h t ht]
  cases on t <;> rfl
/-- The measure of the search: none if nothing was found in the last round. -/
def moreM (v : Go.Value) (n : Nat) : Nat := match v with | .bool true => n + 1 | _ => 0
/-- What is reached is reached by paths. -/
def Snd (g : List Rule) (s : Nat) (on : Nat → Bool) : Prop := ∀ t, t < 64 → on t = true → Path g (s : Int) (t : Int)
/-- The first k rules lead to nothing new. -/
def Cls (g : List Rule) (s : Nat) (on : Nat → Bool) (k : Nat) : Prop := ∀ r, r < k → ∀ t : Nat, unit (rul g r) = some (t : Int) → ((rul g r).left = (s : Int) ∨ ∃ l : Nat, (rul g r).left = (l : Int) ∧ on l = true) → on t = true
theorem Path.snoc {g : List Rule} {s t u : Int} (h : Path g s t) (e : E g t u) : Path g s u := h.trans (.one e)
theorem Cls.path {g : List Rule} {s : Nat} {on : Nat → Bool} (h : Cls g s on g.length) (hb : ∀ a b, E g a b → (0 ≤ a ∧ a < 64) ∧ (0 ≤ b ∧ b < 64)) : ∀ a b, Path g a b → (a = (s : Int) ∨ ∃ l : Nat, a = (l : Int) ∧ on l = true) → ∃ t : Nat, b = (t : Int) ∧ on t = true := by
  intro a b hp
  induction hp with
  | @one a b e =>
    intro ha
    have h2 := hb _ _ e
    obtain ⟨r, hr, hl, hu⟩ := mem_tgts.1 e
    obtain ⟨t, rfl⟩ : ∃ t : Nat, b = (t : Int) := ⟨b.toNat, by omega⟩
    exact ⟨t, rfl, h r hr t hu (by rw [hl]; exact ha)⟩
  | @cons a b c e _ ih =>
    intro ha
    have h2 := hb _ _ e
    obtain ⟨r, hr, hl, hu⟩ := mem_tgts.1 e
    obtain ⟨t, rfl⟩ : ∃ t : Nat, b = (t : Int) := ⟨b.toNat, by omega⟩
    exact ih (.inr ⟨t, rfl, h r hr t hu (by rw [hl]; exact ha)⟩)
theorem Cls.self {g : List Rule} {s : Nat} {on : Nat → Bool} (h : Cls g s on g.length) (hb : ∀ a b, E g a b → (0 ≤ a ∧ a < 64) ∧ (0 ≤ b ∧ b < 64)) (hs : on s = false) : ¬ Path g (s : Int) (s : Int) := fun hp => by
  obtain ⟨t, ht, hon⟩ := h.path hb _ _ hp (.inl rfl)
  obtain rfl : s = t := by omega
  rw [hs] at hon; cases hon
theorem Cls.succ {g : List Rule} {s k : Nat} {on : Nat → Bool} (h : Cls g s on k) (h1 : ∀ t : Nat, unit (rul g k) = some (t : Int) → ((rul g k).left = (s : Int) ∨ ∃ l : Nat, (rul g k).left = (l : Int) ∧ on l = true) → on t = true) : Cls g s on (k + 1) := fun r hr t hu hl => by
  by_cases e : r = k
  · subst e; exact h1 t hu hl
  · exact h r (by omega) t hu hl
theorem Snd.upd {g : List Rule} {s : Nat} {on : Nat → Bool} (h : Snd g s on) {r tn ln : Nat} (hr : r < g.length) (hu : unit (rul g r) = some (tn : Int)) (hl : (rul g r).left = (ln : Int)) (hln : ln < 64) (hc : ln = s ∨ on ln = true) : Snd g s (upd on tn true) := fun t ht hon => by
  unfold Gr.upd at hon
  by_cases e : t = tn
  · subst e
    have he : E g (ln : Int) (t : Int) := mem_tgts.2 ⟨r, hr, hl, hu⟩
    rcases hc with rfl | hc
    · exact .one he
    · exact (h ln hln hc).snoc he
  · rw [if_neg e] at hon
    exact h t ht hon
end Gr
namespace Go.Proofs.Ytkclifdbdnigaaa
open Go Go.RowKit
theorem refUnit_any (s : Int) (A : Option Addr) (n cp : Nat) (l : List Gr.Item) (w : World) (hl : l.length = n) (hi : Kt.Items w w.heap.size A l) :
    Calls Try.prog 63 #[.agg #[.int .i64 s, .slice A n cp]] w fun e w' => e = .returned (.int .i64 (Gr.unitI ⟨s, l⟩)) ∧ Below w.heap.size w w' := by
  have HL := Lib.hid hl
  obtain ⟨w1, hw1⟩ : ∃ w1, (w.alloc (.cells #[.int .i64 s, .slice A n cp] 85)) = w1 := ⟨_, rfl⟩
  have hb1 : Below w.heap.size w w1 := by rw [← hw1]; exact (Below.refl _ _).alloc (Nat.le_refl _) _
  have k1 : Kt.Blk w1 w.heap.size 85 #[.int .i64 s, .slice A n cp] := by rw [← hw1]; exact Kt.Blk.new w _ _
  have x10 : w1.cell? ⟨w.heap.size, 0, none⟩ = some (.int .i64 s) := k1.cell 0
  have x11 : w1.cell? ⟨w.heap.size, 1, none⟩ = some (.slice A n cp) := k1.cell 1
  go_enter Try.func63, Try.ntmps63
  by_cases h1 : n = 1
  · have d1 : ((n : Int) == 1) = true := by simp [h1]
    obtain ⟨b, o, rfl, hb, hc⟩ := hi (by omega)
    obtain ⟨x, rfl⟩ : ∃ x, l = [x] := List.length_eq_one_iff.1 (by omega)
    obtain ⟨c0, c1⟩ := hc 0 (by simp)
    rw [Nat.zero_mul, Nat.add_zero] at c0 c1
    replace c0 : w1.cell? ⟨b, o, none⟩ = some (.int .u16 x.cls) := (hb1.cell (p := ⟨b, o, none⟩) hb).trans c0
    replace c1 : w1.cell? ⟨b, o + 1, none⟩ = some (.int .i64 x.sym) := (hb1.cell (p := ⟨b, o + 1, none⟩) hb).trans c1
    obtain ⟨xc, xs⟩ := x
    replace c0 : w1.cell? ⟨b, o, none⟩ = some (.int .u16 xc) := c0
    replace c1 : w1.cell? ⟨b, o + 1, none⟩ = some (.int .i64 xs) := c1
    have HN : Hid (0 < n) := Lib.hid (by omega)
    have hn0 : 0 < n := HN.out
    clear hc hl hi k1 h1
    by_cases hx : xc = 0
    · have dx : (xc == 0) = true := by simp [hx]
      have E : Hid (Gr.unitI ⟨s, [⟨xc, xs⟩]⟩ = xs) := Lib.hid (by unfold Gr.unitI; rw [Gr.unit_one s ⟨xc, xs⟩ hx])
      clear hx
      go_wp2_with fail
      go_ret
      exact ⟨by rw [E.out]; rfl, hb1⟩
    · have dx : (xc == 0) = false := by simp [hx]
      have E : Hid (Gr.unitI ⟨s, [⟨xc, xs⟩]⟩ = -1) := Lib.hid (by unfold Gr.unitI; rw [Gr.unit_cls s ⟨xc, xs⟩ hx])
      clear hx
      go_wp2_with fail
      go_ret
      exact ⟨by rw [E.out]; rfl, hb1⟩
  · have d1 : ((n : Int) == 1) = false := by simp; omega
    have E : Hid (Gr.unitI ⟨s, l⟩ = -1) := Lib.hid (by unfold Gr.unitI; rw [Gr.unit_long s l (by rw [HL.out]; exact h1)])
    clear h1 hl hi k1
    go_wp2_with fail
    go_ret
    exact ⟨by rw [E.out]; rfl, hb1⟩
theorem refSymbol_any (s : Int) (w : World) : Calls Try.prog 44 #[.int .i64 s] w fun e w' => e = .returned (.bool (Gr.symOk s)) ∧ w = w' := by
  by_cases h0 : 0 ≤ s
  · by_cases h1 : s ≤ 63
    · have E : Hid (Gr.symOk s = true) := Lib.hid (decide_eq_true ⟨h0, by omega⟩)
      go_enter Try.func44, Try.ntmps44
      go_wp2
      go_ret
      exact ⟨Kt.ret_bool E.out.symm, rfl⟩
    · have E : Hid (Gr.symOk s = false) := Lib.hid (decide_eq_false (by omega))
      go_enter Try.func44, Try.ntmps44
      go_wp2
      go_ret
      exact ⟨Kt.ret_bool E.out.symm, rfl⟩
  · have E : Hid (Gr.symOk s = false) := Lib.hid (decide_eq_false (by omega))
    go_enter Try.func44, Try.ntmps44
    go_wp2
    go_ret
    exact ⟨Kt.ret_bool E.out.symm, rfl⟩
end Go.Proofs.Ytkclifdbdnigaaa
end
section
/- The reference: whether a symbol derives itself: the walk. -/
namespace Go.Proofs.Ytkclifdbdnigaaa
open Go Go.RowKit
theorem off_blk {w : World} {b : Nat} {T : TypeId} {on : Nat → Bool} (h : Kt.Blk w b T (Kt.BArr on)) : Gr.offW w b = Gr.offc on := Gr.offW_eq fun t ht => (h.cell t).trans (Kt.BArr_get on ht)
theorem Try.infoBool : (Try.prog.info? 4).map (fun i => (i.zero, i.size, i.bytes)) = some (some (.bool false), 1, 1) := by kernel_rfl
theorem make_bools (w : World) : (Instr.makeSlice 112 (.int .i64 64) (.int .i64 64)).run Try.prog w = .ok (.slice (some ⟨w.heap.size, 0, none⟩) 64 64) (w.alloc (.cells (Kt.BArr fun _ => false) 4)) := by
  obtain ⟨i, hi, hz, hs, hb⟩ := info_parts Try.infoBool
  have hr := run_make (P := Try.prog) w 112 4 i _ Try.underlying112 hi hz .i64 .i64 64 64 (by omega) (by omega) (by omega) (by omega)
  rw [hs] at hr
  rw [hr]
  have e : madeCells (Value.bool false).cells 64 = Kt.BArr fun _ => false := by
    have h1 : (Value.bool false).cells = #[Value.bool false] := rfl
    rw [h1]
    apply Array.toList_inj.1
    rw [toList_madeCells_one]
    rfl
  show Result.ok (Value.slice (some ⟨w.heap.size, 0, none⟩) 64 64) (w.alloc (.cells (madeCells (Value.bool false).cells (64 * 1)) 4)) = _
  rw [Nat.mul_one, e]
def RefCycPost (g : List Gr.Rule) (w : World) (e : Ending) (w' : World) : Prop := Below w.heap.size w w' ∧ ∃ b : Bool, e = .returned (.bool b) ∧ (b = true → Gr.Cyc g) ∧ (b = false → ¬ Gr.Cyc g)
set_option maxRecDepth 100000 in
set_option maxHeartbeats 2000000 in
theorem refCyclic_any (g : List Gr.Rule) (A : Option Addr) (n cp : Nat) (w : World) (hl : g.length = n) (hn : n ≤ 200) (hg : Kt.Rules w w.heap.size A g) (hv : ∀ r, r < g.length → Gr.RuleOk (Gr.rul g r)) :
    Calls Try.prog 45 #[.slice A n cp] w (RefCycPost g w) := by
  have HL := Lib.hid hl
  have HG := Lib.hid hg
  have hmk := make_bools
  have HV := Lib.hid hv
  clear hl hg hv
  go_enter Try.func45, Try.ntmps45
  go_wp2_with fail
  go_loopw [3] (fun s wr => ∃ k : Nat, k ≤ 64 ∧ s = .int .i64 k ∧ Hid (∀ t : Nat, t < k → ¬ Gr.Path g (t : Int) (t : Int)) ∧ Below w.heap.size w wr) (fun s _ => 64 - (intOf s).toNat)
  case atStart => exact ⟨0, Nat.zero_le _, rfl, Lib.hid (fun t ht => by omega), Below.refl _ _⟩
  case round =>
    obtain ⟨k, hk, rfl, hnp, hbel⟩ := hrel
    by_cases hlt : k < 64
    · have hs := hbel.size
      have dk64 : decide ((k : Int) < 64) = true := by simp; omega
      go_wp2_with fail
      obtain ⟨rb, hrb⟩ : ∃ rb, wr.heap.size = rb := ⟨_, rfl⟩
      obtain ⟨wb, hwb⟩ : ∃ wb, wr.alloc (.cells (Kt.BArr fun _ => false) 4) = wb := ⟨_, rfl⟩
      have HB0 : Hid (Kt.Blk wb rb 4 (Kt.BArr fun _ => false)) := Lib.hid (by rw [← hwb, ← hrb]; exact Kt.Blk.new wr _ _)
      have hbb : Below w.heap.size w wb := by rw [← hwb]; exact hbel.alloc hs _
      have hrw : w.heap.size ≤ rb := by rw [← hrb]; exact hs
      rw [hwb, hrb]
      clear hwb hrb hbel hs
      go_loopw [5] (fun v wx => ∃ (b : Bool) (on : Nat → Bool), v = .bool b ∧ Hid (Kt.Blk wx rb 4 (Kt.BArr on)) ∧ Hid (Gr.Snd g k on) ∧ Hid (b = false → Gr.Cls g k on g.length) ∧ Below w.heap.size w wx) (fun v wx => Gr.moreM v (Gr.offW wx rb))
      case atStart => exact ⟨true, fun _ => false, rfl, HB0, Lib.hid (fun t _ h => by cases h), Lib.hid (fun h => by cases h), hbb⟩
      case round =>
        obtain ⟨b, on, rfl, hB, hS, hC, hbel⟩ := hrel
        rename World => wo
        have hso := hbel.size
        cases b with
        | false =>
          have ck := (hB.out.cell k).trans (Kt.BArr_get on hlt)
          obtain ⟨ok, hok⟩ : ∃ b, on k = b := ⟨_, rfl⟩
          rw [hok] at ck
          cases ok with
          | true =>
            have HC : Hid (Gr.Cyc g) := Lib.hid ⟨(k : Int), hS.out k hlt hok⟩
            clear hok hB hS hC
            go_wp2_with fail
            go_ret
            exact ⟨hbel, true, rfl, fun _ => HC.out, (fun h => by cases h)⟩
          | false =>
            have HNP : Hid (∀ t : Nat, t < k + 1 → ¬ Gr.Path g (t : Int) (t : Int)) := Lib.hid (fun t ht => by
              by_cases e : t = k
              · subst e; exact (hC.out rfl).self (fun a b e => edge_parts HV.out e) hok
              · exact hnp.out t (by omega))
            clear hok hB hS hC
            go_wp2_with fail
            go_roundw
            case rel => exact ⟨k + 1, by omega, by go_num, HNP, hbel⟩
            case measure => simp [intOf]; omega
        | true =>
          have HM : Hid (Gr.moreM (.bool true) (Gr.offW wo rb) = Gr.offc on + 1) := Lib.hid (by rw [off_blk hB.out]; rfl)
          go_wp2_with fail
          go_loopw [5, 6] (fun v s wy => ∃ (b : Bool) (on2 : Nat → Bool) (i : Nat), i ≤ n ∧ v = .bool b ∧ s = .int .i64 i ∧ Hid (Kt.Blk wy rb 4 (Kt.BArr on2)) ∧ Hid (Gr.Snd g k on2) ∧ Hid (b = false → on2 = on ∧ Gr.Cls g k on i) ∧ Hid (b = true → Gr.offc on2 < Gr.offc on) ∧ Below w.heap.size w wy) (fun _ s _ => n - (intOf s).toNat)
          case atStart => exact ⟨false, on, 0, Nat.zero_le _, rfl, rfl, hB, hS, Lib.hid (fun _ => ⟨rfl, fun r hr => by omega⟩), Lib.hid (fun h => by cases h), hbel⟩
          case round =>
            obtain ⟨b, on2, i, hi, rfl, rfl, hB2, hS2, hC2, hO2, hbl2⟩ := hrel
            have hs2 := hbl2.size
            by_cases hin : i < n
            · have hig : i < g.length := by rw [HL.out]; exact hin
              obtain ⟨bA, oA, rfl, hbA, hcA⟩ := (HG.out.on hbl2) (by rw [HL.out]; omega)
              obtain ⟨cl, A', c', cr, hlr, hit⟩ := hcA i hig
              obtain ⟨⟨hl0, hl64⟩, _, hl8, hsy⟩ := (HV.out i hig).parts
              obtain ⟨ru, hru⟩ : ∃ ru, Hid (Gr.rul g i = ru) := ⟨_, Lib.hid rfl⟩
              obtain ⟨lf, l⟩ := ru
              rw [hru.out] at cl cr hlr hit hl0 hl64 hsy
              obtain ⟨m, hm⟩ : ∃ m, Hid (l.length = m) := ⟨_, Lib.hid rfl⟩
              replace cl : wr.cell? ⟨bA, oA + i * 2, none⟩ = some (.int .i64 lf) := cl
              replace cr : wr.cell? ⟨bA, oA + i * 2 + 1, none⟩ = some (.slice A' l.length c') := cr
              replace hit : Kt.Items wr wr.heap.size A' l := hit
              replace hsy : ∀ x ∈ l, (0 ≤ x.sym ∧ x.sym < 64) ∧ (x.cls = 0 ∨ x.sym = 0) := hsy
              rw [hm.out] at cr
              obtain ⟨ln, rfl⟩ : ∃ ln : Nat, lf = (ln : Int) := ⟨lf.toNat, by
                have h1 : 0 ≤ lf := hl0
                omega⟩
              have hln : ln < 64 := by
                have h1 : (ln : Int) < 64 := hl64
                omega
              have HUN := Lib.hid (refUnit_any (ln : Int) A' m c' l wr hm.out hit)
              have HSY := Lib.hid hsy
              have HOFF : Hid (Gr.offc on2 ≤ Gr.offc on) := Lib.hid (by
                cases b with
                | false => rw [(hC2.out rfl).1]; exact Nat.le_refl _
                | true => exact Nat.le_of_lt (hO2.out rfl))
              clear hcA hlr hit hl0 hl64 hsy hl8
              go_wp2_with fail
              refine HUN.out.mono ?_
              rintro e w3 ⟨rfl, hb3⟩
              have hbl3 : Below w.heap.size w w3 := hbl2.trans (hb3.mono hs2)
              have HB3 := Lib.hid (hB2.out.on hb3)
              have cl3 : w3.cell? ⟨bA, oA + i * 2, none⟩ = some (.int .i64 (ln : Int)) := (hb3.cell (p := ⟨bA, oA + i * 2, none⟩) hbA).trans cl
              have cr3 : w3.cell? ⟨bA, oA + i * 2 + 1, none⟩ = some (.slice A' m c') := (hb3.cell (p := ⟨bA, oA + i * 2 + 1, none⟩) hbA).trans cr
              clear HUN hB2 cl cr
              rcases hu : Gr.unit ⟨(ln : Int), l⟩ with _ | t
              · have hui : Gr.unitI ⟨(ln : Int), l⟩ = -1 := by unfold Gr.unitI; rw [hu]
                rw [hui]
                have HC3 : Hid (b = false → on2 = on ∧ Gr.Cls g k on (i + 1)) := Lib.hid (fun h => by
                  obtain ⟨e, h2⟩ := hC2.out h
                  exact ⟨e, h2.succ fun t ht => by rw [hru.out, hu] at ht; cases ht⟩)
                clear hui hu hC2
                go_wp2_with fail
                go_roundw
                case rel => exact ⟨b, on2, i + 1, by omega, rfl, by go_num, HB3, hS2, HC3, hO2, hbl3⟩
                case measure => simp [intOf]; omega
              · obtain ⟨x, hx1, hx2, hx3⟩ := Gr.unit_some hu
                have hx4 := HSY.out x (by
                  have h1 : l = [x] := hx1
                  rw [h1]; simp)
                obtain ⟨tn, rfl⟩ : ∃ tn : Nat, t = (tn : Int) := ⟨t.toNat, by omega⟩
                have htn : tn < 64 := by omega
                have hui : Gr.unitI ⟨(ln : Int), l⟩ = (tn : Int) := by unfold Gr.unitI; rw [hu]
                rw [hui]
                have HU : Hid (Gr.unit (Gr.rul g i) = some (tn : Int)) := Lib.hid (by rw [hru.out]; exact hu)
                have HLF : Hid ((Gr.rul g i).left = (ln : Int)) := Lib.hid (by rw [hru.out])
                have ct := (HB3.out.cell tn).trans (Kt.BArr_get on2 htn)
                have cln := (HB3.out.cell ln).trans (Kt.BArr_get on2 hln)
                have ft := HB3.out.frozen tn
                clear hui hu hx1 hx2 hx3 hx4 HSY hru
                obtain ⟨ot, hot⟩ : ∃ b, Hid (on2 tn = b) := ⟨_, Lib.hid rfl⟩
                obtain ⟨ol, hol⟩ : ∃ b, Hid (on2 ln = b) := ⟨_, Lib.hid rfl⟩
                rw [hot.out] at ct
                rw [hol.out] at cln
                cases ot with
                | true =>
                  have HC3 : Hid (b = false → on2 = on ∧ Gr.Cls g k on (i + 1)) := Lib.hid (fun h => by
                    obtain ⟨e, h2⟩ := hC2.out h
                    refine ⟨e, h2.succ fun t ht _ => ?_⟩
                    rw [HU.out] at ht
                    injection ht with ht
                    obtain rfl : tn = t := by omega
                    rw [← e]; exact hot.out)
                  clear hC2
                  go_wp2_with fail
                  go_roundw
                  case rel => exact ⟨b, on2, i + 1, by omega, rfl, by go_num, HB3, hS2, HC3, hO2, hbl3⟩
                  case measure => simp [intOf]; omega
                | false =>
                  have HB4 : Hid (Kt.Blk (w3.setCell ⟨rb, tn, none⟩ (.bool true)) rb 4 (Kt.BArr (Gr.upd on2 tn true))) := Lib.hid (by
                    rw [← Kt.BArr_set on2 tn true htn]; exact HB3.out.set_ tn _)
                  have hbl4 : Below w.heap.size w (w3.setCell ⟨rb, tn, none⟩ (.bool true)) := hbl3.setCell (p := ⟨rb, tn, none⟩) hrw _
                  have HO4 : Hid (true = true → Gr.offc (Gr.upd on2 tn true) < Gr.offc on) := Lib.hid (fun _ => Nat.lt_of_lt_of_le (Gr.offc_upd hot.out htn) HOFF.out)
                  have HC4 : Hid (true = false → Gr.upd on2 tn true = on ∧ Gr.Cls g k on (i + 1)) := Lib.hid (fun h => by cases h)
                  by_cases hkl : ln = k
                  · have dk : ((ln : Int) == (k : Int)) = true := by simp [hkl]
                    have HS4 : Hid (Gr.Snd g k (Gr.upd on2 tn true)) := Lib.hid (hS2.out.upd hig HU.out HLF.out hln (.inl hkl))
                    clear hkl hC2 hO2 hS2 HB3
                    go_wp2_with fail
                    go_roundw
                    case rel => exact ⟨true, Gr.upd on2 tn true, i + 1, by omega, rfl, by go_num, HB4, HS4, HC4, Lib.hid (fun _ => HO4.out (by trivial)), hbl4⟩
                    case measure => simp [intOf]; omega
                  · have dk : ((ln : Int) == (k : Int)) = false := by simp; omega
                    cases ol with
                    | true =>
                      have HS4 : Hid (Gr.Snd g k (Gr.upd on2 tn true)) := Lib.hid (hS2.out.upd hig HU.out HLF.out hln (.inr hol.out))
                      clear hkl hC2 hO2 hS2 HB3
                      go_wp2_with fail
                      go_roundw
                      case rel => exact ⟨true, Gr.upd on2 tn true, i + 1, by omega, rfl, by go_num, HB4, HS4, HC4, Lib.hid (fun _ => HO4.out (by trivial)), hbl4⟩
                      case measure => simp [intOf]; omega
                    | false =>
                      have HC3 : Hid (b = false → on2 = on ∧ Gr.Cls g k on (i + 1)) := Lib.hid (fun h => by
                        obtain ⟨e, h2⟩ := hC2.out h
                        refine ⟨e, h2.succ fun t ht hc => ?_⟩
                        exfalso
                        rw [HLF.out] at hc
                        rcases hc with hc | ⟨l2, hc, hc2⟩
                        · exact hkl (by omega)
                        · obtain rfl : ln = l2 := by omega
                          rw [← e, hol.out] at hc2; cases hc2)
                      clear hkl hC2 HB4 hbl4 HO4 HC4
                      go_wp2_with fail
                      go_roundw
                      case rel => exact ⟨b, on2, i + 1, by omega, rfl, by go_num, HB3, hS2, HC3, hO2, hbl3⟩
                      case measure => simp [intOf]; omega
            · obtain rfl : i = n := by omega
              have HMM : Hid (Gr.moreM (.bool b) (Gr.offW wr rb) < Gr.offc on + 1) := Lib.hid (by
                rw [off_blk hB2.out]
                cases b with
                | false => exact Nat.succ_pos _
                | true => exact Nat.succ_lt_succ (hO2.out rfl))
              have HCC : Hid (b = false → Gr.Cls g k on2 g.length) := Lib.hid (fun h => by
                obtain ⟨e, h2⟩ := hC2.out h
                rw [e, HL.out]; exact h2)
              clear hO2 hC2
              go_wp2_with fail
              go_roundw
              case rel => exact ⟨b, on2, rfl, hB2, hS2, HCC, hbl2⟩
              case measure => rw [HM.out]; exact HMM.out
    · obtain rfl : k = 64 := by omega
      have HF : Hid (¬ Gr.Cyc g) := Lib.hid (by
        rintro ⟨s, hp⟩
        have hs : 0 ≤ s ∧ s < 64 := by
          cases hp with
          | one e => exact (edge_parts HV.out e).1
          | cons e _ => exact (edge_parts HV.out e).1
        obtain ⟨t, rfl⟩ : ∃ t : Nat, s = (t : Int) := ⟨s.toNat, by omega⟩
        exact hnp.out t (by omega) hp)
      clear hnp
      go_wp2
      go_ret
      exact ⟨hbel, false, rfl, (fun h => by cases h), fun _ => HF.out⟩
end Go.Proofs.Ytkclifdbdnigaaa
end
section
/- The reference: what is wrong with a grammar: the walk. -/
namespace Gr
/-- What the reference says of a grammar. -/
def RCode (g : List Rule) (c : Int) : Prop :=
  (200 < g.length ∧ c = 5) ∨ (g.length ≤ 200 ∧ firstE g ≠ 0 ∧ c = firstE g) ∨ (g.length ≤ 200 ∧ firstE g = 0 ∧ Cyc g ∧ c = 92) ∨ (g.length ≤ 200 ∧ firstE g = 0 ∧ ¬ Cyc g ∧ c = 0)
theorem VCode.ref {g : List Rule} {c : Int} (h : VCode g c) : RCode g c := by
  rcases h with h | h | h | ⟨h1, h2, h3, h4⟩
  · exact .inl h
  · exact .inr (.inl h)
  · exact .inr (.inr (.inl h))
  · exact .inr (.inr (.inr ⟨h1.len, h3, h2, h4⟩))
theorem RCode.uniq {g : List Rule} {c d : Int} (h : RCode g c) (k : RCode g d) : c = d := by
  rcases h with ⟨h1, rfl⟩ | ⟨h1, h2, rfl⟩ | ⟨h1, h2, h3, rfl⟩ | ⟨h1, h2, h3, rfl⟩ <;> rcases k with ⟨k1, rfl⟩ | ⟨k1, k2, rfl⟩ | ⟨k1, k2, k3, rfl⟩ | ⟨k1, k2, k3, rfl⟩
  all_goals first | rfl | omega | (exact absurd h2 k2) | (exact absurd k2 h2) | (exact absurd h3 k3) | (exact absurd k3 h3)
theorem ruleE_left {s : Int} {l : List Item} (h : symOk s = false) : ruleE ⟨s, l⟩ = 90 := by unfold ruleE; rw [if_pos h]
theorem ruleE_len {s : Int} {l : List Item} (h : symOk s = true) (h2 : l.length = 0 ∨ 8 < l.length) : ruleE ⟨s, l⟩ = 91 := by unfold ruleE; rw [if_neg (by simp [h]), if_pos h2]
theorem ruleE_items {s : Int} {l : List Item} (h : symOk s = true) (h2 : ¬ (l.length = 0 ∨ 8 < l.length)) : ruleE ⟨s, l⟩ = if l.all itemOk then 0 else 90 := by
  unfold ruleE
  rw [if_neg (by simp [h]), if_neg h2]
  show (if l.all itemOk = false then (90 : Int) else 0) = _
  cases l.all itemOk <;> rfl
end Gr
namespace Go.Proofs.Ytkclifdbdnigaaa
open Go Go.RowKit
def RefValidPost (g : List Gr.Rule) (w : World) (e : Ending) (w' : World) : Prop := Below w.heap.size w w' ∧ ∃ c : Int, e = .returned (.int .i64 c) ∧ Gr.RCode g c
set_option maxRecDepth 100000 in
set_option maxHeartbeats 2000000 in
theorem refValid_any (g : List Gr.Rule) (A : Option Addr) (n cp : Nat) (w : World) (hl : g.length = n) (hn : n ≤ 4611686018427387904) (hW : WfR g) (hg : Kt.Rules w w.heap.size A g) :
    Calls Try.prog 13 #[.slice A n cp] w (RefValidPost g w) := by
  have HL := Lib.hid hl
  have HW := Lib.hid hW
  have HG := Lib.hid hg
  clear hl hW hg
  by_cases hlong : 200 < n
  · have d0 : decide ((n : Int) > 200) = true := by simp; omega
    have HV : Hid (Gr.RCode g 5) := Lib.hid (.inl ⟨by have := HL.out; omega, rfl⟩)
    go_enter Try.func13, Try.ntmps13
    go_wp2_with fail
    go_ret
    exact ⟨Below.refl _ _, 5, rfl, HV.out⟩
  · have d0 : decide ((n : Int) > 200) = false := by simp; omega
    go_enter Try.func13, Try.ntmps13
    go_wp2_with fail
    go_loopw [3] (fun s wr => ∃ k : Nat, k ≤ n ∧ s = .int .i64 k ∧ Hid (∀ r, r < k → Gr.ruleE (Gr.rul g r) = 0) ∧ Below w.heap.size w wr) (fun s _ => n - (intOf s).toNat)
    case atStart => exact ⟨0, Nat.zero_le _, rfl, Lib.hid (fun r hr => by omega), Below.refl _ _⟩
    case round =>
      obtain ⟨k, hk, rfl, hz, hbel⟩ := hrel
      rename World => wo
      have hso := hbel.size
      by_cases hlt : k < n
      · have dkn : decide ((k : Int) < n) = true := by simp; omega
        have hkg : k < g.length := by rw [HL.out]; exact hlt
        obtain ⟨bA, oA, rfl, hbA, hcA⟩ := (HG.out.on hbel) (by rw [HL.out]; omega)
        obtain ⟨cl, A', c', cr, hlr, hit⟩ := hcA k hkg
        obtain ⟨ru, hru⟩ : ∃ ru, Hid (Gr.rul g k = ru) := ⟨_, Lib.hid rfl⟩
        have hwf := HW.out k hkg
        obtain ⟨lf, l⟩ := ru
        rw [hru.out] at cl cr hlr hit hwf
        obtain ⟨m, hm⟩ : ∃ m, Hid (l.length = m) := ⟨_, Lib.hid rfl⟩
        replace cl : wo.cell? ⟨bA, oA + k * 2, none⟩ = some (.int .i64 lf) := cl
        replace cr : wo.cell? ⟨bA, oA + k * 2 + 1, none⟩ = some (.slice A' l.length c') := cr
        replace hit : Kt.Items wo wo.heap.size A' l := hit
        replace hlr : l.length ≤ 4611686018427387904 := hlr
        replace hwf : ∀ x ∈ l, 0 ≤ x.cls ∧ x.cls ≤ 65535 := hwf
        rw [hm.out] at cr hlr
        have HWF := Lib.hid hwf
        have HERR : Hid (Gr.ruleE ⟨lf, l⟩ ≠ 0 → Gr.RCode g (Gr.ruleE ⟨lf, l⟩)) := Lib.hid (fun h => .inr (.inl (by
          have h1 := Gr.firstE_at g k hkg hz.out (by rw [hru.out]; exact h)
          rw [hru.out] at h1
          exact ⟨by have := HL.out; omega, by rw [h1]; exact h, h1.symm⟩)))
        clear hcA hwf
        go_wp2_with fail
        refine (refSymbol_any lf wo).mono ?_
        rintro e w2 ⟨rfl, rfl⟩
        obtain ⟨so, hso2⟩ : ∃ b, Hid (Gr.symOk lf = b) := ⟨_, Lib.hid rfl⟩
        rw [hso2.out]
        cases so with
        | false =>
          have HE : Hid (Gr.RCode g 90) := Lib.hid (by
            have h := Gr.ruleE_left (l := l) hso2.out
            have := HERR.out (by rw [h]; decide)
            rwa [h] at this)
          clear hit hz
          go_wp2_with fail
          go_ret
          exact ⟨hbel, 90, rfl, HE.out⟩
        | true =>
          by_cases hm0 : m = 0
          · have dm : decide ((m : Int) < 1) = true := by simp [hm0]
            have HE : Hid (Gr.RCode g 91) := Lib.hid (by
              have h := Gr.ruleE_len (l := l) hso2.out (.inl (by rw [hm.out]; exact hm0))
              have := HERR.out (by rw [h]; decide)
              rwa [h] at this)
            clear hit hz hm0
            go_wp2_with fail
            go_ret
            exact ⟨hbel, 91, rfl, HE.out⟩
          · have dm : decide ((m : Int) < 1) = false := by simp; omega
            by_cases hm8 : 8 < m
            · have dm8 : decide ((m : Int) > 8) = true := by simp; omega
              have HE : Hid (Gr.RCode g 91) := Lib.hid (by
                have h := Gr.ruleE_len (l := l) hso2.out (.inr (by rw [hm.out]; exact hm8))
                have := HERR.out (by rw [h]; decide)
                rwa [h] at this)
              clear hit hz
              go_wp2_with fail
              go_ret
              exact ⟨hbel, 91, rfl, HE.out⟩
            · have dm8 : decide ((m : Int) > 8) = false := by simp; omega
              have HEI : Hid (Gr.ruleE ⟨lf, l⟩ = if l.all Gr.itemOk then 0 else 90) := Lib.hid (Gr.ruleE_items hso2.out (by rw [hm.out]; omega))
              have HE90 : Hid (l.all Gr.itemOk = false → Gr.RCode g 90) := Lib.hid (fun h => by
                have h2 := HEI.out
                rw [h] at h2
                have h3 : Gr.ruleE ⟨lf, l⟩ = 90 := h2
                have := HERR.out (by rw [h3]; decide)
                rwa [h3] at this)
              obtain ⟨bI, oI, rfl, hbI, hcI⟩ := hit (by rw [hm.out]; omega)
              have HCI := Lib.hid hcI
              clear hcI
              go_wp2_with fail
              go_loopw [4] (fun s wr => ∃ q : Nat, q ≤ m ∧ s = .int .i64 q ∧ Hid ((l.take q).all Gr.itemOk = true) ∧ Below wo.heap.size wo wr) (fun s _ => m - (intOf s).toNat)
              case atStart => exact ⟨0, Nat.zero_le _, rfl, Lib.hid rfl, Below.refl _ _⟩
              case round =>
                obtain ⟨q, hq, rfl, hall, hbl⟩ := hrel
                have hsl := hbl.size
                have hbw : Below w.heap.size w wr := hbel.trans (hbl.mono hso)
                have cl2 : wr.cell? ⟨bA, oA + k * 2, none⟩ = some (.int .i64 lf) := (hbl.cell (p := ⟨bA, oA + k * 2, none⟩) hbA).trans cl
                have cr2 : wr.cell? ⟨bA, oA + k * 2 + 1, none⟩ = some (.slice (some ⟨bI, oI, none⟩) m c') := (hbl.cell (p := ⟨bA, oA + k * 2 + 1, none⟩) hbA).trans cr
                by_cases hqm : q < m
                · have hql : q < l.length := by rw [hm.out]; exact hqm
                  obtain ⟨i0, i1⟩ := HCI.out q hql
                  have hx := HWF.out (Gr.itm l q) (by unfold Gr.itm; rw [List.getD_eq_getElem?_getD, List.getElem?_eq_getElem hql]; exact List.getElem_mem _)
                  have HTS := Lib.hid (Gr.take_succ l q hql)
                  obtain ⟨it, hitm⟩ : ∃ it, Hid (Gr.itm l q = it) := ⟨_, Lib.hid rfl⟩
                  obtain ⟨xc, xs⟩ := it
                  rw [hitm.out] at i0 i1 hx HTS
                  have j0 : wr.cell? ⟨bI, oI + q * 2, none⟩ = some (.int .u16 xc) := (hbl.cell (p := ⟨bI, oI + q * 2, none⟩) hbI).trans i0
                  have j1 : wr.cell? ⟨bI, oI + q * 2 + 1, none⟩ = some (.int .i64 xs) := (hbl.cell (p := ⟨bI, oI + q * 2 + 1, none⟩) hbI).trans i1
                  have hx0 : 0 ≤ xc := hx.1
                  have HSUC : Hid ((l.take (q + 1)).all Gr.itemOk = Gr.itemOk ⟨xc, xs⟩) := Lib.hid (by rw [HTS.out, List.all_append, hall.out]; simp)
                  have HBAD : Hid (Gr.itemOk ⟨xc, xs⟩ = false → Gr.RCode g 90) := Lib.hid (fun h => HE90.out (Gr.all_false l (q + 1) (by rw [HSUC.out]; exact h)))
                  obtain ⟨w3, hw3⟩ : ∃ w3, wr.alloc (.cells #[.int .u16 xc, .int .i64 xs] 86) = w3 := ⟨_, rfl⟩
                  have k3 : Kt.Blk w3 wr.heap.size 86 #[.int .u16 xc, .int .i64 xs] := by rw [← hw3]; exact Kt.Blk.new wr _ _
                  have hb3 : Below wo.heap.size wo w3 := by rw [← hw3]; exact hbl.alloc hsl _
                  have hbw3 : Below w.heap.size w w3 := hbel.trans (hb3.mono hso)
                  have y0 : w3.cell? ⟨wr.heap.size, 0, none⟩ = some (.int .u16 xc) := k3.cell 0
                  have y1 : w3.cell? ⟨wr.heap.size, 1, none⟩ = some (.int .i64 xs) := k3.cell 1
                  clear i0 i1 hx k3 HTS
                  go_wp2_with fail
                  refine (refSymbol_any xs w3).mono ?_
                  rintro e w4 ⟨rfl, rfl⟩
                  obtain ⟨sx, hsx⟩ : ∃ b, Hid (Gr.symOk xs = b) := ⟨_, Lib.hid rfl⟩
                  rw [hsx.out]
                  cases sx with
                  | false =>
                    have HE := Lib.hid (HBAD.out (by unfold Gr.itemOk; rw [hsx.out]; rfl))
                    go_wp2_with fail
                    go_ret
                    exact ⟨hbw3, 90, rfl, HE.out⟩
                  | true =>
                    have hxs : 0 ≤ xs := (of_decide_eq_true hsx.out).1
                    by_cases hc0 : xc = 0
                    · have dc : decide (xc > 0) = false := by simp [hc0]
                      have HN : Hid ((l.take (q + 1)).all Gr.itemOk = true) := Lib.hid (by rw [HSUC.out]; unfold Gr.itemOk; rw [hsx.out]; simp [hc0])
                      clear hc0
                      go_wp2_with fail
                      go_roundw
                      case rel => exact ⟨q + 1, by omega, by go_num, HN, hb3⟩
                      case measure => simp [intOf]; omega
                    · have dc : decide (xc > 0) = true := by simp; omega
                      by_cases hs0 : xs = 0
                      · have ds : decide (xs > 0) = false := by simp [hs0]
                        have HN : Hid ((l.take (q + 1)).all Gr.itemOk = true) := Lib.hid (by rw [HSUC.out]; unfold Gr.itemOk; rw [hsx.out]; simp [hs0])
                        clear hc0 hs0
                        go_wp2_with fail
                        go_roundw
                        case rel => exact ⟨q + 1, by omega, by go_num, HN, hb3⟩
                        case measure => simp [intOf]; omega
                      · have ds : decide (xs > 0) = true := by simp; omega
                        have HE := Lib.hid (HBAD.out (by unfold Gr.itemOk; rw [hsx.out]; simp [hc0, hs0]))
                        clear hc0 hs0
                        go_wp2_with fail
                        go_ret
                        exact ⟨hbw3, 90, rfl, HE.out⟩
                · obtain rfl : q = m := by omega
                  have HN : Hid (∀ r, r < k + 1 → Gr.ruleE (Gr.rul g r) = 0) := Lib.hid (fun r hr => by
                    by_cases e : r = k
                    · subst e
                      rw [hru.out, HEI.out]
                      have := hall.out
                      rw [List.take_of_length_le (by rw [hm.out]; exact Nat.le_refl _)] at this
                      rw [this]; rfl
                    · exact hz.out r (by omega))
                  clear hall
                  go_wp2_with fail
                  go_roundw
                  case rel => exact ⟨k + 1, by omega, by go_num, HN, hbw⟩
                  case measure => simp [intOf]; omega
      · obtain rfl : k = n := by omega
        have HO : Hid (∀ r, r < g.length → Gr.RuleOk (Gr.rul g r)) := Lib.hid (fun r hr => hz.out r (by rw [← HL.out]; exact hr))
        have HF : Hid (Gr.firstE g = 0) := Lib.hid (Gr.firstE_zero g HO.out)
        clear hz
        go_wp2_with fail
        refine (refCyclic_any g A k cp wo HL.out (by omega) (HG.out.on hbel) HO.out).mono ?_
        rintro e w2 ⟨hb2, b, rfl, hT, hFa⟩
        have hbw2 : Below w.heap.size w w2 := hbel.trans (hb2.mono hso)
        cases b with
        | true =>
          have HV : Hid (Gr.RCode g 92) := Lib.hid (.inr (.inr (.inl ⟨by have := HL.out; omega, HF.out, hT rfl, rfl⟩)))
          clear hT hFa
          go_wp2_with fail
          go_ret
          exact ⟨hbw2, 92, rfl, HV.out⟩
        | false =>
          have HV : Hid (Gr.RCode g 0) := Lib.hid (.inr (.inr (.inr ⟨by have := HL.out; omega, HF.out, hFa rfl, rfl⟩)))
          clear hT hFa
          go_wp2_with fail
          go_ret
          exact ⟨hbw2, 0, rfl, HV.out⟩
end Go.Proofs.Ytkclifdbdnigaaa
end
