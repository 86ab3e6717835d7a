/- A region that draws its order and ends in an append: by an invariant, each operation walked once. -/
import Derived.Test.YtjfgfchnpghpfaaDoorRgn
import Derived.Deep.AppendLies
import Derived.OneCell
namespace Kt
open Go Go.RowKit
/-- A region: N operations, the last of them uses the appended slice; bd builds the block of what is appended, ap appends. -/
structure RgP where
  N : Nat
  bd : Nat
  ap : Nat
  slot : Nat → Nat
  S : List Nat
  pv : Nat → Option Value
  a0 : Act
  W : World
  base : Nat
  e : TypeId
  sz : Nat
  V : Value
  n : Nat
  xs : List Value
  news : List Value
  Fin : Act → World → Prop
  bv : Nat → Value
  dp : Nat → List Nat
structure RgOk (p : RgP) : Prop where
  inj : ∀ i j, i < p.N - 1 → j < p.N - 1 → p.slot i = p.slot j → i = j
  mem : ∀ j, j < p.N - 1 → p.slot j ∈ p.S
  lt : ∀ j, j < p.N - 1 → p.slot j < p.a0.tmps.size
  hN : 2 ≤ p.N
  hb : p.bd < p.N - 1
  ha : p.ap < p.N - 1 ∨ p.ap = p.N - 1
  hne : p.bd ≠ p.ap
  nb : p.pv p.bd = none
  na : p.pv p.ap = none
  nl : p.pv (p.N - 1) = none
structure RgI (p : RgP) (listed : Array Bool) (act : Act) (w : World) : Prop where
  size : listed.size = p.N
  frame : Fr p.S p.a0 act
  pure : ∀ j v, j < p.N → p.pv j = some v → listed.getD j false = true → val act (p.slot j) = v
  cl : ∀ j i, listed.getD j false = true → i ∈ p.dp j → listed.getD i false = true
  last : listed.getD (p.N - 1) false = true → p.Fin act w ∧ ∀ j, j < p.N → listed.getD j false = true
  kp : listed.getD (p.N - 1) false = false → p.W.grownBy w p.V.ownBlock
  own : listed.getD p.ap false = false → w.ownsRow p.base p.e p.sz p.V p.n p.xs
  bld : listed.getD p.bd false = true → listed.getD p.ap false = false → ∃ g, p.W.heap.size ≤ g ∧ val act (p.slot p.bd) = p.bv g ∧ Blk w g p.e p.news.toArray
  app : listed.getD p.ap false = true → listed.getD (p.N - 1) false = false → ∃ g cap, val act (p.slot p.ap) = .slice (some ⟨g, 0, none⟩) (p.n + 1) cap ∧ w.ownsRow p.base p.e p.sz (.slice (some ⟨g, 0, none⟩) (p.n + 1) cap) (p.n + 1) (p.xs ++ p.news) ∧
    (p.V.ownBlock = some g ∨ p.W.heap.size ≤ g) ∧ g < w.heap.size
variable {p : RgP} {listed : Array Bool} {act : Act} {w w' : World}
theorem val_get (a : Act) (s : Nat) : val a s = a.tmps[s]?.getD undef := by simp [val]
theorem grown_drew (W : World) (row : Option Nat) : W.grownBy W.drew row := ⟨rfl, rfl, rfl, Nat.le_refl _, fun _ _ _ => rfl⟩
theorem grown_alloc {W : World} {row : Option Nat} (h : W.grownBy w row) (o : Obj) : W.grownBy (w.alloc o) row :=
  ⟨h.os, h.tape, h.output, Nat.le_trans h.size (by simp), fun k hk hne => (Below.heap_alloc _ _ _ (Nat.lt_of_lt_of_le hk h.size)).trans (h.block k hk hne)⟩
theorem grown_trans {W : World} {row : Option Nat} (h : W.grownBy w row) (k : w.grownBy w' row) : W.grownBy w' row :=
  ⟨k.os.trans h.os, k.tape.trans h.tape, k.output.trans h.output, Nat.le_trans h.size k.size, fun i hi hne => (k.block i (Nat.lt_of_lt_of_le hi h.size) hne).trans (h.block i hi hne)⟩
theorem op_opq {P : Program} {o : Oper} {act : Act} {w w' : World} {Q : Exit → Act → World → Prop} {s : Nat} {v : Value} {G : Act → World → Prop} (hk : G (act.put (some s) v) w')
    (H : ∀ KK : Act → World → Prop, KK (act.put (some s) v) w' → Oper.wp P o act w KK Q) : Oper.wp P o act w G Q := H G hk
theorem op_opq0 {P : Program} {o : Oper} {act : Act} {w w' : World} {Q : Exit → Act → World → Prop} {G : Act → World → Prop} (hk : G act w')
    (H : ∀ KK : Act → World → Prop, KK act w' → Oper.wp P o act w KK Q) : Oper.wp P o act w G Q := H G hk
theorem RgI.start (hown : p.W.ownsRow p.base p.e p.sz p.V p.n p.xs) : RgI p (Array.replicate p.N false) p.a0 p.W.drew := by
  have hf : ∀ j, (Array.replicate p.N false).getD j false = false := fun j => by
    by_cases hj : j < p.N <;> simp [hj]
  refine ⟨by simp, Fr.refl _ _, fun j v _ _ hl => ?_, fun j i hl _ => ?_, fun hl => ?_, fun _ => grown_drew _ _, fun _ => hown, fun hl => ?_, fun hl => ?_⟩
  all_goals (rw [hf] at hl; cases hl)
theorem getD_setL {l : Array Bool} {i j : Nat} (h : i ≠ j) : (l.setIfInBounds i true).getD j false = l.getD j false := by
  simp [Array.getElem?_setIfInBounds_ne h]
theorem getD_same {l : Array Bool} {i : Nat} (h : i < l.size) : (l.setIfInBounds i true).getD i false = true := by
  simp [h]
theorem getD_no {l : Array Bool} {i : Nat} (h : l.getD i true = false) : l.getD i false = false := by
  by_cases hi : i < l.size
  · simpa [hi] using h
  · simp [hi]
theorem RgI.open_ (h : RgI p listed act w) {j : Nat} (hj : j < p.N) (hn : listed.getD j true = false) : listed.getD (p.N - 1) false = false := by
  cases hl : listed.getD (p.N - 1) false with
  | false => rfl
  | true =>
    have := (h.last hl).2 j hj
    rw [getD_no hn] at this
    cases this
theorem cl_set {listed : Array Bool} {dp : Nat → List Nat} (h : ∀ j i, listed.getD j false = true → i ∈ dp j → listed.getD i false = true) {n : Nat} (hd : ∀ i ∈ dp n, listed.getD i false = true) :
    ∀ j i, (listed.setIfInBounds n true).getD j false = true → i ∈ dp j → (listed.setIfInBounds n true).getD i false = true := by
  intro j i hj hi
  have h1 : listed.getD i false = true := by
    by_cases e : n = j
    · subst e; exact hd i hi
    · rw [getD_setL e] at hj; exact h j i hj hi
  by_cases e : n = i
  · subst e
    by_cases hs : n < listed.size
    · exact getD_same hs
    · exact absurd h1 (by simp [hs])
  · rw [getD_setL e]; exact h1
theorem RgI.pure_step (ok : RgOk p) (h : RgI p listed act w) {j s : Nat} {v : Value} (hd : ∀ i ∈ p.dp j, listed.getD i false = true) (hj : j < p.N - 1) (hn : listed.getD j true = false) (hv : p.pv j = some v) (hs : s = p.slot j) :
    RgI p (listed.setIfInBounds j true) (act.put (some s) v) w := by
  subst hs
  have hop := h.open_ (j := j) (by omega) hn
  have hne : ∀ i, i < p.N - 1 → i ≠ j → val (act.put (some (p.slot j)) v) (p.slot i) = val act (p.slot i) := fun i hi hij => val_put_ne (fun e => hij (ok.inj _ _ hj hi e).symm) v
  have hjb : j ≠ p.bd := fun e => by rw [e, ok.nb] at hv; cases hv
  have hja : j ≠ p.ap := fun e => by rw [e, ok.na] at hv; cases hv
  have hjl : j ≠ p.N - 1 := by omega
  refine ⟨by simp [h.size], h.frame.put (ok.mem j hj) v, fun i u hi hu hl => ?_, cl_set h.cl hd, fun hl => ?_, fun hl => ?_, fun hl => ?_, fun hl hl2 => ?_, fun hl hl2 => ?_⟩
  · by_cases hij : i = j
    · subst hij
      rw [hv] at hu
      injection hu with hu
      rw [val_put (by rw [h.frame.2.1]; exact ok.lt _ hj), hu]
    · rw [getD_setL (fun e => hij e.symm)] at hl
      have hi2 : i < p.N - 1 := by
        rcases Nat.lt_or_ge i (p.N - 1) with h1 | h1
        · exact h1
        · have : i = p.N - 1 := by omega
          rw [this, ok.nl] at hu; cases hu
      rw [hne i hi2 hij]
      exact h.pure i u hi hu hl
  · rw [getD_setL hjl, hop] at hl; cases hl
  · exact h.kp hop
  · rw [getD_setL hja] at hl; exact h.own hl
  · rw [getD_setL hjb] at hl
    rw [getD_setL hja] at hl2
    rw [hne _ ok.hb hjb.symm]
    exact h.bld hl hl2
  · rw [getD_setL hja] at hl
    rcases ok.ha with ha | ha
    · rw [hne _ ha hja.symm]
      exact h.app hl hop
    · rw [ha, hop] at hl; cases hl
theorem RgI.bld_step (ok : RgOk p) (h : RgI p listed act w) {s : Nat} (hd : ∀ i ∈ p.dp p.bd, listed.getD i false = true) (hn : listed.getD p.bd true = false) (hs : s = p.slot p.bd) {cs : Array Value} (hcs : cs = p.news.toArray) :
    RgI p (listed.setIfInBounds p.bd true) (act.put (some s) (p.bv w.heap.size)) (w.alloc (.cells cs p.e)) := by
  subst hs hcs
  have hb := ok.hb
  have hop := h.open_ (j := p.bd) (by omega) hn
  have hne : ∀ i, i < p.N - 1 → i ≠ p.bd → val (act.put (some (p.slot p.bd)) (p.bv w.heap.size)) (p.slot i) = val act (p.slot i) := fun i hi hij => val_put_ne (fun e => hij (ok.inj _ _ hb hi e).symm) _
  have hjl : p.bd ≠ p.N - 1 := by omega
  refine ⟨by simp [h.size], h.frame.put (ok.mem _ hb) _, fun i u hi hu hl => ?_, cl_set h.cl hd, fun hl => ?_, fun hl => ?_, fun hl => ?_, fun hl hl2 => ?_, fun hl hl2 => ?_⟩
  · by_cases hij : i = p.bd
    · rw [hij, ok.nb] at hu; cases hu
    · rw [getD_setL (fun e => hij e.symm)] at hl
      have hi2 : i < p.N - 1 := by
        rcases Nat.lt_or_ge i (p.N - 1) with h1 | h1
        · exact h1
        · have : i = p.N - 1 := by omega
          rw [this, ok.nl] at hu; cases hu
      rw [hne i hi2 hij]
      exact h.pure i u hi hu hl
  · rw [getD_setL hjl, hop] at hl; cases hl
  · exact grown_alloc (h.kp hop) _
  · rw [getD_setL ok.hne] at hl; exact World.ownsRow.alloc (h.own hl) _
  · exact ⟨w.heap.size, (h.kp hop).size, val_put (by rw [h.frame.2.1]; exact ok.lt _ hb) _, Blk.new _ _ _⟩
  · rw [getD_setL ok.hne] at hl
    rcases ok.ha with ha | ha
    · rw [hne _ ha ok.hne.symm]
      obtain ⟨g, cap, h1, h2, h3, h4⟩ := h.app hl hop
      exact ⟨g, cap, h1, World.ownsRow.alloc h2 _, h3, by simp; omega⟩
    · rw [ha, hop] at hl; cases hl
theorem RgI.app_step (ok : RgOk p) (h : RgI p listed act w) (ha : p.ap < p.N - 1) {s g cap : Nat} (hd : ∀ i ∈ p.dp p.ap, listed.getD i false = true) (hn : listed.getD p.ap true = false) (hs : s = p.slot p.ap)
    (h1 : w'.ownsRow p.base p.e p.sz (.slice (some ⟨g, 0, none⟩) (p.n + 1) cap) (p.n + 1) (p.xs ++ p.news)) (h2 : w.grownBy w' p.V.ownBlock) (h3 : p.V.ownBlock = some g ∨ g = w.heap.size) (h4 : g < w'.heap.size) :
    RgI p (listed.setIfInBounds p.ap true) (act.put (some s) (.slice (some ⟨g, 0, none⟩) (p.n + 1) cap)) w' := by
  subst hs
  have hop := h.open_ (j := p.ap) (by omega) hn
  have hne : ∀ i, i < p.N - 1 → i ≠ p.ap → val (act.put (some (p.slot p.ap)) (.slice (some ⟨g, 0, none⟩) (p.n + 1) cap)) (p.slot i) = val act (p.slot i) := fun i hi hij => val_put_ne (fun e => hij (ok.inj _ _ ha hi e).symm) _
  have hjl : p.ap ≠ p.N - 1 := by omega
  have hsa : (listed.setIfInBounds p.ap true).getD p.ap false = true := getD_same (by rw [h.size]; omega)
  refine ⟨by simp [h.size], h.frame.put (ok.mem _ ha) _, fun i u hi hu hl => ?_, cl_set h.cl hd, fun hl => ?_, fun hl => ?_, fun hl => ?_, fun hl hl2 => ?_, fun hl hl2 => ?_⟩
  · by_cases hij : i = p.ap
    · rw [hij, ok.na] at hu; cases hu
    · rw [getD_setL (fun e => hij e.symm)] at hl
      have hi2 : i < p.N - 1 := by
        rcases Nat.lt_or_ge i (p.N - 1) with h1 | h1
        · exact h1
        · have : i = p.N - 1 := by omega
          rw [this, ok.nl] at hu; cases hu
      rw [hne i hi2 hij]
      exact h.pure i u hi hu hl
  · rw [getD_setL hjl, hop] at hl; cases hl
  · exact grown_trans (h.kp hop) h2
  · rw [hsa] at hl; cases hl
  · rw [hsa] at hl2; cases hl2
  · refine ⟨g, cap, val_put (by rw [h.frame.2.1]; exact ok.lt _ ha) _, h1, ?_, h4⟩
    rcases h3 with h3 | h3
    · exact .inl h3
    · have := (h.kp hop).size
      exact .inr (by omega)
/-- The last operation: all others have come up. -/
theorem RgI.last_step (ok : RgOk p) (h : RgI p listed act w) {j : Nat} {act' : Act} (hd : ∀ i ∈ p.dp j, listed.getD i false = true) (hj : j = p.N - 1) (hall : ∀ i, i < p.N - 1 → listed.getD i false = true) (hfr : Fr p.S p.a0 act')
    (hv : ∀ i, i < p.N - 1 → val act' (p.slot i) = val act (p.slot i)) (hF : p.Fin act' w') :
    RgI p (listed.setIfInBounds j true) act' w' := by
  subst hj
  have hN := ok.hN
  have hsl : (listed.setIfInBounds (p.N - 1) true).getD (p.N - 1) false = true := getD_same (by rw [h.size]; omega)
  have hal : ∀ i, i < p.N → (listed.setIfInBounds (p.N - 1) true).getD i false = true := fun i hi => by
    by_cases e : i = p.N - 1
    · rw [e]; exact hsl
    · rw [getD_setL (fun e2 => e e2.symm)]; exact hall i (by omega)
  refine ⟨by simp [h.size], hfr, fun i u hi hu hl => ?_, cl_set h.cl hd, fun _ => ⟨hF, hal⟩, fun hl => ?_, fun hl => ?_, fun _ hl => ?_, fun _ hl => ?_⟩
  · by_cases e : i = p.N - 1
    · rw [e, ok.nl] at hu; cases hu
    · rw [hv i (by omega)]; exact h.pure i u hi hu (hall i (by omega))
  · rw [hsl] at hl; cases hl
  · rw [hal p.ap (by have := ok.ha; omega)] at hl; cases hl
  · rw [hal p.ap (by have := ok.ha; omega)] at hl; cases hl
  · rw [hsl] at hl; cases hl
/-- A cell of an old block, other than the row's. -/
theorem RgI.cell (h : RgI p listed act w) (hop : listed.getD (p.N - 1) false = false) {b o : Nat} {v : Value} (hb : b < p.W.heap.size) (hne : p.V.ownBlock ≠ some b) (hc : p.W.cell? ⟨b, o, none⟩ = some v) : w.cell? ⟨b, o, none⟩ = some v :=
  ((h.kp hop).cell_far ⟨b, o, none⟩ hb (fun e => hne e.symm)).trans hc
end Kt
