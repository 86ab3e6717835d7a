/- Slices of limbs in memory, read by their value, over any program. -/
import Derived.Test.YtfjdhclpcbgdbaaKit2
import Derived.Test.YtfjdhclpcbgdbaaNatV
namespace Kt
open Go Go.RowKit

/-- A slice of a call's own (nothing of it lies below block lo) that holds the numbers zs from the head of its block on. -/
def Row (w : World) (lo : Nat) (k : IntKind) (v : Value) (zs : List Int) : Prop :=
  ∃ A c, v = .slice A zs.length c ∧ zs.length ≤ c ∧ (A = none → c = 0) ∧ (0 < zs.length → ∃ b, A = some ⟨b, 0, none⟩ ∧ lo ≤ b ∧ b < w.heap.size ∧
    (∀ j, j < zs.length → w.cell? ⟨b, j, none⟩ = some (.int k (Ls.nth zs j))) ∧ ∀ j, w.frozen? ⟨b, j, none⟩ = false)
section
variable {w w' : World} {lo lo' : Nat} {k : IntKind} {v : Value} {zs : List Int}
theorem Row.nil (w : World) (lo : Nat) (k : IntKind) : Row w lo k (.slice none 0 0) [] := ⟨none, 0, rfl, Nat.le_refl _, fun _ => rfl, fun h => absurd h (by simp)⟩
theorem Row.empty (w : World) (lo : Nat) (k : IntKind) (a : Addr) (c : Nat) : Row w lo k (.slice (some a) 0 c) [] := ⟨_, c, rfl, Nat.zero_le _, fun h => (by cases h), fun h => absurd h (by simp)⟩
theorem Row.below {B : Nat} (h : Row w lo k v zs) (hb : Below B w w') (hB : w.heap.size ≤ B) : Row w' lo k v zs := by
  obtain ⟨A, c, e, hc, h0, hn⟩ := h
  refine ⟨A, c, e, hc, h0, fun hp => ?_⟩
  obtain ⟨b, ha, h1, h2, h3, h4⟩ := hn hp
  exact ⟨b, ha, h1, Nat.lt_of_lt_of_le h2 hb.size, fun j hj => (hb.cell (p := ⟨b, j, none⟩) (by show b < B; omega)).trans (h3 j hj), fun j => (hb.frozen (p := ⟨b, j, none⟩) (by show b < B; omega)).trans (h4 j)⟩
theorem Row.on (h : Row w lo k v zs) (hb : Below w.heap.size w w') : Row w' lo k v zs := h.below hb (Nat.le_refl _)
theorem Row.drewN (h : Row w lo k v zs) (n : Nat) : Row (w.drewN n) lo k v zs := h
theorem Row.alloc (h : Row w lo k v zs) (o : Obj) : Row (w.alloc o) lo k v zs := h.on ((Below.refl _ _).alloc (Nat.le_refl _) _)
theorem Row.less (h : Row w lo k v zs) (hl : lo' ≤ lo) : Row w lo' k v zs := by
  obtain ⟨A, c, e, hc, h0, hn⟩ := h
  refine ⟨A, c, e, hc, h0, fun hp => ?_⟩
  obtain ⟨b, ha, h1, h2⟩ := hn hp
  exact ⟨b, ha, by omega, h2⟩
theorem Row.of_own {base : Nat} {T : TypeId} (h : Own w base T k v zs) : Row w base k v zs := by
  by_cases hn : 0 < zs.length
  · obtain ⟨g, c, e, hc, hb, hg, hcell, hfr⟩ := h.block hn
    exact ⟨_, c, e, hc, fun h => (by cases h), fun _ => ⟨g, rfl, hb, hg, hcell, hfr⟩⟩
  · obtain ⟨_, h2⟩ := h
    rcases h2 with ⟨hv, h0⟩ | ⟨g, cap, cur, hv, _, _, hnc, _, _, _⟩
    · exact ⟨none, 0, by rw [hv, h0], by omega, fun _ => rfl, fun h => absurd h hn⟩
    · exact ⟨_, cap, hv, hnc, fun h => (by cases h), fun h => absurd h hn⟩
theorem Row.of_blk {g : Nat} {T : TypeId} {ys : List Int} (h : IBlk w g T k ys) (hlo : lo ≤ g) (n c : Nat) (hn : n = zs.length) (hz : zs = ys.take n) (hc : n ≤ c) (hl : n ≤ ys.length) : Row w lo k (.slice (some ⟨g, 0, none⟩) n c) zs := by
  subst hn
  refine ⟨_, c, rfl, hc, fun h => (by cases h), fun _ => ⟨g, rfl, hlo, h.lt, fun j hj => ?_, fun j => h.frozen j⟩⟩
  rw [h.cell j (by omega), hz, Ls.nth_take _ _ _ (by omega)]
theorem Row.ints (h : Row w lo k v zs) : ∃ A c, v = .slice A zs.length c ∧ zs.length ≤ c ∧ (A = none → c = 0) ∧ Ints w w.heap.size k A zs := by
  obtain ⟨A, c, e, hc, h0, hn⟩ := h
  refine ⟨A, c, e, hc, h0, fun hp => ?_⟩
  obtain ⟨b, ha, _, h2, h3, _⟩ := hn hp
  exact ⟨b, 0, ha, h2, fun j hj => by rw [Nat.zero_add]; exact h3 j hj⟩
end

/-- Block b begins with the numbers zs, and can be written. -/
def RowAt (w : World) (b : Nat) (k : IntKind) (zs : List Int) : Prop :=
  b < w.heap.size ∧ (∀ j, j < zs.length → w.cell? ⟨b, j, none⟩ = some (.int k (Ls.nth zs j))) ∧ ∀ j, w.frozen? ⟨b, j, none⟩ = false
section
variable {w w' : World} {lo b : Nat} {k : IntKind} {zs : List Int}
theorem RowAt.cell (h : RowAt w b k zs) (j : Nat) (hj : j < zs.length) : w.cell? ⟨b, j, none⟩ = some (.int k (Ls.nth zs j)) := h.2.1 j hj
theorem RowAt.frozen (h : RowAt w b k zs) (j : Nat) : w.frozen? ⟨b, j, none⟩ = false := h.2.2 j
theorem RowAt.ints (h : RowAt w b k zs) : Ints w w.heap.size k (some ⟨b, 0, none⟩) zs := fun _ => ⟨b, 0, rfl, h.1, fun j hj => by rw [Nat.zero_add]; exact h.cell j hj⟩
theorem RowAt.below {B : Nat} (h : RowAt w b k zs) (hb : Below B w w') (hB : b < B) : RowAt w' b k zs :=
  ⟨Nat.lt_of_lt_of_le h.1 hb.size, fun j hj => (hb.cell (p := ⟨b, j, none⟩) hB).trans (h.cell j hj), fun j => (hb.frozen (p := ⟨b, j, none⟩) hB).trans (h.frozen j)⟩
theorem RowAt.on (h : RowAt w b k zs) (hb : Below w.heap.size w w') : RowAt w' b k zs := h.below hb h.1
theorem RowAt.drewN (h : RowAt w b k zs) (n : Nat) : RowAt (w.drewN n) b k zs := h
theorem RowAt.alloc (h : RowAt w b k zs) (o : Obj) : RowAt (w.alloc o) b k zs := h.on ((Below.refl _ _).alloc (Nat.le_refl _) _)
theorem RowAt.far (h : RowAt w b k zs) {p : Addr} (hp : b ≠ p.block) (u : Value) : RowAt (w.setCell p u) b k zs :=
  ⟨by simpa using h.1, fun j hj => by rw [World.cell?_setCell_other _ _ _ _ (fun e => hp (by rw [e]))]; exact h.cell j hj, fun j => by rw [World.frozen?_setCell]; exact h.frozen j⟩
theorem RowAt.set (h : RowAt w b k zs) (j : Nat) (hj : j < zs.length) (x : Int) : RowAt (w.setCell ⟨b, j, none⟩ (.int k x)) b k (zs.set j x) := by
  refine ⟨by simpa using h.1, fun i hi => ?_, fun i => by rw [World.frozen?_setCell]; exact h.frozen i⟩
  rw [List.length_set] at hi
  by_cases e : i = j
  · subst e
    rw [World.cell?_setCell_same _ _ _ (h.cell i hj), Nt.nth_set_eq _ hj]
  · rw [World.cell?_setCell_other _ _ _ _ (fun e2 => e (by injection e2 with _ e2; exact e2.symm)), Nt.nth_set_ne _ e]
    exact h.cell i hi
theorem RowAt.take (h : RowAt w b k zs) (n : Nat) : RowAt w b k (zs.take n) :=
  ⟨h.1, fun j hj => by rw [List.length_take] at hj; rw [h.cell j (by omega), Ls.nth_take _ _ _ (by omega)], h.2.2⟩
theorem RowAt.row (h : RowAt w b k zs) (hlo : lo ≤ b) (n c : Nat) (hn : zs.length = n) (hc : n ≤ c) : Row w lo k (.slice (some ⟨b, 0, none⟩) n c) zs := by
  subst hn
  exact ⟨_, c, rfl, hc, fun e => (by cases e), fun _ => ⟨b, rfl, hlo, h.1, h.2.1, h.2.2⟩⟩
theorem Row.at (v : Value) (h : Row w lo k v zs) (hn : 0 < zs.length) : ∃ b c, v = .slice (some ⟨b, 0, none⟩) zs.length c ∧ zs.length ≤ c ∧ lo ≤ b ∧ RowAt w b k zs := by
  obtain ⟨A, c, e, hc, _, hr⟩ := h
  obtain ⟨b, ha, h1, h2, h3, h4⟩ := hr hn
  exact ⟨b, c, by rw [e, ha], hc, h1, h2, h3, h4⟩
theorem IBlk.rowAt {T : TypeId} (h : IBlk w b T k zs) : RowAt w b k zs := ⟨h.lt, fun j hj => h.cell j hj, fun j => h.frozen j⟩
end

/-- A slice that is the number n. -/
def Num (w : World) (lo : Nat) (v : Value) (n : Nat) : Prop := Row w lo .u32 v (Nt.limbs n)
section
variable {w w' : World} {lo lo' : Nat} {v : Value} {n : Nat}
theorem Num.zero (w : World) (lo : Nat) : Num w lo (.slice none 0 0) 0 := Row.nil w lo .u32
theorem Num.on (h : Num w lo v n) (hb : Below w.heap.size w w') : Num w' lo v n := Row.on h hb
theorem Num.drewN (h : Num w lo v n) (k : Nat) : Num (w.drewN k) lo v n := h
theorem Num.alloc (h : Num w lo v n) (o : Obj) : Num (w.alloc o) lo v n := Row.alloc h o
theorem Num.less (h : Num w lo v n) (hl : lo' ≤ lo) : Num w lo' v n := Row.less h hl
theorem Num.ints (h : Num w lo v n) : ∃ A c, v = .slice A (Nt.limbs n).length c ∧ (Nt.limbs n).length ≤ c ∧ (A = none → c = 0) ∧ Ints w w.heap.size .u32 A (Nt.limbs n) := Row.ints h
theorem Num.take {g : Nat} {T : TypeId} {ys : List Int} {k c : Nat} (h : IBlk w g T .u32 ys) (hlo : lo ≤ g) (ho : Nt.Ok ys) (hv : Nt.V ys = (n : Int)) (hk : k ≤ ys.length) (he : Nt.V (ys.take k) = Nt.V ys) (hl : k = 0 ∨ Ls.nth ys (k - 1) ≠ 0) (hc : k ≤ c) :
    Num w lo (.slice (some ⟨g, 0, none⟩) k c) n := by
  have e := Nt.limbs_take ho hv hk he hl
  have hlen : (Nt.limbs n).length = k := by rw [e, List.length_take]; omega
  exact Row.of_blk h hlo k c hlen.symm e hc hk
end
end Kt
