/- Plain facts on splits by weights that are all multiplied, and by weights with zeros between them. No program in sight. -/
import Derived.Test.YtpobjacfhgnfhaaDoorWholeM
import Derived.Test.YtpobjacfhgnfhaaDoorWeights
namespace Mny
open Go Go.RowKit

def scaled (k : Int) (ws : List Int) : List Int := ws.map fun w => k * w
theorem scaled_len (k : Int) (ws : List Int) : (scaled k ws).length = ws.length := by simp [scaled]
theorem scaled_nth (k : Int) (ws : List Int) (i : Nat) (h : i < ws.length) : Ls.nth (scaled k ws) i = k * Ls.nth ws i := by
  have e : (scaled k ws)[i]? = some (k * Ls.nth ws i) := by
    unfold scaled
    rw [List.getElem?_map, Ls.nth_of h]; rfl
  simp only [Ls.nth, List.getD, e, Option.getD_some]
theorem scaled_sum (k : Int) (ws : List Int) : Ls.isum (scaled k ws) = k * Ls.isum ws := by
  induction ws with
  | nil => simp [scaled, Ls.isum]
  | cons a t ih =>
    have e : scaled k (a :: t) = k * a :: scaled k t := rfl
    rw [e]; simp only [Ls.isum]; rw [ih, Int.mul_add]
theorem scaled_parts (c k S : Int) (ws : List Int) (hk : 0 < k) : parts c (k * S) (scaled k ws) = parts c S ws := by
  unfold parts scaled
  rw [List.map_map]
  refine List.map_congr_left fun x _ => ?_
  show c * (k * x) / (k * S) = c * x / S
  rw [show c * (k * x) = k * (c * x) by rw [Int.mul_left_comm], Int.mul_ediv_mul_of_pos _ _ hk]
theorem scaled_left (l k : Int) (ws : List Int) (hk : 0 < k) (i : Nat) (hi : i ≤ ws.length) : gleft l (scaled k ws) i = gleft l ws i := by
  induction i with
  | zero => rfl
  | succ i ih =>
    have e : (Ls.nth (scaled k ws) i ≠ 0) ↔ (Ls.nth ws i ≠ 0) := by
      rw [scaled_nth k ws i (by omega)]
      constructor
      · intro h h0; exact h (by rw [h0]; omega)
      · intro h h0; rcases Int.mul_eq_zero.1 h0 with h1 | h1 <;> omega
    rw [gleft, gleft, ih (by omega)]
    simp only [e]
theorem scaled_out (c k : Int) (ws : List Int) (hk : 0 < k) : outL c (scaled k ws) = outL c ws := by
  refine Ls.ext_nth (by rw [outL_len, outL_len, scaled_len]) fun i hi => ?_
  rw [outL_len, scaled_len] at hi
  rw [outL_nth c _ i (by rw [scaled_len]; exact hi), outL_nth c ws i hi, scaled_sum, scaled_parts _ _ _ _ hk]
  congr 1
  unfold gadd left0
  rw [scaled_parts _ _ _ _ hk, scaled_left _ _ _ hk i (by omega)]
  have e : (Ls.nth (scaled k ws) i ≠ 0) ↔ (Ls.nth ws i ≠ 0) := by
    rw [scaled_nth k ws i hi]
    constructor
    · intro h h0; exact h (by rw [h0]; omega)
    · intro h h0; rcases Int.mul_eq_zero.1 h0 with h1 | h1 <;> omega
  simp only [e]
theorem scaled_all (k : Int) (ws : List Int) (h1 : 1 ≤ k) (h2 : k ≤ 1000) (h : ∀ x ∈ ws, 0 ≤ x ∧ x ≤ 1000) : (scaled k ws).all wOk = true := List.all_eq_true.2 fun y hy => by
  obtain ⟨x, hx, rfl⟩ := List.mem_map.1 hy
  obtain ⟨a, b⟩ := h x hx
  have h3 : 0 ≤ k * x := Int.mul_nonneg (by omega) a
  have h4 : k * x ≤ 1000 * 1000 := Int.mul_le_mul h2 b a (by omega)
  simp only [wOk, decide_eq_true_eq]
  omega

/-- The weights with zeros between them, and where they lie. -/
def gp (b : Nat → Bool) (ws : List Int) : Nat → List Int
  | 0 => []
  | i + 1 => (if b i then gp b ws i ++ [0] else gp b ws i) ++ [Ls.nth ws i]
def gat (b : Nat → Bool) (ws : List Int) (i : Nat) : Nat := if b i then (gp b ws i).length + 1 else (gp b ws i).length
variable (b : Nat → Bool) (ws : List Int)
theorem gp_len (i : Nat) : i ≤ (gp b ws i).length ∧ (gp b ws i).length ≤ 2 * i := by
  induction i with
  | zero => simp [gp]
  | succ i ih => rw [gp]; split <;> simp only [List.length_append, List.length_cons, List.length_nil] <;> omega
theorem gp_step (i : Nat) : (gp b ws (i + 1)).length = gat b ws i + 1 := by
  rw [gp, gat]; split <;> simp
theorem gp_pre (i n : Nat) (h : i ≤ n) : ∃ t, gp b ws n = gp b ws i ++ t := by
  induction n with
  | zero => exact ⟨[], by rw [Nat.le_zero.1 h]; simp⟩
  | succ n ih =>
    by_cases e : i = n + 1
    · subst e; exact ⟨[], by simp⟩
    · obtain ⟨t, ht⟩ := ih (by omega)
      rw [gp, ht]
      split
      · exact ⟨t ++ [0] ++ [Ls.nth ws n], by simp⟩
      · exact ⟨t ++ [Ls.nth ws n], by simp⟩
theorem gp_lt (i n : Nat) (h : i < n) : gat b ws i < (gp b ws n).length := by
  obtain ⟨t, ht⟩ := gp_pre b ws (i + 1) n h
  rw [ht, List.length_append, gp_step]; omega
theorem nth_append_at (a : List Int) (x : Int) (t : List Int) : Ls.nth (a ++ [x] ++ t) a.length = x := by
  simp [Ls.nth, List.getD]
theorem gp_nth (i n : Nat) (h : i < n) : Ls.nth (gp b ws n) (gat b ws i) = Ls.nth ws i := by
  obtain ⟨t, ht⟩ := gp_pre b ws (i + 1) n h
  rw [ht, gp]
  unfold gat
  split
  · have e : (gp b ws i).length + 1 = (gp b ws i ++ [0]).length := by simp
    rw [e]; exact nth_append_at _ _ _
  · exact nth_append_at _ _ _
theorem gp_nth0 (i n : Nat) (h : i < n) (hb : b i = true) : Ls.nth (gp b ws n) (gp b ws i).length = 0 := by
  obtain ⟨t, ht⟩ := gp_pre b ws (i + 1) n h
  rw [ht, gp, if_pos hb, List.append_assoc (gp b ws i ++ [0])]
  exact nth_append_at _ _ _
theorem gp_sum (f : Int → Int) (hf : f 0 = 0) (i : Nat) (hi : i ≤ ws.length) : Ls.isum ((gp b ws i).map f) = Ls.isum ((ws.take i).map f) := by
  induction i with
  | zero => simp [gp]
  | succ i ih =>
    have e : (gp b ws (i + 1)).map f = (if b i then (gp b ws i).map f ++ [0] else (gp b ws i).map f) ++ [f (Ls.nth ws i)] := by
      rw [gp]; split <;> simp [hf]
    rw [e, Ls.isum_append, Ls.take_nth ws i hi, List.map_append, Ls.isum_append, ← ih (by omega)]
    split
    · rw [Ls.isum_append]; simp [Ls.isum]
    · simp [Ls.isum]
theorem gp_isum (i : Nat) (hi : i ≤ ws.length) : Ls.isum (gp b ws i) = Ls.isum (ws.take i) := by
  have := gp_sum b ws id rfl i hi
  simpa using this
theorem gleft_zero {l : Int} {zs : List Int} {k : Nat} (h : Ls.nth zs k = 0) : gleft l zs (k + 1) = gleft l zs k := by
  rw [gleft, if_neg (by simp [h])]
theorem gp_left (l : Int) (n i : Nat) (h : i ≤ n) : gleft l (gp b ws n) (gp b ws i).length = gleft l ws i := by
  induction i with
  | zero => rfl
  | succ i ih =>
    have e := ih (by omega)
    have e2 : gleft l (gp b ws n) (gat b ws i) = gleft l ws i := by
      unfold gat
      split
      · rename_i hb
        rw [gleft_zero (gp_nth0 b ws i n h hb), e]
      · exact e
    rw [gp_step, gleft, gleft, e2, gp_nth b ws i n h]
theorem gp_left2 (l : Int) (n i : Nat) (h : i < n) : gleft l (gp b ws n) (gat b ws i) = gleft l ws i := by
  have e := gp_left b ws l n i (by omega)
  unfold gat
  split
  · rename_i hb
    rw [gleft_zero (gp_nth0 b ws i n h hb), e]
  · exact e
theorem gp_parts (c S : Int) : Ls.isum (parts c S (gp b ws ws.length)) = Ls.isum (parts c S ws) := by
  have := gp_sum b ws (fun w => c * w / S) (by simp) ws.length (Nat.le_refl _)
  rwa [List.take_of_length_le (Nat.le_refl _)] at this
theorem gp_full : Ls.isum (gp b ws ws.length) = Ls.isum ws := by
  rw [gp_isum b ws _ (Nat.le_refl _), List.take_of_length_le (Nat.le_refl _)]
theorem gp_out (c : Int) (i : Nat) (h : i < ws.length) : Ls.nth (outL c (gp b ws ws.length)) (gat b ws i) = Ls.nth (outL c ws) i := by
  have hl := gp_lt b ws i ws.length h
  rw [outL_nth c _ _ hl, outL_nth c ws i h, gp_full, parts_nth _ _ _ _ hl, parts_nth _ _ _ _ h, gp_nth b ws i _ h]
  congr 1
  unfold gadd left0
  rw [gp_parts, gp_left2 b ws _ _ i h, gp_nth b ws i _ h]
theorem gp_all (n : Nat) (hn : n ≤ ws.length) (h : ws.all wOk = true) : (gp b ws n).all wOk = true := by
  induction n with
  | zero => rfl
  | succ i ih =>
    have h1 := ih (by omega)
    have h2 : wOk (Ls.nth ws i) = true := List.all_eq_true.1 h _ (Ls.nth_mem ws i hn)
    rw [gp]
    split
    · simp only [List.all_append, h1, List.all_cons, h2, List.all_nil, Bool.and_true, Bool.true_and]; rfl
    · simp [h1, h2]
/-- Where they lie, as a list. -/
def gats (i : Nat) : List Int := (List.range i).map fun j => (gat b ws j : Int)
theorem gats_len (i : Nat) : (gats b ws i).length = i := by simp [gats]
theorem gats_succ (i : Nat) : gats b ws (i + 1) = gats b ws i ++ [(gat b ws i : Int)] := by
  unfold gats; rw [List.range_succ, List.map_append]; rfl
theorem gats_nth (i n : Nat) (h : i < n) : Ls.nth (gats b ws n) i = gat b ws i := by
  have e : (gats b ws n)[i]? = some (gat b ws i : Int) := by
    unfold gats
    rw [List.getElem?_map, List.getElem?_range h]; rfl
  simp only [Ls.nth, List.getD, e, Option.getD_some]

end Mny
namespace Go.Proofs.YtpobjacfhgnfhaaDoor
open Go Go.RowKit
/-- The law's weights. -/
def wl (l : List Int) : List Int := ((weightsOf l).take 2047).map fun x => x % 1001
def wl1 (l : List Int) : List Int := wl l ++ [1]
theorem wl_len (l : List Int) : (wl l).length = min 2047 (weightsOf l).length := by simp [wl]
theorem wl_nth (l : List Int) (k : Nat) (h : k < (weightsOf l).length) (h' : k < 2047) : Ls.nth (wl l) k = Ls.nth (weightsOf l) k % 1001 := by
  have e : (wl l)[k]? = some (Ls.nth (weightsOf l) k % 1001) := by
    unfold wl
    rw [List.getElem?_map, List.getElem?_take, if_pos h', Ls.nth_of h]; rfl
  simp only [Ls.nth, List.getD, e, Option.getD_some]
theorem wl1_bd (l : List Int) : ∀ x ∈ wl1 l, 0 ≤ x ∧ x ≤ 1000 := fun x hx => by
  rcases List.mem_append.1 hx with h | h
  · obtain ⟨y, _, rfl⟩ := List.mem_map.1 h
    omega
  · have : x = 1 := by simpa using h
    omega
theorem wl1_all (l : List Int) : (wl1 l).all Mny.wOk = true := List.all_eq_true.2 fun x hx => by
  have := wl1_bd l x hx
  simp only [Mny.wOk, decide_eq_true_eq]; omega
theorem wl1_sum (l : List Int) : 0 < Ls.isum (wl1 l) := by
  unfold wl1
  rw [Ls.isum_append]
  have : 0 ≤ Ls.isum (wl l) := Ls.isum_nonneg _ fun x hx => (wl1_bd l x (List.mem_append_left _ hx)).1
  simp only [Ls.isum]; omega
theorem wl1_len (l : List Int) : 1 ≤ (wl1 l).length ∧ (wl1 l).length ≤ 2048 := by
  unfold wl1; rw [List.length_append, wl_len]; simp; omega
end Go.Proofs.YtpobjacfhgnfhaaDoor
