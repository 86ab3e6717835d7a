/- Plain facts on a split: the parts rounded down, and the cents that are left, given one by one. No program in sight. -/
import Derived.Test.YtonoffeicbpigaaDoorMath
import Derived.Test.YtonoffeicbpigaaDoorLists
namespace Mny
open Go Go.RowKit

def wOk (w : Int) : Bool := decide (0 ≤ w ∧ w ≤ 1000000)
theorem wOk_bd {w : Int} (h : wOk w = true) : 0 ≤ w ∧ w ≤ 1000000 := by simpa [wOk] using h
def parts (c S : Int) (ws : List Int) : List Int := ws.map fun w => c * w / S
theorem parts_len (c S : Int) (ws : List Int) : (parts c S ws).length = ws.length := by simp [parts]
theorem parts_nth (c S : Int) (ws : List Int) (k : Nat) (h : k < ws.length) : Ls.nth (parts c S ws) k = c * Ls.nth ws k / S := by
  have e : (parts c S ws)[k]? = some (c * Ls.nth ws k / S) := by
    unfold parts
    rw [List.getElem?_map, Ls.nth_of h]; rfl
  simp only [Ls.nth, List.getD, e, Option.getD_some]

/-- What is left behind k rounds of giving. -/
def gleft (l : Int) (ws : List Int) : Nat → Int
  | 0 => l
  | k + 1 => if 0 < gleft l ws k ∧ Ls.nth ws k ≠ 0 then gleft l ws k - 1 else gleft l ws k
/-- What round k gives. -/
def gadd (l : Int) (ws : List Int) (k : Nat) : Int := if 0 < gleft l ws k ∧ Ls.nth ws k ≠ 0 then 1 else 0
theorem gleft_succ (l : Int) (ws : List Int) (k : Nat) : gleft l ws (k + 1) = gleft l ws k - gadd l ws k := by
  unfold gadd; rw [gleft]; split <;> omega
theorem gleft_le (l : Int) (ws : List Int) (k : Nat) : gleft l ws k ≤ l := by
  induction k with
  | zero => exact Int.le_refl _
  | succ k ih => rw [gleft]; split <;> omega
theorem gleft_ge (l : Int) (ws : List Int) (k : Nat) : 0 ≤ gleft l ws k ∨ gleft l ws k = l := by
  induction k with
  | zero => exact .inr rfl
  | succ k ih => rw [gleft]; split <;> omega

def left0 (c S : Int) (ws : List Int) : Int := c - Ls.isum (parts c S ws)
def outL (c : Int) (ws : List Int) : List Int := (List.range ws.length).map fun k => Ls.nth (parts c (Ls.isum ws) ws) k + gadd (left0 c (Ls.isum ws) ws) ws k
theorem outL_len (c : Int) (ws : List Int) : (outL c ws).length = ws.length := by simp [outL]
theorem outL_nth (c : Int) (ws : List Int) (k : Nat) (h : k < ws.length) : Ls.nth (outL c ws) k = Ls.nth (parts c (Ls.isum ws) ws) k + gadd (left0 c (Ls.isum ws) ws) ws k := by
  have e : (outL c ws)[k]? = some (Ls.nth (parts c (Ls.isum ws) ws) k + gadd (left0 c (Ls.isum ws) ws) ws k) := by
    unfold outL
    rw [List.getElem?_map, List.getElem?_range h]; rfl
  generalize Ls.nth (parts c (Ls.isum ws) ws) k + gadd (left0 c (Ls.isum ws) ws) ws k = v at e ⊢
  simp only [Ls.nth, List.getD, e, Option.getD_some]
theorem out_add {c : Int} {ws : List Int} {k : Nat} (h : k < ws.length) (h1 : 0 < gleft (left0 c (Ls.isum ws) ws) ws k) (h2 : Ls.nth ws k ≠ 0) :
    Ls.nth (outL c ws) k = Ls.nth (parts c (Ls.isum ws) ws) k + 1 ∧ gleft (left0 c (Ls.isum ws) ws) ws (k + 1) = gleft (left0 c (Ls.isum ws) ws) ws k - 1 := by
  have e : gadd (left0 c (Ls.isum ws) ws) ws k = 1 := by unfold gadd; rw [if_pos ⟨h1, h2⟩]
  exact ⟨by rw [outL_nth c ws k h, e], by rw [gleft_succ, e]⟩
theorem out_keep {c : Int} {ws : List Int} {k : Nat} (h : k < ws.length) (hn : ¬ (0 < gleft (left0 c (Ls.isum ws) ws) ws k ∧ Ls.nth ws k ≠ 0)) :
    Ls.nth (outL c ws) k = Ls.nth (parts c (Ls.isum ws) ws) k ∧ gleft (left0 c (Ls.isum ws) ws) ws (k + 1) = gleft (left0 c (Ls.isum ws) ws) ws k := by
  have e : gadd (left0 c (Ls.isum ws) ws) ws k = 0 := by unfold gadd; rw [if_neg hn]
  exact ⟨by rw [outL_nth c ws k h, e]; omega, by rw [gleft_succ, e]; omega⟩

/-- Bounds of parts. -/
theorem part1_bd (c w S : Int) (h1 : -1000000000000000 ≤ c) (h2 : c ≤ 1000000000000000) (h3 : 0 ≤ w) (h4 : w ≤ S) (h6 : 0 < S) : -1000000000000000 ≤ c * w / S ∧ c * w / S ≤ 1000000000000000 := by
  by_cases hc : 0 ≤ c
  · have a := mul_pos_bd c w S hc h3 h4
    have b1 : 0 ≤ c * w / S := Int.ediv_nonneg a.1 (by omega)
    have b2 : c * w / S ≤ c * S / S := Int.ediv_le_ediv h6 a.2
    rw [Int.mul_ediv_cancel _ (by omega)] at b2
    omega
  · have a := mul_neg_bd c w S (by omega) h3 h4
    have b1 : c * S / S ≤ c * w / S := Int.ediv_le_ediv h6 a.1
    have b2 : c * w / S ≤ 0 / S := Int.ediv_le_ediv h6 a.2
    rw [Int.mul_ediv_cancel _ (by omega)] at b1
    rw [Int.zero_ediv] at b2
    omega
theorem parts_bd (c S : Int) (ws : List Int) (h1 : -1000000000000000 ≤ c) (h2 : c ≤ 1000000000000000) (h6 : 0 < S) (h : ∀ w ∈ ws, 0 ≤ w ∧ w ≤ 1000000 ∧ w ≤ S) :
    ∀ x ∈ parts c S ws, -1000000000000000 ≤ x ∧ x ≤ 1000000000000000 := by
  intro x hx
  obtain ⟨w, hw, rfl⟩ := List.mem_map.1 hx
  obtain ⟨a, _, d⟩ := h w hw
  exact part1_bd c w S h1 h2 a d h6
theorem parts_sum_bd (c S : Int) (ws : List Int) (k : Nat) (hk : k ≤ 4096) (h1 : -1000000000000000 ≤ c) (h2 : c ≤ 1000000000000000) (h6 : 0 < S) (h : ∀ w ∈ ws, 0 ≤ w ∧ w ≤ 1000000 ∧ w ≤ S) :
    -4096000000000000000 ≤ Ls.isum ((parts c S ws).take k) ∧ Ls.isum ((parts c S ws).take k) ≤ 4096000000000000000 := by
  have := Ls.isum_take_bd (parts c S ws) 1000000000000000 k (by omega) (fun x hx => parts_bd c S ws h1 h2 h6 h x (List.mem_of_mem_take hx))
  omega
theorem ws_all {ws : List Int} (h : ws.all wOk = true) : ∀ w ∈ ws, 0 ≤ w ∧ w ≤ 1000000 ∧ w ≤ Ls.isum ws := by
  have hb : ∀ w ∈ ws, 0 ≤ w ∧ w ≤ 1000000 := fun w hw => wOk_bd (List.all_eq_true.1 h w hw)
  exact fun w hw => ⟨(hb w hw).1, (hb w hw).2, Ls.isum_le_of_mem ws (fun x hx => (hb x hx).1) w hw⟩
theorem ws_take_bd {ws : List Int} {k : Nat} (hk : k ≤ 4096) (h : (ws.take k).all wOk = true) : 0 ≤ Ls.isum (ws.take k) ∧ Ls.isum (ws.take k) ≤ 4096000000 := by
  have b : ∀ w ∈ ws.take k, 0 ≤ w ∧ w ≤ 1000000 := fun w hw => wOk_bd (List.all_eq_true.1 h w hw)
  have := Ls.isum_take_bd ws 1000000 k (by omega) (fun x hx => by have := b x hx; omega)
  have := Ls.isum_nonneg (ws.take k) (fun x hx => (b x hx).1)
  omega
theorem wall_take {ws : List Int} {k : Nat} (hk : k < ws.length) (h : (ws.take k).all wOk = true) (hx : wOk (Ls.nth ws k) = true) : (ws.take (k + 1)).all wOk = true := by
  rw [Ls.take_nth ws k hk, List.all_append, h]; simp [hx]
theorem wnot_all {ws : List Int} {k : Nat} (hk : k < ws.length) (hx : wOk (Ls.nth ws k) = false) : ws.all wOk = false := by
  rw [List.all_eq_false]
  exact ⟨_, Ls.nth_mem ws k hk, by simp [hx]⟩

/-- When a split is right. -/
def splitOk (c : Int) (ws : List Int) : Bool := decide (ws.length ≤ 4096) && decide (-1000000000000000 ≤ c ∧ c ≤ 1000000000000000) && ws.all wOk && (Ls.isum ws != 0)

end Mny
