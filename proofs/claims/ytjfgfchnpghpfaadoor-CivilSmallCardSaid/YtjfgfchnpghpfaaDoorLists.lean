/- Plain facts on lists of integers: sums, cuts, elements. No program in sight. -/
namespace Ls

/-- The element at a place (0 beyond the end). -/
def nth (l : List Int) (k : Nat) : Int := l.getD k 0
theorem nth_of {l : List Int} {k : Nat} (h : k < l.length) : l[k]? = some (nth l k) := by simp [nth, List.getD, h]
theorem nth_mem (l : List Int) (k : Nat) (h : k < l.length) : nth l k ∈ l := by simp [nth, List.getD, h]
theorem nth_get (l : List Int) (k : Nat) (h : k < l.length) : nth l k = l[k] := by simp [nth, List.getD, h]
theorem nth_append_left (a b : List Int) (k : Nat) (h : k < a.length) : nth (a ++ b) k = nth a k := by
  have e : (a ++ b)[k]? = a[k]? := List.getElem?_append_left h
  simp only [nth, List.getD, e]
theorem nth_take (l : List Int) (k j : Nat) (h : j < k) : nth (l.take k) j = nth l j := by
  have e : (l.take k)[j]? = l[j]? := by rw [List.getElem?_take, if_pos h]
  simp only [nth, List.getD, e]
theorem ext_nth {a b : List Int} (hl : a.length = b.length) (h : ∀ k, k < a.length → nth a k = nth b k) : a = b := by
  apply List.ext_getElem hl
  intro k h1 h2
  rw [← nth_get a k h1, ← nth_get b k h2]
  exact h k h1

def isum : List Int → Int
  | [] => 0
  | x :: xs => x + isum xs

theorem isum_append (a b : List Int) : isum (a ++ b) = isum a + isum b := by
  induction a with
  | nil => simp [isum]
  | cons x a ih => simp only [List.cons_append, isum, ih]; omega
theorem take_succ' {α : Type} (l : List α) (k : Nat) (h : k < l.length) : l.take (k + 1) = l.take k ++ [l[k]] := List.take_succ_eq_append_getElem h
theorem take_nth (l : List Int) (k : Nat) (h : k < l.length) : l.take (k + 1) = l.take k ++ [nth l k] := by
  rw [take_succ' l k h, nth_get l k h]
theorem isum_take (l : List Int) (k : Nat) (h : k < l.length) : isum (l.take (k + 1)) = isum (l.take k) + nth l k := by
  rw [take_nth l k h, isum_append]; simp [isum]
theorem isum_bd (l : List Int) (m : Int) (h : ∀ x ∈ l, -m ≤ x ∧ x ≤ m) : -(l.length * m) ≤ isum l ∧ isum l ≤ l.length * m := by
  induction l with
  | nil => simp [isum]
  | cons x l ih =>
    have hx := h x (by simp)
    have hi := ih (fun y hy => h y (by simp [hy]))
    have e : ((x :: l).length : Int) * m = l.length * m + m := by
      simp only [List.length_cons]
      rw [show ((l.length + 1 : Nat) : Int) = (l.length : Int) + 1 from by omega, Int.add_mul, Int.one_mul]
    rw [e]
    simp only [isum]
    omega
theorem isum_nonneg (l : List Int) (h : ∀ x ∈ l, 0 ≤ x) : 0 ≤ isum l := by
  induction l with
  | nil => simp [isum]
  | cons x l ih =>
    have hx := h x (by simp)
    have hi := ih (fun y hy => h y (by simp [hy]))
    simp only [isum]
    omega
theorem isum_le_of_mem (l : List Int) (h : ∀ x ∈ l, 0 ≤ x) (x : Int) (hx : x ∈ l) : x ≤ isum l := by
  induction l with
  | nil => simp at hx
  | cons y l ih =>
    have hy := h y (by simp)
    have hl := isum_nonneg l (fun z hz => h z (by simp [hz]))
    simp only [isum]
    rcases List.mem_cons.1 hx with rfl | hx
    · omega
    · have := ih (fun z hz => h z (by simp [hz])) hx; omega
theorem isum_reverse (l : List Int) : isum l.reverse = isum l := by
  induction l with
  | nil => rfl
  | cons x l ih => rw [List.reverse_cons, isum_append, ih]; simp [isum]; omega
theorem isum_take_le (l : List Int) (h : ∀ x ∈ l, 0 ≤ x) (k : Nat) : isum (l.take k) ≤ isum l := by
  have e : isum l = isum (l.take k) + isum (l.drop k) := by rw [← isum_append, List.take_append_drop]
  have := isum_nonneg (l.drop k) (fun x hx => h x (List.mem_of_mem_drop hx))
  omega
/-- A bound of a part of a list whose members are bounded. -/
theorem isum_take_bd (l : List Int) (m : Int) (k : Nat) (hm : 0 ≤ m) (h : ∀ x ∈ l.take k, -m ≤ x ∧ x ≤ m) : -(k * m) ≤ isum (l.take k) ∧ isum (l.take k) ≤ k * m := by
  have b := isum_bd (l.take k) m h
  have hl : (l.take k).length ≤ k := List.length_take_le _ _
  have e : ((l.take k).length : Int) * m ≤ k * m := Int.mul_le_mul_of_nonneg_right (by omega) hm
  omega

/-! ### Lists that are filled from the left on -/
def zeros (n : Nat) : List Int := List.replicate n 0
theorem zeros_len (n : Nat) : (zeros n).length = n := by simp [zeros]
/-- The first k of a, the others of b. -/
def mix (a b : List Int) (k : Nat) : List Int := a.take k ++ b.drop k
theorem mix_len (a b : List Int) (k : Nat) (hl : a.length = b.length) : (mix a b k).length = a.length := by
  simp only [mix, List.length_append, List.length_take, List.length_drop]; omega
theorem mix_zero (a b : List Int) : mix a b 0 = b := by simp [mix]
theorem mix_full (a b : List Int) (k : Nat) (hk : a.length ≤ k) (hl : b.length ≤ k) : mix a b k = a := by
  simp [mix, List.take_of_length_le hk, List.drop_of_length_le hl]
theorem mix_nth (a b : List Int) (k : Nat) (hk : k < a.length) (_hl : a.length = b.length) : nth (mix a b k) k = nth b k := by
  have e : (mix a b k)[k]? = b[k]? := by
    unfold mix
    rw [List.getElem?_append_right (by rw [List.length_take]; omega), List.getElem?_drop, List.length_take]
    congr 1; omega
  simp only [nth, List.getD, e]
theorem mix_set (a b : List Int) (k : Nat) (hk : k < a.length) (hl : a.length = b.length) : (mix a b k).set k (nth a k) = mix a b (k + 1) := by
  have h1 : (a.take k).length = k := by rw [List.length_take]; omega
  unfold mix
  rw [List.set_append_right _ _ (by omega), h1, Nat.sub_self, take_nth a k hk, List.append_assoc]
  congr 1
  rw [List.drop_eq_getElem_cons (by omega : k < b.length)]
  rfl
theorem mix_keep (a b : List Int) (k : Nat) (hk : k < a.length) (hl : a.length = b.length) (h : nth a k = nth b k) : mix a b k = mix a b (k + 1) := by
  rw [← mix_set a b k hk hl, h, nth_get b k (by omega)]
  apply List.ext_getElem?
  intro j
  rw [List.getElem?_set]
  by_cases e : k = j
  · subst e
    rw [if_pos rfl, if_pos (by rw [mix_len a b k hl]; exact hk)]
    unfold mix
    rw [List.getElem?_append_right (by rw [List.length_take]; omega), List.getElem?_drop, List.length_take]
    rw [show k + (k - min k a.length) = k from by omega]
    exact List.getElem?_eq_getElem (by omega)
  · rw [if_neg e]

end Ls
