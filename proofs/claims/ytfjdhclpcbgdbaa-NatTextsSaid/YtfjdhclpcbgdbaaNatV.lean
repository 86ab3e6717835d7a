/- Plain facts on lists of limbs and the numbers that they stand for. No program in sight. -/
import Derived.Test.YtfjdhclpcbgdbaaLists
namespace Nt

/-- The value of limbs, the lowest one first. -/
def V : List Int → Int
  | [] => 0
  | x :: l => x + 4294967296 * V l
/-- Powers of 2^32. -/
def P : Nat → Int
  | 0 => 1
  | k + 1 => 4294967296 * P k
def Ok (l : List Int) : Prop := ∀ x ∈ l, 0 ≤ x ∧ x ≤ 4294967295

theorem P_pos (k : Nat) : 0 < P k := by
  induction k with
  | zero => simp [P]
  | succ k ih => simp only [P]; omega
theorem P_succ (k : Nat) : P (k + 1) = 4294967296 * P k := rfl
theorem P_add (a b : Nat) : P (a + b) = P a * P b := by
  induction a with
  | zero => simp [P]
  | succ a ih => rw [show a + 1 + b = (a + b) + 1 from by omega, P_succ, P_succ, ih, Int.mul_assoc]
theorem P_mono {a b : Nat} (h : a ≤ b) : P a ≤ P b := by
  induction h with
  | refl => exact Int.le_refl _
  | step _ ih => rw [P_succ]; have := P_pos a; omega
theorem P_lt {a b : Nat} (h : a < b) : P a < P b := by
  have h1 := P_mono (show a + 1 ≤ b from h)
  rw [P_succ] at h1
  have := P_pos a
  omega
theorem P_lt_of {a b : Nat} (h : P a < P b) : a < b := by
  rcases Nat.lt_or_ge a b with h1 | h1
  · exact h1
  · have := P_mono h1; omega

theorem Ok.nil : Ok [] := fun x h => by simp at h
theorem Ok.cons {x : Int} {l : List Int} (h0 : 0 ≤ x) (h1 : x ≤ 4294967295) (h : Ok l) : Ok (x :: l) := fun y hy => by
  rcases List.mem_cons.1 hy with rfl | hy
  · exact ⟨h0, h1⟩
  · exact h y hy
theorem Ok.head {x : Int} {l : List Int} (h : Ok (x :: l)) : 0 ≤ x ∧ x ≤ 4294967295 := h x (by simp)
theorem Ok.tail {x : Int} {l : List Int} (h : Ok (x :: l)) : Ok l := fun y hy => h y (by simp [hy])
theorem Ok.append {a b : List Int} (ha : Ok a) (hb : Ok b) : Ok (a ++ b) := fun y hy => by
  rcases List.mem_append.1 hy with hy | hy
  · exact ha y hy
  · exact hb y hy
theorem Ok.one {x : Int} (h0 : 0 ≤ x) (h1 : x ≤ 4294967295) : Ok [x] := Ok.cons h0 h1 Ok.nil
theorem Ok.take {l : List Int} (h : Ok l) (k : Nat) : Ok (l.take k) := fun y hy => h y (List.mem_of_mem_take hy)
theorem Ok.drop {l : List Int} (h : Ok l) (k : Nat) : Ok (l.drop k) := fun y hy => h y (List.mem_of_mem_drop hy)
theorem Ok.nth {l : List Int} (h : Ok l) {k : Nat} (hk : k < l.length) : 0 ≤ Ls.nth l k ∧ Ls.nth l k ≤ 4294967295 := h _ (Ls.nth_mem l k hk)
theorem Ok.nth_any {l : List Int} (h : Ok l) (k : Nat) : 0 ≤ Ls.nth l k ∧ Ls.nth l k ≤ 4294967295 := by
  by_cases hk : k < l.length
  · exact h.nth hk
  · have e : Ls.nth l k = 0 := by
      unfold Ls.nth
      rw [List.getD, List.getElem?_eq_none (by omega)]
      rfl
    omega
theorem Ok.zeros (n : Nat) : Ok (Ls.zeros n) := fun y hy => by
  have : y = 0 := (List.mem_replicate.1 hy).2
  omega
theorem Ok.set {l : List Int} (h : Ok l) (k : Nat) {x : Int} (h0 : 0 ≤ x) (h1 : x ≤ 4294967295) : Ok (l.set k x) := fun y hy => by
  rcases List.mem_or_eq_of_mem_set hy with hy | rfl
  · exact h y hy
  · exact ⟨h0, h1⟩

theorem V_append (a b : List Int) : V (a ++ b) = V a + P a.length * V b := by
  induction a with
  | nil => simp [V, P]
  | cons x a ih =>
    simp only [List.cons_append, V, ih, List.length_cons, P_succ, Int.mul_add, Int.mul_assoc]
    omega
theorem V_snoc (a : List Int) (x : Int) : V (a ++ [x]) = V a + P a.length * x := by rw [V_append]; simp [V]
theorem V_nonneg {l : List Int} (h : Ok l) : 0 ≤ V l := by
  induction l with
  | nil => simp [V]
  | cons x l ih => have := ih h.tail; have := h.head; simp only [V]; omega
theorem V_lt {l : List Int} (h : Ok l) : V l < P l.length := by
  induction l with
  | nil => simp [V, P]
  | cons x l ih => have := ih h.tail; have := h.head; simp only [V, List.length_cons, P_succ]; omega
theorem V_zeros (n : Nat) : V (Ls.zeros n) = 0 := by
  induction n with
  | zero => rfl
  | succ n ih =>
    have e : Ls.zeros (n + 1) = 0 :: Ls.zeros n := rfl
    rw [e, V, ih]; rfl
theorem nth_cons_succ (x : Int) (l : List Int) (k : Nat) : Ls.nth (x :: l) (k + 1) = Ls.nth l k := rfl
theorem V_set (l : List Int) (k : Nat) (x : Int) (h : k < l.length) : V (l.set k x) = V l + P k * (x - Ls.nth l k) := by
  induction l generalizing k with
  | nil => simp at h
  | cons y l ih =>
    cases k with
    | zero => simp only [List.set_cons_zero, V, P, Int.one_mul, Ls.nth, List.getD_cons_zero]; omega
    | succ k =>
      simp only [List.set_cons_succ, V, nth_cons_succ, P_succ]
      rw [ih k (by simpa using h), Int.mul_add, Int.mul_assoc]
      omega
theorem V_take (l : List Int) (k : Nat) (h : k < l.length) : V (l.take (k + 1)) = V (l.take k) + P k * Ls.nth l k := by
  rw [Ls.take_nth l k h, V_snoc, List.length_take, Nat.min_eq_left (by omega)]
theorem V_drop (l : List Int) (k : Nat) (h : k < l.length) : V (l.drop k) = Ls.nth l k + 4294967296 * V (l.drop (k + 1)) := by
  rw [List.drop_eq_getElem_cons h, V, Ls.nth_get l k h]
theorem V_split (l : List Int) (k : Nat) (h : k ≤ l.length) : V l = V (l.take k) + P k * V (l.drop k) := by
  have e := V_append (l.take k) (l.drop k)
  rw [List.take_append_drop, List.length_take, Nat.min_eq_left h] at e
  exact e
theorem V_take_all (l : List Int) (k : Nat) (h : l.length ≤ k) : V (l.take k) = V l := by rw [List.take_of_length_le h]

/-! ### Limbs without zeros at the end -/
def R (l : List Int) : Prop := Ok l ∧ (l = [] ∨ Ls.nth l (l.length - 1) ≠ 0)
theorem R.nil : R [] := ⟨Ok.nil, .inl rfl⟩
theorem R.tail {x : Int} {l : List Int} (h : R (x :: l)) : R l := by
  refine ⟨h.1.tail, ?_⟩
  cases l with
  | nil => exact .inl rfl
  | cons y l =>
    right
    rcases h.2 with h2 | h2
    · cases h2
    · exact h2
theorem R_low {l : List Int} (h : R l) (hn : l ≠ []) : P (l.length - 1) ≤ V l := by
  induction l with
  | nil => exact absurd rfl hn
  | cons x l ih =>
    have hx := h.1.head
    cases l with
    | nil =>
      rcases h.2 with h2 | h2
      · cases h2
      · have e : Ls.nth [x] ([x].length - 1) = x := rfl
        rw [e] at h2
        simp only [List.length_singleton, Nat.sub_self, P, V, Int.mul_zero, Int.add_zero]
        omega
    | cons y l =>
      have := ih h.tail (by simp)
      have e : (x :: y :: l).length - 1 = (y :: l).length - 1 + 1 := by simp
      rw [e, P_succ, V]
      omega
theorem R_pos {l : List Int} (h : R l) (hn : l ≠ []) : 0 < V l := by
  have := R_low h hn
  have := P_pos (l.length - 1)
  omega

def limbsF : Nat → Nat → List Int
  | 0, _ => []
  | f + 1, n => if n = 0 then [] else ((n % 4294967296 : Nat) : Int) :: limbsF f (n / 4294967296)
/-- The limbs of a number. -/
def limbs (n : Nat) : List Int := limbsF n n
theorem limbsF_of {l : List Int} (h : R l) : ∀ f n : Nat, V l = (n : Int) → n ≤ f → limbsF f n = l := by
  induction l with
  | nil =>
    intro f n hv _
    have : n = 0 := by simp only [V] at hv; omega
    subst this
    cases f <;> simp [limbsF]
  | cons x l ih =>
    intro f n hv hf
    have hp := R_pos h (by simp)
    have hx := h.1.head
    have ht := V_nonneg h.1.tail
    simp only [V] at hv hp
    cases f with
    | zero => omega
    | succ f =>
      have hn : n ≠ 0 := by omega
      simp only [limbsF, if_neg hn]
      congr 1
      · omega
      · exact ih h.tail f (n / 4294967296) (by omega) (by omega)
theorem limbs_of {l : List Int} {n : Nat} (h : R l) (hv : V l = (n : Int)) : limbs n = l := limbsF_of h n n hv (Nat.le_refl _)
theorem limbsF_R : ∀ f n : Nat, n ≤ f → R (limbsF f n) ∧ V (limbsF f n) = (n : Int) := by
  intro f
  induction f with
  | zero => intro n h; have : n = 0 := by omega
            subst this; exact ⟨R.nil, rfl⟩
  | succ f ih =>
    intro n h
    by_cases hn : n = 0
    · subst hn; simp only [limbsF, if_pos]; exact ⟨R.nil, rfl⟩
    · have ⟨h1, h2⟩ := ih (n / 4294967296) (by omega)
      simp only [limbsF, if_neg hn]
      refine ⟨⟨Ok.cons (by omega) (by omega) h1.1, .inr ?_⟩, ?_⟩
      · cases hl : limbsF f (n / 4294967296) with
        | nil =>
          rw [hl] at h2
          simp only [V] at h2
          show ((n % 4294967296 : Nat) : Int) ≠ 0
          omega
        | cons y l =>
          rw [hl] at h1
          rcases h1.2 with h3 | h3
          · cases h3
          · exact h3
      · simp only [V, h2]; omega
theorem limbs_R (n : Nat) : R (limbs n) := (limbsF_R n n (Nat.le_refl _)).1
theorem limbs_Ok (n : Nat) : Ok (limbs n) := (limbs_R n).1
theorem V_limbs (n : Nat) : V (limbs n) = (n : Int) := (limbsF_R n n (Nat.le_refl _)).2
theorem limbs_inj {m n : Nat} (h : limbs m = limbs n) : m = n := by
  have a := V_limbs m
  rw [h, V_limbs] at a
  omega
theorem limbs_zero : limbs 0 = [] := rfl
theorem limbs_ne {n : Nat} (h : n ≠ 0) : limbs n ≠ [] := fun e => by
  have := V_limbs n
  rw [e] at this
  simp only [V] at this
  omega
theorem len_zero_iff (n : Nat) : (limbs n).length = 0 ↔ n = 0 := by
  constructor
  · intro h
    have e : limbs n = [] := List.eq_nil_of_length_eq_zero h
    have := V_limbs n
    rw [e] at this
    simp only [V] at this
    omega
  · rintro rfl; rfl
theorem limbs_lt (n : Nat) : (n : Int) < P (limbs n).length := by
  have := V_lt (limbs_Ok n)
  rwa [V_limbs] at this
theorem limbs_low {n : Nat} (h : n ≠ 0) : P ((limbs n).length - 1) ≤ (n : Int) := by
  have := R_low (limbs_R n) (limbs_ne h)
  rwa [V_limbs] at this
theorem len_le_iff (n k : Nat) : (limbs n).length ≤ k ↔ (n : Int) < P k := by
  constructor
  · intro h
    have a := limbs_lt n
    have b := P_mono h
    omega
  · intro h
    by_cases hn : n = 0
    · subst hn; simp [limbs_zero]
    · have a := limbs_low hn
      have : (limbs n).length - 1 < k := P_lt_of (by omega)
      omega
theorem len_mono {m n : Nat} (h : m ≤ n) : (limbs m).length ≤ (limbs n).length := by
  rw [len_le_iff]
  have := limbs_lt n
  omega
/-- What is left when zeros at the end are taken away. -/
theorem limbs_take {l : List Int} {n k : Nat} (ho : Ok l) (hv : V l = (n : Int)) (hk : k ≤ l.length) (he : V (l.take k) = V l) (hl : k = 0 ∨ Ls.nth l (k - 1) ≠ 0) : limbs n = l.take k := by
  refine limbs_of ⟨ho.take k, ?_⟩ (he.trans hv)
  rcases hl with rfl | hl
  · exact .inl rfl
  · by_cases h0 : k = 0
    · subst h0; exact .inl rfl
    · right
      rw [List.length_take, Nat.min_eq_left hk, Ls.nth_take l k (k - 1) (by omega)]
      exact hl
theorem V_take_pred {l : List Int} {k : Nat} (hk : k < l.length) (he : V (l.take (k + 1)) = V l) (h0 : Ls.nth l k = 0) : V (l.take k) = V l := by
  rw [V_take l k hk, h0, Int.mul_zero, Int.add_zero] at he
  exact he

/-! ### Comparison -/
theorem V_less_of {a b : List Int} {k : Nat} (ha : Ok a) (hb : Ok b) (hl : a.length = b.length) (hk : k < a.length) (hd : a.drop (k + 1) = b.drop (k + 1)) (hx : Ls.nth a k < Ls.nth b k) : V a < V b := by
  rw [V_split a k (by omega), V_split b k (by omega), V_drop a k hk, V_drop b k (by omega), hd]
  have h1 := V_lt (ha.take k)
  have h2 := V_nonneg (hb.take k)
  rw [List.length_take, Nat.min_eq_left (by omega)] at h1
  have h3 : P k * (Ls.nth a k + 1) ≤ P k * Ls.nth b k := Int.mul_le_mul_of_nonneg_left (by omega) (Int.le_of_lt (P_pos k))
  rw [Int.mul_add, Int.mul_one] at h3
  rw [Int.mul_add, Int.mul_add]
  omega
theorem V_short {a b : List Int} (ha : Ok a) (hb : R b) (hl : a.length < b.length) : V a < V b := by
  have h1 := V_lt ha
  have h2 := R_low hb (by intro e; rw [e] at hl; simp at hl)
  have h3 := P_mono (show a.length ≤ b.length - 1 by omega)
  omega
def cmpV (x y : Nat) : Int := if x < y then -1 else if y < x then 1 else 0
theorem drop_step {a b : List Int} {k : Nat} (hk : k < a.length) (hl : a.length = b.length) (hd : a.drop (k + 1) = b.drop (k + 1)) (hx : Ls.nth a k = Ls.nth b k) : a.drop k = b.drop k := by
  rw [List.drop_eq_getElem_cons hk, List.drop_eq_getElem_cons (by omega : k < b.length), hd, ← Ls.nth_get a k hk, ← Ls.nth_get b k (by omega), hx]

/-! ### Sums and differences, limb by limb -/
theorem V_add_step {s a b : List Int} {i : Nat} {c t : Int} (hs : s.length = i) (h : V s + P i * c = V a + V b) {x y : Int} (ht : t = x + y + c) :
    V (s ++ [t % 4294967296]) + P (i + 1) * (t / 4294967296) = (V a + P i * x) + (V b + P i * y) := by
  rw [V_snoc, hs, P_succ]
  have e : P i * t = P i * (t % 4294967296) + 4294967296 * P i * (t / 4294967296) := by
    rw [Int.mul_comm 4294967296 (P i), Int.mul_assoc, ← Int.mul_add]
    congr 1
    omega
  subst ht
  rw [Int.mul_add, Int.mul_add] at e
  omega
theorem V_sub_step {s a b : List Int} {i : Nat} {c t : Int} (hs : s.length = i) (h : V s - P i * c = V a - V b) {x y : Int} (ht : t = x - y - c) :
    V (s ++ [t % 4294967296]) - P (i + 1) * (-(t / 4294967296)) = (V a + P i * x) - (V b + P i * y) := by
  rw [V_snoc, hs, P_succ]
  have e : P i * t = P i * (t % 4294967296) + 4294967296 * P i * (t / 4294967296) := by
    rw [Int.mul_comm 4294967296 (P i), Int.mul_assoc, ← Int.mul_add]
    congr 1
    omega
  subst ht
  rw [Int.mul_sub, Int.mul_sub] at e
  rw [Int.mul_neg]
  omega
/-- A limb beyond the end counts nothing. -/
theorem V_take_nth (l : List Int) (k : Nat) : V (l.take (k + 1)) = V (l.take k) + P k * Ls.nth l k := by
  by_cases h : k < l.length
  · exact V_take l k h
  · have e : Ls.nth l k = 0 := by
      unfold Ls.nth
      rw [List.getD, List.getElem?_eq_none (by omega)]
      rfl
    rw [e, List.take_of_length_le (by omega), List.take_of_length_le (by omega)]
    simp

/-- A limb beyond the end is 0. -/
theorem nth_out {l : List Int} {k : Nat} (h : l.length ≤ k) : Ls.nth l k = 0 := by
  unfold Ls.nth
  rw [List.getD, List.getElem?_eq_none h]
  rfl
theorem fill_set {s : List Int} {N k : Nat} (v : Int) (hs : s.length = k) (hk : k < N) : (s ++ Ls.zeros (N - k)).set k v = (s ++ [v]) ++ Ls.zeros (N - (k + 1)) := by
  rw [List.set_append_right _ _ (by omega), hs, Nat.sub_self, List.append_assoc]
  congr 1
  rw [show N - k = (N - (k + 1)) + 1 from by omega]
  rfl
theorem fill_len {s : List Int} {N k : Nat} (hs : s.length = k) (hk : k ≤ N) : (s ++ Ls.zeros (N - k)).length = N := by
  rw [List.length_append, hs, Ls.zeros_len]; omega
theorem fill_all {s : List Int} {N : Nat} : s ++ Ls.zeros (N - N) = s := by simp [Ls.zeros]
/-- A whole sum. -/
theorem add_end {s a b : List Int} {n : Nat} {c : Int} (_hs : s.length = n + 1) (ho : Ok s) (ha : Ok a) (hb : Ok b) (hla : a.length ≤ n) (hlb : b.length ≤ n) (hc : 0 ≤ c) (h : V s + P (n + 1) * c = V (a.take (n + 1)) + V (b.take (n + 1))) : V s = V a + V b := by
  rw [V_take_all a _ (by omega), V_take_all b _ (by omega)] at h
  have h1 := V_lt ha
  have h2 := V_lt hb
  have h3 := P_mono hla
  have h4 := P_mono hlb
  have h5 := V_nonneg ho
  have hp := P_pos n
  rw [P_succ, Int.mul_assoc] at h
  by_cases e : c = 0
  · subst e; rw [Int.mul_zero] at h; omega
  · have : P n * 1 ≤ P n * c := Int.mul_le_mul_of_nonneg_left (by omega) (by omega)
    omega
/-- A whole difference. -/
theorem sub_end {s a b : List Int} {n : Nat} {c : Int} (hs : s.length = n) (ho : Ok s) (hla : a.length ≤ n) (hlb : b.length ≤ n) (hc : 0 ≤ c) (hle : V b ≤ V a) (h : V s - P n * c = V (a.take n) - V (b.take n)) : V s = V a - V b := by
  rw [V_take_all a _ hla, V_take_all b _ hlb] at h
  have h5 := V_lt ho
  rw [hs] at h5
  by_cases e : c = 0
  · subst e; rw [Int.mul_zero] at h; omega
  · have : P n * 1 ≤ P n * c := Int.mul_le_mul_of_nonneg_left (by omega) (Int.le_of_lt (P_pos n))
    omega

/-! ### Products -/
/-- One limb of a row: what is written, and what is carried. -/
theorem V_mul_step {p : List Int} {k : Nat} {c t x y v : Int} (hk : k < p.length) (h : V p + P k * c = v) (ht : t = x * y + Ls.nth p k + c) :
    V (p.set k (t % 4294967296)) + P (k + 1) * (t / 4294967296) = v + P k * (x * y) := by
  rw [V_set p k _ hk, P_succ]
  have e : P k * t = P k * (t % 4294967296) + 4294967296 * P k * (t / 4294967296) := by
    rw [Int.mul_comm 4294967296 (P k), Int.mul_assoc, ← Int.mul_add]
    congr 1
    omega
  rw [ht, Int.mul_add, Int.mul_add, ← ht] at e
  rw [Int.mul_sub]
  omega
theorem nth_set_ne {l : List Int} {k j : Nat} (x : Int) (h : j ≠ k) : Ls.nth (l.set k x) j = Ls.nth l j := by
  unfold Ls.nth
  rw [List.getD, List.getD, List.getElem?_set_ne (fun e => h e.symm)]
theorem nth_set_eq {l : List Int} {k : Nat} (x : Int) (h : k < l.length) : Ls.nth (l.set k x) k = x := by
  unfold Ls.nth
  rw [List.getD, List.getElem?_set_self h]
  rfl
theorem mul_row {p p' a : List Int} {k m : Nat} {c x y : Int} (hk : k + m < p'.length) (hp : V p = V (a.take k) * y) (h : V p' + P (k + m) * c = V p + P k * (x * y)) (h0 : Ls.nth p' (k + m) = 0) (hx : Ls.nth a k = x) :
    V (p'.set (k + m) c) = V (a.take (k + 1)) * y := by
  rw [V_set _ _ _ hk, h0, V_take_nth, hx, Int.add_mul, ← hp, Int.mul_assoc]
  rw [Int.sub_zero]
  exact h
theorem mul_low {a b : List Int} (ha : R a) (hb : R b) (hna : a ≠ []) (hnb : b ≠ []) : P (a.length + b.length - 2) ≤ V a * V b := by
  have h1 := R_low ha hna
  have h2 := R_low hb hnb
  have l1 : 0 < a.length := List.length_pos_iff.2 hna
  have l2 : 0 < b.length := List.length_pos_iff.2 hnb
  rw [show a.length + b.length - 2 = (a.length - 1) + (b.length - 1) from by omega, P_add]
  exact Int.mul_le_mul h1 h2 (Int.le_of_lt (P_pos _)) (V_nonneg ha.1)
theorem nth_zeros (n j : Nat) : Ls.nth (Ls.zeros n) j = 0 := by
  unfold Ls.nth Ls.zeros
  rw [List.getD, List.getElem?_replicate]
  split <;> rfl
theorem mul_inner {q b : List Int} {k j : Nat} {c t x y v : Int} (hk : k + j < q.length) (h : V q + P (k + j) * c = v + P k * (x * V (b.take j))) (ht : t = x * y + Ls.nth q (k + j) + c) (hy : Ls.nth b j = y) :
    V (q.set (k + j) (t % 4294967296)) + P (k + (j + 1)) * (t / 4294967296) = v + P k * (x * V (b.take (j + 1))) := by
  rw [show k + (j + 1) = (k + j) + 1 from by omega, V_mul_step hk h ht, V_take_nth, hy, P_add, Int.mul_add, Int.mul_add, Int.mul_assoc, Int.mul_left_comm x (P j) y, Int.add_assoc]
theorem mul_bd {x y : Int} (h0 : 0 ≤ x) (h1 : x ≤ 4294967295) (g0 : 0 ≤ y) (g1 : y ≤ 4294967295) : 0 ≤ x * y ∧ x * y ≤ 18446744065119617025 :=
  ⟨Int.mul_nonneg h0 g0, Int.le_trans (Int.mul_le_mul h1 g1 g0 (by omega)) (by decide)⟩
end Nt
