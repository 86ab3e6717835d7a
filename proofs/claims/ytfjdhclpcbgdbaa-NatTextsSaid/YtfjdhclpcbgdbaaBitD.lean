/- Plain facts on bits: lengths, limbs out of bits, one bit of a division. No program in sight. -/
import Derived.Test.YtfjdhclpcbgdbaaBitC
import Derived.Test.YtfjdhclpcbgdbaaNatL
namespace Bt
open Go
theorem len_limb (x : Nat) : (limbs x).length ≤ 32 * (Nt.limbs x).length := by
  rw [len_le_iff, ← P_limb]; exact Nt.limbs_lt x
theorem len_of {x k : Nat} (h : (Nt.limbs x).length ≤ k) : (limbs x).length ≤ 32 * k := Nat.le_trans (len_limb x) (by omega)
theorem limb_of_len {x k : Nat} (h : (limbs x).length ≤ 32 * k) : (Nt.limbs x).length ≤ k := by
  rw [Nt.len_le_iff, P_limb]; exact (len_le_iff x (32 * k)).1 h
theorem len_mul (x y k m : Nat) (hx : (limbs x).length ≤ k) (hy : (limbs y).length ≤ m) : (limbs (x * y)).length ≤ k + m := by
  rw [len_le_iff] at *
  rw [P_add, Int.natCast_mul]
  by_cases h : y = 0
  · subst h; rw [Int.natCast_zero, Int.mul_zero]; exact Int.mul_pos (P_pos k) (P_pos m)
  · have h1 : (x : Int) * y < P k * y := Int.mul_lt_mul_of_pos_right hx (by omega)
    have h2 : P k * y ≤ P k * P m := Int.mul_le_mul_of_nonneg_left (by omega) (Int.le_of_lt (P_pos k))
    omega
/-- The value of the first bits of a number. -/
theorem take_nat (x k : Nat) : ∃ t : Nat, V ((limbs x).take k) = (t : Int) ∧ t ≤ x := by
  have h0 := V_nonneg ((limbs_Ok x).take k)
  have e := V_limbs x
  rcases Nat.le_total k (limbs x).length with h | h
  · have h1 := V_split (limbs x) k h
    have h2 := V_nonneg ((limbs_Ok x).drop k)
    have h3 : 0 ≤ P k * V ((limbs x).drop k) := Int.mul_nonneg (Int.le_of_lt (P_pos k)) h2
    exact ⟨(V ((limbs x).take k)).toNat, by omega, by omega⟩
  · rw [V_take_all _ _ h, e]; exact ⟨x, rfl, Nat.le_refl _⟩
/-- One bit of a product. -/
theorem mul_bit {x y t k : Nat} (h : V ((limbs x).take k) = (t : Int)) (h1 : Ls.nth (limbs x) k = 1) : ∃ u : Nat, V ((limbs x).take (k + 1)) = (u : Int) ∧ V (limbs (t * y)) + P k * V (limbs y) = ((u * y : Nat) : Int) := by
  obtain ⟨u, hu, _⟩ := take_nat x (k + 1)
  refine ⟨u, hu, ?_⟩
  rw [V_take_nth, h, h1, Int.mul_one] at hu
  rw [V_limbs, V_limbs, Int.natCast_mul, Int.natCast_mul, ← hu, Int.add_mul]
theorem mul_bit0 {x t k : Nat} (h : V ((limbs x).take k) = (t : Int)) (h1 : Ls.nth (limbs x) k = 0) : V ((limbs x).take (k + 1)) = (t : Int) := by
  rw [V_take_nth, h, h1, Int.mul_zero, Int.add_zero]

/-! ### Limbs out of bits -/
theorem P_pow (k : Nat) : P k = ((2 ^ k : Nat) : Int) := by
  induction k with
  | zero => rfl
  | succ k ih => rw [P_succ, ih, Nat.pow_succ]; omega
theorem P_32 (k : Nat) (h : k ≤ 32) : P k ≤ 4294967296 := P_mono h
/-- What the highest limb may be. -/
theorem limb_room {L : List Int} {j r : Nat} (ho : Nt.Ok L) (hl : L.length = j + 1) (hv : Nt.V L < P (32 * j + r)) : Ls.nth L j < P r := by
  have h1 := Nt.V_split L j (by omega)
  have h2 := Nt.V_drop L j (by omega)
  have h3 : L.drop (j + 1) = [] := List.drop_eq_nil_of_le (by omega)
  rw [h3] at h2
  have h4 := Nt.V_nonneg (ho.take j)
  rw [P_add, ← P_limb, h1, h2] at hv
  simp only [Nt.V, Int.mul_zero, Int.add_zero] at hv
  have h5 : Nt.P j * Ls.nth L j < Nt.P j * P r := by omega
  exact Int.lt_of_mul_lt_mul_left h5 (Int.le_of_lt (Nt.P_pos j))
/-- A bit that is set: bit 32 j + r of the number. -/
theorem limb_set {L : List Int} {j r : Nat} {A : Int} (ho : Nt.Ok L) (hl : L.length = j + 1) (hr : r < 32) (hA : Nt.V L = A) (hA2 : A < P (32 * j + r)) :
    0 ≤ Ls.nth L j ∧ Ls.nth L j + P r ≤ 4294967295 ∧ Nt.Ok (L.set j (Ls.nth L j + P r)) ∧ Nt.V (L.set j (Ls.nth L j + P r)) = A + P (32 * j + r) := by
  have h1 := limb_room ho hl (hA ▸ hA2)
  have h0 := ho.nth_any j
  have h2 : P (r + 1) ≤ 4294967296 := P_32 _ (by omega)
  rw [P_succ] at h2
  have h3 := P_pos r
  refine ⟨h0.1, by omega, ho.set _ (by omega) (by omega), ?_⟩
  rw [Nt.V_set _ _ _ (by omega), hA, P_add, ← P_limb]
  congr 2
  omega
theorem Nt_zero_snoc (L : List Int) : Nt.V (L ++ [0]) = Nt.V L := by rw [Nt.V_snoc, Int.mul_zero, Int.add_zero]
/-- All bits are in. -/
theorem limbs_end {L : List Int} {x n : Nat} (hn : (limbs x).length = n) (ho : Nt.Ok L) (hl : L.length = (n + 31) / 32) (hv : Nt.V L = V ((limbs x).take n)) : Nt.limbs x = L := by
  rw [V_take_all _ _ (by omega), V_limbs] at hv
  refine Nt.limbs_of (Nt.R_of_low ho fun h0 => ?_) hv
  rw [hv, P_limb]
  have hx : x ≠ 0 := fun e => by subst e; rw [limbs_zero] at hn; simp at hn; omega
  have h1 := limbs_low hx
  have h2 : P (32 * (L.length - 1)) ≤ P ((limbs x).length - 1) := P_mono (by omega)
  omega
theorem V_take_lt (x k : Nat) : V ((limbs x).take k) < P k := by
  have h := V_lt ((limbs_Ok x).take k)
  rw [List.length_take] at h
  have := P_mono (Nat.min_le_left k (limbs x).length)
  omega

/-! ### Differences and quotients -/
theorem sub_step {s a b : List Int} {i : Nat} {c p q : Int} (hs : s.length = i) (h : V s - P i * c = V (a.take i) - V (b.take i)) (hp : Ls.nth a i = p) (hq : Ls.nth b i = q) :
    V (s ++ [(2 + p - q - c) % 2]) - P (i + 1) * (1 - (2 + p - q - c) / 2) = V (a.take (i + 1)) - V (b.take (i + 1)) := by
  have h1 := V_sub_step hs h (x := p) (y := q) (t := p - q - c) rfl
  rw [V_take_nth, V_take_nth, hp, hq]
  rw [show (2 + p - q - c) % 2 = (p - q - c) % 2 from by omega, show 1 - (2 + p - q - c) / 2 = -((p - q - c) / 2) from by omega]
  exact h1
theorem sub_all {x y : Nat} {s : List Int} {c : Int} (hs : s.length = (limbs x).length) (ho : Ok s) (hc : 0 ≤ c) (hle : y ≤ x) (h : V s - P (limbs x).length * c = V ((limbs x).take (limbs x).length) - V ((limbs y).take (limbs x).length)) : V s = ((x - y : Nat) : Int) := by
  have h1 := sub_end (a := limbs x) (b := limbs y) hs ho (Nat.le_refl _) (len_mono hle) hc (by rw [V_limbs, V_limbs]; omega) h
  rw [h1, V_limbs, V_limbs]
  omega
/-- One bit of a quotient: with the rest r so far and the bit d the new rest is 2 r + d. -/
theorem div_not {a q : List Int} {k : Nat} {y r d : Int} (hk : k < a.length) (hq : q.length = a.length) (h : V (q.drop (k + 1)) * y + r = V (a.drop (k + 1))) (hd : Ls.nth a k = d) (h0 : Ls.nth q k = 0) :
    V (q.drop k) * y + (2 * r + d) = V (a.drop k) := by
  rw [V_drop a k hk, V_drop q k (by omega), hd, h0, ← h, Int.zero_add, Int.mul_add, Int.mul_assoc]
  omega
theorem drop_set {l : List Int} {k : Nat} (x : Int) : (l.set k x).drop (k + 1) = l.drop (k + 1) := by
  apply List.ext_getElem?
  intro i
  rw [List.getElem?_drop, List.getElem?_drop, List.getElem?_set_ne (by omega)]
theorem div_one {a q : List Int} {k : Nat} {y r d : Int} (hk : k < a.length) (hq : q.length = a.length) (h : V (q.drop (k + 1)) * y + r = V (a.drop (k + 1))) (hd : Ls.nth a k = d) :
    V ((q.set k 1).drop k) * y + (2 * r + d - y) = V (a.drop k) := by
  rw [V_drop a k hk, V_drop (q.set k 1) k (by rw [List.length_set]; omega), hd, nth_set_eq _ (by omega), drop_set, ← h, Int.add_mul, Int.mul_add, Int.mul_assoc]
  omega
theorem div_all {q : List Int} {x y r : Nat} (ho : Ok q) (h : V q * (y : Int) + (r : Int) = (x : Int)) (hr : r < y) : V q = ((x / y : Nat) : Int) ∧ r = x % y := by
  have h0 := V_nonneg ho
  obtain ⟨t, ht⟩ : ∃ t : Nat, V q = (t : Int) := ⟨(V q).toNat, by omega⟩
  rw [ht] at h ⊢
  have h1 : t * y + r = x := by have : ((t * y + r : Nat) : Int) = (x : Int) := by rw [Int.natCast_add, Int.natCast_mul]; exact h
                                omega
  have h2 : x / y = t := by rw [← h1, Nat.mul_comm, Nat.mul_add_div (by omega), Nat.div_eq_of_lt hr, Nat.add_zero]
  have h3 : x % y = r := by rw [← h1, Nat.mul_comm, Nat.mul_add_mod, Nat.mod_eq_of_lt hr]
  exact ⟨by rw [h2], h3.symm⟩
/-- A bit ahead of a number. -/
theorem V_ahead (d : Int) (r : Nat) : V (d :: limbs r) = d + 2 * (r : Int) := by rw [V, V_limbs]
theorem nib : ∀ r : Fin 10, Ls.nth (limbs r.val) 0 + 2 * Ls.nth (limbs r.val) 1 + 4 * Ls.nth (limbs r.val) 2 + 8 * Ls.nth (limbs r.val) 3 = (r.val : Int) := by decide
theorem V_drop_le (x k : Nat) : V ((limbs x).drop k) ≤ (x : Int) := by
  have e := V_limbs x
  rcases Nat.le_total k (limbs x).length with h | h
  · have h1 := V_split (limbs x) k h
    have h2 := V_nonneg ((limbs_Ok x).take k)
    have h3 := V_nonneg ((limbs_Ok x).drop k)
    have h4 : 1 * V ((limbs x).drop k) ≤ P k * V ((limbs x).drop k) := Int.mul_le_mul_of_nonneg_right (by have := P_pos k; omega) h3
    omega
  · rw [List.drop_of_length_le h]; simp only [V]; omega
end Bt
