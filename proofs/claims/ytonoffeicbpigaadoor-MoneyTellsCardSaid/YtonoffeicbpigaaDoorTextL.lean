/- Plain laws of the texts of amounts: a text is read as its amount, and texts of one length are in the order of the amounts. No program in sight. -/
import Derived.Test.YtonoffeicbpigaaDoorTextM
import Derived.Tactics
namespace Mny
open Go

theorem ofNat_toNat (i : Nat) (h : i < 10) : (UInt8.ofNat (48 + i)).toNat = 48 + i := by
  rw [UInt8.toNat_ofNat']; exact Nat.mod_eq_of_lt (by omega)
theorem dlt (i j : Nat) (hi : i < 10) (hj : j < 10) : decide (UInt8.ofNat (48 + i) < UInt8.ofNat (48 + j)) = decide (i < j) := by
  rw [Bool.eq_iff_iff]
  simp only [decide_eq_true_eq, UInt8.lt_iff_toNat_lt, ofNat_toNat i hi, ofNat_toNat j hj]
  omega
theorem deq (i j : Nat) (hi : i < 10) (hj : j < 10) : (UInt8.ofNat (48 + i) == UInt8.ofNat (48 + j)) = (i == j) := by
  rw [Bool.eq_iff_iff]
  simp only [beq_iff_eq]
  constructor
  · intro h
    have := congrArg UInt8.toNat h
    rw [ofNat_toNat i hi, ofNat_toNat j hj] at this
    omega
  · intro h; rw [h]

theorem dec_big {u : Nat} (h : ¬ u < 10) : Lib.decDigits u = Lib.decDigits (u / 10) ++ [UInt8.ofNat (48 + u % 10)] := by
  rw [Lib.decDigits, dif_neg h]
theorem dec_pos (u : Nat) : 1 ≤ (Lib.decDigits u).length := by rw [Lib.decDigits_length]; exact Lib.nDigits_pos u
theorem dec_len_one {u : Nat} : (Lib.decDigits u).length = 1 ↔ u < 10 := by
  constructor
  · intro h
    by_cases hu : u < 10
    · exact hu
    · rw [dec_big hu] at h
      simp only [List.length_append, List.length_singleton] at h
      have := dec_pos (u / 10)
      omega
  · intro h; rw [Lib.decDigits_one h]; rfl

theorem dec_less (u : Nat) : ∀ (v : Nat) (x y : List UInt8), (Lib.decDigits u).length = (Lib.decDigits v).length →
    Op.bytesLess (Lib.decDigits u ++ x) (Lib.decDigits v ++ y) = (decide (u < v) || (u == v && Op.bytesLess x y)) := by
  induction u using Nat.strongRecOn with
  | _ u ih =>
    intro v x y hl
    by_cases hu : u < 10
    · have hv : v < 10 := dec_len_one.1 (by rw [← hl]; exact dec_len_one.2 hu)
      rw [Lib.decDigits_one hu, Lib.decDigits_one hv]
      simp only [List.cons_append, List.nil_append, Op.bytesLess]
      rw [dlt u v hu hv, deq u v hu hv]
    · have hv : ¬ v < 10 := fun h => hu (dec_len_one.1 (by rw [hl]; exact dec_len_one.2 h))
      rw [dec_big hu, dec_big hv] at hl ⊢
      simp only [List.length_append, List.length_singleton] at hl
      rw [List.append_assoc, List.append_assoc, ih (u / 10) (by omega) (v / 10) _ _ (by omega)]
      simp only [List.cons_append, List.nil_append, Op.bytesLess]
      rw [dlt (u % 10) (v % 10) (by omega) (by omega), deq (u % 10) (v % 10) (by omega) (by omega)]
      rw [Bool.eq_iff_iff]
      simp only [Bool.or_eq_true, Bool.and_eq_true, decide_eq_true_eq, beq_iff_eq]
      constructor
      · rintro (h | ⟨h1, h2 | ⟨h2, h3⟩⟩)
        · left; omega
        · left; omega
        · right; exact ⟨by omega, h3⟩
      · rintro (h | ⟨h, h3⟩)
        · by_cases h' : u / 10 < v / 10
          · left; exact h'
          · right; exact ⟨by omega, .inl (by omega)⟩
        · subst h; right; exact ⟨rfl, .inr ⟨rfl, h3⟩⟩

theorem dig2_less (p q : Nat) (hp : p < 100) (hq : q < 100) : Op.bytesLess (46 :: dig2 p) (46 :: dig2 q) = decide (p < q) := by
  simp only [dig2, Op.bytesLess]
  rw [dlt (p / 10) (q / 10) (by omega) (by omega), deq (p / 10) (q / 10) (by omega) (by omega), dlt (p % 10) (q % 10) (by omega) (by omega)]
  rw [Bool.eq_iff_iff]
  simp
  omega

theorem textB_pos (a : Int) (h : 0 ≤ a) : textB a = Lib.decDigits (a.natAbs / 100) ++ 46 :: dig2 (a.natAbs % 100) := by
  unfold textB
  rw [if_neg (by omega)]; rfl
theorem text_len (a : Int) : (textB a).length = (if a < 0 then 1 else 0) + (Lib.decDigits (a.natAbs / 100)).length + 3 := by
  unfold textB
  split <;> simp [dig2] <;> omega
/-- Of amounts that are not below 0 and have texts of one length the texts are in their order. -/
theorem text_less (a b : Int) (ha : 0 ≤ a) (hb : 0 ≤ b) (hl : (textB a).length = (textB b).length) : Op.bytesLess (textB a) (textB b) = decide (a < b) := by
  rw [text_len, text_len, if_neg (by omega), if_neg (by omega)] at hl
  rw [textB_pos a ha, textB_pos b hb, dec_less _ _ _ _ (by omega), dig2_less _ _ (by omega) (by omega)]
  rw [Bool.eq_iff_iff]
  simp only [Bool.or_eq_true, Bool.and_eq_true, decide_eq_true_eq, beq_iff_eq]
  omega

/-! ### A text is read as its amount -/
theorem rstep_dig (n : Int) (i : Nat) (h : i < 10) : rstep n (UInt8.ofNat (48 + i)) = n * 10 + i := by
  unfold rstep
  rw [ofNat_toNat i h, if_pos (by omega)]
  omega
theorem fold_dec (u : Nat) : (Lib.decDigits u).foldl rstep 0 = u := by
  induction u using Nat.strongRecOn with
  | _ u ih =>
    by_cases hu : u < 10
    · rw [Lib.decDigits_one hu]
      simp only [List.foldl_cons, List.foldl_nil]
      rw [rstep_dig 0 u hu]; omega
    · rw [dec_big hu, List.foldl_append, ih (u / 10) (by omega)]
      simp only [List.foldl_cons, List.foldl_nil]
      rw [rstep_dig _ _ (by omega)]
      omega
theorem rval_body (u p : Nat) (hp : p < 100) : (Lib.decDigits u ++ 46 :: dig2 p).foldl rstep 0 = (u : Int) * 100 + p := by
  rw [List.foldl_append, fold_dec]
  simp only [dig2, List.foldl_cons, List.foldl_nil]
  rw [show rstep (u : Int) 46 = u from by simp [rstep], rstep_dig _ _ (by omega), rstep_dig _ _ (by omega)]
  omega
theorem dec_head (u : Nat) : ∃ d l, Lib.decDigits u = d :: l ∧ 48 ≤ d.toNat ∧ d.toNat ≤ 57 := by
  induction u using Nat.strongRecOn with
  | _ u ih =>
    by_cases hu : u < 10
    · exact ⟨_, [], Lib.decDigits_one hu, by rw [ofNat_toNat u hu]; omega, by rw [ofNat_toNat u hu]; omega⟩
    · obtain ⟨d, l, e, h⟩ := ih (u / 10) (by omega)
      exact ⟨d, l ++ [UInt8.ofNat (48 + u % 10)], by rw [dec_big hu, e]; rfl, h⟩
theorem readV_text (a : Int) : readV (textB a) = a := by
  by_cases h : a < 0
  · have e : textB a = 45 :: (Lib.decDigits (a.natAbs / 100) ++ 46 :: dig2 (a.natAbs % 100)) := by simp [textB, h]
    unfold readV
    rw [e, if_pos (by rfl)]
    unfold rval
    simp only [List.foldl_cons]
    rw [show rstep 0 45 = 0 from by simp [rstep], rval_body _ _ (by omega)]
    omega
  · rw [textB_pos a (by omega)]
    obtain ⟨d, l, e, h1, h2⟩ := dec_head (a.natAbs / 100)
    unfold readV
    rw [if_neg]
    · unfold rval
      rw [rval_body _ _ (by omega)]
      omega
    · rw [e]
      simp only [List.cons_append, List.head?_cons, Option.some.injEq]
      intro hd
      rw [hd] at h1
      exact absurd h1 (by decide)
theorem dec_le (u k : Nat) (hk : 1 ≤ k) (h : u < 10 ^ k) : (Lib.decDigits u).length ≤ k := by
  induction k generalizing u with
  | zero => omega
  | succ k ih =>
    by_cases hu : u < 10
    · rw [Lib.decDigits_one hu]; simp
    · rw [dec_big hu, List.length_append]
      have hk1 : 1 ≤ k := by
        rcases Nat.eq_zero_or_pos k with h0 | h0
        · subst h0; simp at h; omega
        · exact h0
      have := ih (u / 10) hk1 (by rw [Nat.pow_succ] at h; omega)
      simp; omega
theorem text_short (a : Int) (h1 : -1000000000000000 ≤ a) (h2 : a ≤ 1000000000000000) : (textB a).length ≤ 18 := by
  rw [text_len]
  have := dec_le (a.natAbs / 100) 14 (by omega) (by have : (10 : Nat) ^ 14 = 100000000000000 := by decide
                                                    omega)
  split <;> omega
/-- A text of an amount is read as that amount. -/
theorem read_text (a : Int) (h1 : -1000000000000000 ≤ a) (h2 : a ≤ 1000000000000000) : a = readRV (textB a) ∧ (0 : Int) = readRE (textB a) :=
  read_good (readV_text a) (text_short a h1 h2) h1 h2 (by simp)
theorem text_inj (a b : Int) (h : textB a = textB b) : a = b := by
  have := congrArg readV h
  rwa [readV_text, readV_text] at this
theorem text_beq (a b : Int) : (textB a == textB b) = (a == b) := by
  rw [Bool.eq_iff_iff]
  simp only [beq_iff_eq]
  exact ⟨text_inj a b, fun h => by rw [h]⟩

end Mny
