/- Plain facts on the order of decimal texts. No program in sight. -/
import Derived.Test.YtfjdhclpcbgdbaaNatM
namespace Nt
open Go
theorem ofNat_toNat (i : Nat) (h : i < 10) : (UInt8.ofNat (48 + i)).toNat = 48 + i := by
  rw [UInt8.toNat_ofNat']; exact Nat.mod_eq_of_lt (by omega)
theorem dlt (i j : Nat) (hi : i < 10) (hj : j < 10) : decide (UInt8.ofNat (48 + i) < UInt8.ofNat (48 + j)) = decide (i < j) := by
  rw [Bool.eq_iff_iff]
  simp only [decide_eq_true_eq, UInt8.lt_iff_toNat_lt, ofNat_toNat i hi, ofNat_toNat j hj]
  omega
theorem deq (i j : Nat) (hi : i < 10) (hj : j < 10) : (UInt8.ofNat (48 + i) == UInt8.ofNat (48 + j)) = (i == j) := by
  rw [Bool.eq_iff_iff]
  simp only [beq_iff_eq]
  constructor
  · intro h
    have := congrArg UInt8.toNat h
    rw [ofNat_toNat i hi, ofNat_toNat j hj] at this
    omega
  · intro h; rw [h]
theorem dec_pos (u : Nat) : 1 ≤ (Lib.decDigits u).length := List.length_pos_iff.2 (dec_ne u)
theorem dec_len_one {u : Nat} : (Lib.decDigits u).length = 1 ↔ u < 10 := by
  constructor
  · intro h
    by_cases hu : u < 10
    · exact hu
    · rw [dec_step (by omega)] at h
      simp only [List.length_append, List.length_singleton] at h
      have := dec_pos (u / 10)
      omega
  · intro h; rw [Lib.decDigits_one h]; rfl
theorem dec_less (u : Nat) : ∀ (v : Nat) (x y : List UInt8), (Lib.decDigits u).length = (Lib.decDigits v).length →
    Op.bytesLess (Lib.decDigits u ++ x) (Lib.decDigits v ++ y) = (decide (u < v) || (u == v && Op.bytesLess x y)) := by
  induction u using Nat.strongRecOn with
  | _ u ih =>
    intro v x y hl
    by_cases hu : u < 10
    · have hv : v < 10 := dec_len_one.1 (by rw [← hl]; exact dec_len_one.2 hu)
      rw [Lib.decDigits_one hu, Lib.decDigits_one hv]
      simp only [List.cons_append, List.nil_append, Op.bytesLess]
      rw [dlt u v hu hv, deq u v hu hv]
    · have hv : ¬ v < 10 := fun h => hu (dec_len_one.1 (by rw [hl]; exact dec_len_one.2 h))
      rw [dec_step (u := u) (by omega), dec_step (u := v) (by omega)] at hl ⊢
      simp only [List.length_append, List.length_singleton] at hl
      rw [List.append_assoc, List.append_assoc, ih (u / 10) (by omega) (v / 10) _ _ (by omega)]
      simp only [List.cons_append, List.nil_append, Op.bytesLess]
      rw [dlt (u % 10) (v % 10) (by omega) (by omega), deq (u % 10) (v % 10) (by omega) (by omega)]
      rw [Bool.eq_iff_iff]
      simp only [Bool.or_eq_true, Bool.and_eq_true, decide_eq_true_eq, beq_iff_eq]
      constructor
      · rintro (h | ⟨h1, h2 | ⟨h2, h3⟩⟩)
        · left; omega
        · left; omega
        · right; exact ⟨by omega, h3⟩
      · rintro (h | ⟨h, h3⟩)
        · by_cases h' : u / 10 < v / 10
          · left; exact h'
          · right; exact ⟨by omega, .inl (by omega)⟩
        · subst h; right; exact ⟨rfl, .inr ⟨rfl, h3⟩⟩
theorem dec_order (u v : Nat) (hl : (Lib.decDigits u).length = (Lib.decDigits v).length) : Op.bytesLess (Lib.decDigits u) (Lib.decDigits v) = decide (u < v) := by
  have h := dec_less u v [] [] hl
  rw [List.append_nil, List.append_nil] at h
  rw [h]
  simp [Op.bytesLess]
theorem dec_lt (u : Nat) : u < 10 ^ (Lib.decDigits u).length := by
  have := dv_lt (Lib.decDigits u) (dec_dig u)
  rwa [dv_dec] at this
theorem dec_le (u k : Nat) (hk : 1 ≤ k) (h : u < 10 ^ k) : (Lib.decDigits u).length ≤ k := by
  induction k generalizing u with
  | zero => omega
  | succ k ih =>
    by_cases hu : u < 10
    · rw [Lib.decDigits_one hu]; simp
    · rw [dec_step (by omega), List.length_append]
      have hk1 : 1 ≤ k := by
        rcases Nat.eq_zero_or_pos k with h0 | h0
        · subst h0; simp at h; omega
        · exact h0
      have := ih (u / 10) hk1 (by rw [Nat.pow_succ] at h; omega)
      simp; omega
theorem dec_longer {u v : Nat} (h : (Lib.decDigits u).length < (Lib.decDigits v).length) : u < v := by
  rcases Nat.lt_or_ge u v with h1 | h1
  · exact h1
  · have := dec_le v (Lib.decDigits u).length (dec_pos u) (Nat.lt_of_le_of_lt h1 (dec_lt u))
    omega
theorem dec_ten {u : Nat} (h : u ≠ 0) : Lib.decDigits (u * 10) = Lib.decDigits u ++ [48] := by
  rw [dec_step (by omega), show u * 10 / 10 = u from by omega, show u * 10 % 10 = 0 from by omega]
  rfl
theorem dec_short {x m : Nat} (h : (limbs x).length ≤ m) (k b : Nat) (hk : 32 * m ≤ 93 * k + 32) (hb : 28 * k + 10 ≤ b) : (Lib.decDigits x).length ≤ b := by
  refine dec_le x b (by omega) ?_
  have h1 := (len_le_iff x m).1 h
  rw [P_pow] at h1
  have h2 : x < 2 ^ (32 * m) := Int.ofNat_lt.1 h1
  exact Nat.lt_of_lt_of_le h2 (Nat.le_trans (Nat.pow_le_pow_right (by omega) hk) (Nat.le_of_lt (big_text _ b k rfl hb)))
theorem ten_bytes {x : Nat} {S : List UInt8} (h : Lib.decDigits x = S ++ [48]) : (⟨(Lib.decDigits x).toArray⟩ : ByteArray) = (⟨S.toArray⟩ : ByteArray) ++ ⟨#[48]⟩ := by
  rw [h]
  apply ByteArray.ext
  apply Array.ext'
  rw [ByteArray.data_append, Array.toList_append]
end Nt
namespace Go.Proofs.Ytfjdhclpcbgdbaa
open Go Go.RowKit
theorem text_bytes {w : World} {l1 : Nat} {u : Value} {x : Nat} {B : ByteArray} (hx : Kt.Num w l1 u x) (h1 : (Nt.limbs x).length ≤ 1024) (hb : (⟨(Lib.decDigits x).toArray⟩ : ByteArray) = B) :
    Calls Try.prog 18 #[u] w fun e w' => e = .returned (.tuple #[.string B, .int .i64 0]) ∧ Below w.heap.size w w' := by
  subst hb; exact text_num hx h1
theorem read_val {w : World} {S : List UInt8} {x : Nat} (hS : Lib.decDigits x = S) (hl : S.length ≤ 9865) (h1 : (Nt.limbs x).length ≤ 1024) :
    Calls Try.prog 19 #[.string ⟨S.toArray⟩] w (GotP w x) := by
  subst hS
  refine (read_ok ⟨(Lib.decDigits x).toArray⟩ w (by show (Lib.decDigits x).toArray.size ≤ 9865; simpa using hl) (by show Nt.tokB (Lib.decDigits x).toArray.toList = true; simpa using Nt.tok_dec x)).mono fun e w' h => ?_
  have e1 : Nt.dv (⟨(Lib.decDigits x).toArray⟩ : ByteArray).data.toList = x := by show Nt.dv (Lib.decDigits x).toArray.toList = x; simpa using Nt.dv_dec x
  rw [e1] at h
  refine ⟨?_, h.2⟩
  rcases h.1 with h3 | h3
  · exact h3.2
  · omega
end Go.Proofs.Ytfjdhclpcbgdbaa
