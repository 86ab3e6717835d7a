/- Plain facts on the reference's reading of amounts: a '-' anywhere instead of at the head. -/
import Derived.Test.YtonoffeicbpigaaDoorTextL
namespace Mny
open Go Go.RowKit

def refV (l : List UInt8) : Int := if (45 : UInt8) ∈ l then -rval l else rval l
theorem dec_no (u : Nat) : (45 : UInt8) ∉ Lib.decDigits u := by
  induction u using Nat.strongRecOn with
  | ind u ih =>
    by_cases h : u < 10
    · rw [Lib.decDigits_one h]
      intro hm
      have e : (45 : UInt8) = UInt8.ofNat (48 + u) := by simpa using hm
      have := congrArg UInt8.toNat e
      rw [ofNat_toNat u h] at this
      simp at this
      omega
    · rw [dec_big h]
      intro hm
      rcases List.mem_append.1 hm with hm | hm
      · exact ih (u / 10) (by omega) hm
      · have e : (45 : UInt8) = UInt8.ofNat (48 + u % 10) := by simpa using hm
        have := congrArg UInt8.toNat e
        rw [ofNat_toNat (u % 10) (by omega)] at this
        simp at this
        omega
theorem dig_no (i : Nat) (h : i < 10) : (45 : UInt8) ≠ UInt8.ofNat (48 + i) := fun e => by
  have := congrArg UInt8.toNat e
  rw [ofNat_toNat i h] at this
  simp at this
  omega
theorem text_no_minus (c : Int) (h : 0 ≤ c) : (45 : UInt8) ∉ textB c := by
  rw [textB_pos c h]
  intro hm
  rcases List.mem_append.1 hm with hm | hm
  · exact dec_no _ hm
  · rcases List.mem_cons.1 hm with hm | hm
    · exact absurd hm (by decide)
    · rw [dig2] at hm
      rcases List.mem_cons.1 hm with hm | hm
      · exact dig_no (c.natAbs % 100 / 10) (by omega) hm
      · exact dig_no (c.natAbs % 100 % 10) (by omega) (by simpa using hm)
theorem text_minus (c : Int) (h : c < 0) : (textB c).head? = some 45 := by
  rw [textB, if_pos h]; rfl
theorem head_mem {l : List UInt8} (h : l.head? = some 45) : (45 : UInt8) ∈ l := by
  cases l with
  | nil => simp at h
  | cons a t => simp at h; simp [h]
/-- Where one of both is the text's amount they are the same. -/
theorem ref_same (l : List UInt8) (h : textB (refV l) = l ∨ textB (readV l) = l) : readV l = refV l := by
  have hb := (rval_bd l).1
  by_cases hh : l.head? = some 45
  · rw [readV, if_pos hh, refV, if_pos (head_mem hh)]
  · have hr : readV l = rval l := by rw [readV, if_neg hh]
    by_cases hm : (45 : UInt8) ∈ l
    · exfalso
      have hf : refV l = -rval l := by rw [refV, if_pos hm]
      rcases h with h | h
      · by_cases h0 : refV l < 0
        · exact hh (h ▸ text_minus _ h0)
        · exact text_no_minus (refV l) (by omega) (by rw [h]; exact hm)
      · exact text_no_minus (readV l) (by omega) (by rw [h]; exact hm)
    · rw [hr, refV, if_neg hm]
end Mny
