/- Plain facts on the texts of amounts. No program in sight. -/
import Derived.Lib.ItoaMem
import Derived.Lib.ItoaLen
namespace Mny
open Go

theorem bapp (a b : List UInt8) : (⟨a.toArray⟩ : ByteArray) ++ ⟨b.toArray⟩ = ⟨(a ++ b).toArray⟩ := by
  apply ByteArray.ext
  simp

def dig2 (n : Nat) : List UInt8 := [UInt8.ofNat (48 + n / 10), UInt8.ofNat (48 + n % 10)]
/-- The text of an amount. -/
def textB (c : Int) : List UInt8 := (if c < 0 then [45] else []) ++ (Lib.decDigits (c.natAbs / 100) ++ 46 :: dig2 (c.natAbs % 100))

theorem rest_small (u : Nat) (h : u < 100) (hl : (Lib.decDigits u).length < 2) : 48 :: Lib.decDigits u = dig2 u := by
  by_cases h1 : u < 10
  · rw [Lib.decDigits_one h1, dig2, show u / 10 = 0 from by omega, show u % 10 = u from by omega]; rfl
  · rw [Lib.decDigits_two h1 h] at hl; simp at hl
theorem rest_large (u : Nat) (h : u < 100) (hl : 2 ≤ (Lib.decDigits u).length) : Lib.decDigits u = dig2 u := by
  by_cases h1 : u < 10
  · rw [Lib.decDigits_one h1] at hl; simp at hl
  · rw [Lib.decDigits_two h1 h]; rfl

theorem text_a (c : Int) (h : 0 ≤ c) (hl : ((Lib.itoa (c % 100)).length : Int) < 2) :
    (⟨#[]⟩ ++ ⟨(Lib.itoa (c / 100)).toArray⟩ ++ ⟨#[46]⟩ ++ (⟨#[48]⟩ ++ ⟨(Lib.itoa (c % 100)).toArray⟩) : ByteArray) = ⟨(textB c).toArray⟩ := by
  obtain ⟨u, rfl⟩ := Int.eq_ofNat_of_zero_le h
  have e1 : (u : Int) % 100 = ((u % 100 : Nat) : Int) := by omega
  have e2 : (u : Int) / 100 = ((u / 100 : Nat) : Int) := by omega
  rw [e1, Lib.itoa_nonneg] at hl ⊢
  rw [e2, Lib.itoa_nonneg]
  have hr := rest_small (u % 100) (by omega) (by omega)
  rw [show (⟨#[]⟩ : ByteArray) = ⟨([] : List UInt8).toArray⟩ from rfl, show (⟨#[46]⟩ : ByteArray) = ⟨([46] : List UInt8).toArray⟩ from rfl, show (⟨#[48]⟩ : ByteArray) = ⟨([48] : List UInt8).toArray⟩ from rfl]
  rw [bapp, bapp, bapp, bapp]
  rw [show ([48] : List UInt8) ++ Lib.decDigits (u % 100) = 48 :: Lib.decDigits (u % 100) from rfl, hr]
  simp [textB, show ¬ ((u : Int) < 0) from by omega]
theorem text_b (c : Int) (h : 0 ≤ c) (hl : 2 ≤ ((Lib.itoa (c % 100)).length : Int)) :
    (⟨#[]⟩ ++ ⟨(Lib.itoa (c / 100)).toArray⟩ ++ ⟨#[46]⟩ ++ ⟨(Lib.itoa (c % 100)).toArray⟩ : ByteArray) = ⟨(textB c).toArray⟩ := by
  obtain ⟨u, rfl⟩ := Int.eq_ofNat_of_zero_le h
  have e1 : (u : Int) % 100 = ((u % 100 : Nat) : Int) := by omega
  have e2 : (u : Int) / 100 = ((u / 100 : Nat) : Int) := by omega
  rw [e1, Lib.itoa_nonneg] at hl ⊢
  rw [e2, Lib.itoa_nonneg]
  have hr := rest_large (u % 100) (by omega) (by omega)
  rw [show (⟨#[]⟩ : ByteArray) = ⟨([] : List UInt8).toArray⟩ from rfl, show (⟨#[46]⟩ : ByteArray) = ⟨([46] : List UInt8).toArray⟩ from rfl]
  rw [bapp, bapp, bapp, hr]
  simp [textB, show ¬ ((u : Int) < 0) from by omega]
theorem text_c (c : Int) (h : 0 < c) (hl : ((Lib.itoa (c % 100)).length : Int) < 2) :
    (⟨#[45]⟩ ++ ⟨(Lib.itoa (c / 100)).toArray⟩ ++ ⟨#[46]⟩ ++ (⟨#[48]⟩ ++ ⟨(Lib.itoa (c % 100)).toArray⟩) : ByteArray) = ⟨(textB (-c)).toArray⟩ := by
  obtain ⟨u, rfl⟩ := Int.eq_ofNat_of_zero_le (show 0 ≤ c by omega)
  have e1 : (u : Int) % 100 = ((u % 100 : Nat) : Int) := by omega
  have e2 : (u : Int) / 100 = ((u / 100 : Nat) : Int) := by omega
  rw [e1, Lib.itoa_nonneg] at hl ⊢
  rw [e2, Lib.itoa_nonneg]
  have hr := rest_small (u % 100) (by omega) (by omega)
  rw [show (⟨#[45]⟩ : ByteArray) = ⟨([45] : List UInt8).toArray⟩ from rfl, show (⟨#[46]⟩ : ByteArray) = ⟨([46] : List UInt8).toArray⟩ from rfl, show (⟨#[48]⟩ : ByteArray) = ⟨([48] : List UInt8).toArray⟩ from rfl]
  rw [bapp, bapp, bapp, bapp]
  rw [show ([48] : List UInt8) ++ Lib.decDigits (u % 100) = 48 :: Lib.decDigits (u % 100) from rfl, hr]
  simp [textB, show 0 < u from by omega]
theorem text_d (c : Int) (h : 0 < c) (hl : 2 ≤ ((Lib.itoa (c % 100)).length : Int)) :
    (⟨#[45]⟩ ++ ⟨(Lib.itoa (c / 100)).toArray⟩ ++ ⟨#[46]⟩ ++ ⟨(Lib.itoa (c % 100)).toArray⟩ : ByteArray) = ⟨(textB (-c)).toArray⟩ := by
  obtain ⟨u, rfl⟩ := Int.eq_ofNat_of_zero_le (show 0 ≤ c by omega)
  have e1 : (u : Int) % 100 = ((u % 100 : Nat) : Int) := by omega
  have e2 : (u : Int) / 100 = ((u / 100 : Nat) : Int) := by omega
  rw [e1, Lib.itoa_nonneg] at hl ⊢
  rw [e2, Lib.itoa_nonneg]
  have hr := rest_large (u % 100) (by omega) (by omega)
  rw [show (⟨#[45]⟩ : ByteArray) = ⟨([45] : List UInt8).toArray⟩ from rfl, show (⟨#[46]⟩ : ByteArray) = ⟨([46] : List UInt8).toArray⟩ from rfl]
  rw [bapp, bapp, bapp, hr]
  simp [textB, show 0 < u from by omega]

/-! ### Reading -/
def rstep (n : Int) (b : UInt8) : Int := if 48 ≤ b.toNat ∧ b.toNat ≤ 57 then n * 10 + ((b.toNat : Int) - 48) else n
def rval (l : List UInt8) : Int := l.foldl rstep 0
def readV (l : List UInt8) : Int := if l.head? = some 45 then -rval l else rval l
theorem rval_snoc (l : List UInt8) (b : UInt8) : rval (l ++ [b]) = rstep (rval l) b := by simp [rval, List.foldl_append]
theorem rstep_bd (n : Int) (b : UInt8) (m : Int) (h0 : 0 ≤ n) (h1 : n < m) : 0 ≤ rstep n b ∧ rstep n b < m * 10 := by
  unfold rstep; split <;> omega
theorem foldl_bd (l : List UInt8) : ∀ (n : Int) (m : Int), 0 ≤ n → n < m → 0 ≤ l.foldl rstep n ∧ l.foldl rstep n < m * 10 ^ l.length := by
  induction l with
  | nil => intro n m h0 h1; simp; omega
  | cons b l ih =>
    intro n m h0 h1
    have hs := rstep_bd n b m h0 h1
    have := ih (rstep n b) (m * 10) hs.1 hs.2
    simp only [List.foldl_cons, List.length_cons]
    rw [Int.pow_succ, Int.mul_comm (10 ^ l.length) 10, ← Int.mul_assoc]
    exact this
theorem rval_bd (l : List UInt8) : 0 ≤ rval l ∧ rval l < 10 ^ l.length := by
  have := foldl_bd l 0 1 (by omega) (by omega)
  rw [Int.one_mul] at this
  exact this
theorem pow_mono (a b : Nat) (h : a ≤ b) : (10 : Int) ^ a ≤ 10 ^ b := by
  have : (10 : Nat) ^ a ≤ 10 ^ b := Nat.pow_le_pow_right (by omega) h
  exact_mod_cast this
theorem rval_small (l : List UInt8) (h : l.length ≤ 18) : 0 ≤ rval l ∧ rval l < 1000000000000000000 := by
  have h1 := rval_bd l
  have h2 := pow_mono l.length 18 h
  have h3 : (10 : Int) ^ 18 = 1000000000000000000 := by decide
  omega
theorem rval_smaller (l : List UInt8) (h : l.length ≤ 17) : 0 ≤ rval l ∧ rval l < 100000000000000000 := by
  have h1 := rval_bd l
  have h2 := pow_mono l.length 17 h
  have h3 : (10 : Int) ^ 17 = 100000000000000000 := by decide
  omega
def inRange (c : Int) : Bool := decide (-1000000000000000 ≤ c ∧ c ≤ 1000000000000000)
def readOk (l : List UInt8) : Bool := decide (l.length ≤ 18) && inRange (readV l) && (textB (readV l) == l)

def readRV (l : List UInt8) : Int := if readOk l then readV l else 0
def readRE (l : List UInt8) : Int := if readOk l then 0 else 20
theorem read_good {l : List UInt8} {v : Int} (hv : readV l = v) (hl : l.length ≤ 18) (h1 : -1000000000000000 ≤ v) (h2 : v ≤ 1000000000000000) (h : (textB v == l) = true) : v = readRV l ∧ (0 : Int) = readRE l := by
  have e : readOk l = true := by simp only [readOk, inRange, hv, h, hl, decide_true, Bool.true_and, Bool.and_true, decide_eq_true_eq]; exact ⟨h1, h2⟩
  simp [readRV, readRE, e, hv]
theorem read_bad1 {l : List UInt8} {v : Int} (hv : readV l = v) (h : (textB v == l) = false) : (0 : Int) = readRV l ∧ (20 : Int) = readRE l := by
  have e : readOk l = false := by simp [readOk, hv, h]
  simp [readRV, readRE, e]
theorem read_bad2 {l : List UInt8} {v : Int} (hv : readV l = v) (h : v < -1000000000000000 ∨ 1000000000000000 < v) : (0 : Int) = readRV l ∧ (20 : Int) = readRE l := by
  have e : readOk l = false := by
    have : inRange v = false := by simp only [inRange, decide_eq_false_iff_not]; omega
    simp [readOk, hv, this]
  simp [readRV, readRE, e]
theorem read_bad3 {l : List UInt8} (h : 18 < l.length) : (0 : Int) = readRV l ∧ (20 : Int) = readRE l := by
  have e : readOk l = false := by
    have : ¬ l.length ≤ 18 := by omega
    simp [readOk, this]
  simp [readRV, readRE, e]
theorem head_bytes (s : ByteArray) (h : 0 < s.size) : s.data.toList.head? = some s[0] := by
  have : s.data.toList[0]? = some s[0] := List.getElem?_eq_getElem (by simpa using h)
  rwa [List.head?_eq_getElem?]
theorem readV_minus (s : ByteArray) (h : 0 < s.size) (hm : s[0].toNat = 45) : readV s.data.toList = -rval s.data.toList := by
  unfold readV
  rw [head_bytes s h, if_pos]
  have : s[0] = 45 := by apply UInt8.toNat_inj.1; rw [hm]; rfl
  rw [this]
theorem readV_plus (s : ByteArray) (h : 0 < s.size) (hm : ¬ s[0].toNat = 45) : readV s.data.toList = rval s.data.toList := by
  unfold readV
  rw [head_bytes s h, if_neg]
  intro e
  injection e with e
  exact hm (by rw [e]; rfl)
theorem readV_empty (s : ByteArray) (h : ¬ 0 < s.size) : readV s.data.toList = rval s.data.toList := by
  have : s.data.toList = [] := List.eq_nil_of_length_eq_zero (by simpa using Nat.eq_zero_of_not_pos h)
  simp [readV, this]

end Mny
