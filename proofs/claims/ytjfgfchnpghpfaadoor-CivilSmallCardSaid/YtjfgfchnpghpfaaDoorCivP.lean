/- Plain facts on the texts of dates and times: what they are read as, and their order. -/
import Derived.Test.YtjfgfchnpghpfaaDoorCivN
namespace Cv
open Go
theorem dlt (i j : Nat) (hi : i < 10) (hj : j < 10) : decide (UInt8.ofNat (48 + i) < UInt8.ofNat (48 + j)) = decide (i < j) := by
  rw [Bool.eq_iff_iff]
  simp only [decide_eq_true_eq]
  rw [UInt8.lt_iff_toNat_lt, dig_ofNat i hi, dig_ofNat j hj]
  omega
theorem deq (i j : Nat) (hi : i < 10) (hj : j < 10) : (UInt8.ofNat (48 + i) == UInt8.ofNat (48 + j)) = (i == j) := by
  rw [Bool.eq_iff_iff]
  simp only [beq_iff_eq]
  constructor
  · intro h
    have := congrArg UInt8.toNat h
    rw [dig_ofNat i hi, dig_ofNat j hj] at this
    omega
  · rintro rfl; rfl
theorem dgs_less (k : Nat) : ∀ (n m : Nat) (x y : List UInt8), n < 10 ^ k → m < 10 ^ k → Op.bytesLess (dgs k n ++ x) (dgs k m ++ y) = (decide (n < m) || (n == m && Op.bytesLess x y)) := by
  induction k with
  | zero =>
    intro n m x y hn hm
    have h1 : n = 0 := by simpa using hn
    have h2 : m = 0 := by simpa using hm
    subst h1; subst h2
    simp [dgs]
  | succ k ih =>
    intro n m x y hn hm
    rw [Nat.pow_succ] at hn hm
    rw [dgs, dgs, List.append_assoc, List.append_assoc, ih (n / 10) (m / 10) _ _ (by omega) (by omega)]
    simp only [List.cons_append, List.nil_append, Op.bytesLess]
    rw [dlt (n % 10) (m % 10) (by omega) (by omega), deq (n % 10) (m % 10) (by omega) (by omega)]
    rw [Bool.eq_iff_iff]
    simp only [Bool.or_eq_true, Bool.and_eq_true, decide_eq_true_eq, beq_iff_eq]
    constructor
    · rintro (h | ⟨h1, h2 | ⟨h2, h3⟩⟩)
      · left; omega
      · left; omega
      · right; exact ⟨by omega, h3⟩
    · rintro (h | ⟨h, h3⟩)
      · by_cases h' : n / 10 < m / 10
        · left; exact h'
        · right; exact ⟨by omega, .inl (by omega)⟩
      · subst h; right; exact ⟨rfl, .inr ⟨rfl, h3⟩⟩
theorem cons_less (c : UInt8) (x y : List UInt8) : Op.bytesLess (c :: x) (c :: y) = Op.bytesLess x y := by
  simp [Op.bytesLess]
theorem nil_less : Op.bytesLess ([] : List UInt8) [] = false := rfl
def lexB (y m k h n y' m' k' h' n' : Nat) : Bool := decide (y < y') || (y == y' && (decide (m < m') || (m == m' && (decide (k < k') || (k == k' && (decide (h < h') || (h == h' && decide (n < n'))))))))
theorem timeL_less (y m k h n y' m' k' h' n' : Nat) (hy : y < 10000) (hy' : y' < 10000) (hm : m < 100) (hm' : m' < 100) (hk : k < 100) (hk' : k' < 100) (hh : h < 100) (hh' : h' < 100) (hn : n < 100) (hn' : n' < 100) :
    Op.bytesLess (timeL y m k h n) (timeL y' m' k' h' n') = lexB y m k h n y' m' k' h' n' := by
  unfold timeL dateL lexB
  simp only [List.append_assoc, List.cons_append]
  rw [dgs_less 4 y y' _ _ (by omega) (by omega), cons_less, dgs_less 2 m m' _ _ (by omega) (by omega), cons_less, dgs_less 2 k k' _ _ (by omega) (by omega), cons_less, dgs_less 2 h h' _ _ (by omega) (by omega), cons_less]
  have e := dgs_less 2 n n' [] [] (by omega) (by omega)
  rw [List.append_nil, List.append_nil, nil_less, Bool.and_false, Bool.or_false] at e
  rw [e]
theorem date_less {d d' y y' k k' : Int} {m m' : Nat} (h : IsDate d y m k) (h' : IsDate d' y' m' k') (hd : d < d') : y < y' ∨ (y = y' ∧ (m < m' ∨ (m = m' ∧ k < k'))) := by
  rcases Int.lt_trichotomy y y' with c | c | c
  · exact .inl c
  · subst c
    right
    refine ⟨rfl, ?_⟩
    have e := h.day
    have e' := h'.day
    rcases Nat.lt_trichotomy m m' with c | c | c
    · exact .inl c
    · subst c
      right
      exact ⟨rfl, by omega⟩
    · exfalso
      have := cum_mono (leap y) h'.m0 h.m1 c
      have := cum_step (leap y) h'.m0 h'.m1
      have := h'.k1
      have := h.k0
      omega
  · exfalso
    have := ys_mono c
    have := h.year
    have := h'.year
    omega
theorem lex_time {a b : Int} {y m k h n y' m' k' h' n' : Nat} (ha : IsDate (a / 1440) y m k) (hb : IsDate (b / 1440) y' m' k') (h1 : (h : Int) = a % 1440 / 60) (h2 : (n : Int) = a % 1440 % 60) (h3 : (h' : Int) = b % 1440 / 60) (h4 : (n' : Int) = b % 1440 % 60) :
    lexB y m k h n y' m' k' h' n' = decide (a < b) := by
  rw [Bool.eq_iff_iff]
  unfold lexB
  simp only [Bool.or_eq_true, Bool.and_eq_true, decide_eq_true_eq, beq_iff_eq]
  rcases Int.lt_trichotomy (a / 1440) (b / 1440) with c | c | c
  · have := date_less ha hb c
    constructor
    · intro _; omega
    · intro _
      rcases this with g | ⟨g1, g | ⟨g2, g3⟩⟩
      · left; omega
      · right; exact ⟨by omega, .inl g⟩
      · right; exact ⟨by omega, .inr ⟨g2, .inl (by omega)⟩⟩
  · rw [c] at ha
    obtain ⟨e1, e2, e3⟩ := ha.uniq hb
    have e1' : y = y' := by omega
    have e3' : k = k' := by omega
    subst e1'; subst e2; subst e3'
    constructor
    · rintro (g | ⟨_, g | ⟨_, g | ⟨_, g | ⟨g1, g2⟩⟩⟩⟩) <;> omega
    · intro g
      right
      refine ⟨rfl, .inr ⟨rfl, .inr ⟨rfl, ?_⟩⟩⟩
      by_cases q : h < h'
      · exact .inl q
      · exact .inr ⟨by omega, by omega⟩
  · have := date_less hb ha c
    constructor
    · intro g
      exfalso
      rcases this with q | ⟨q1, q | ⟨q2, q3⟩⟩
      · rcases g with g | ⟨g, _⟩ <;> omega
      · rcases g with g | ⟨g, g | ⟨g2, _⟩⟩ <;> omega
      · rcases g with g | ⟨g, g | ⟨g2, g | ⟨g3, _⟩⟩⟩ <;> omega
    · intro g; omega

/-! ### What the texts are read as -/
theorem ext_list (l : List UInt8) (i j : Nat) : ((⟨l.toArray⟩ : ByteArray).extract i j).data.toList = (l.drop i).take (j - i) := by
  rw [ByteArray.data_extract, Array.toList_extract, List.extract_eq_take_drop]
theorem ext_bytes (l : List UInt8) (i j : Nat) : (⟨l.toArray⟩ : ByteArray).extract i j = ⟨((l.drop i).take (j - i)).toArray⟩ := by
  apply ByteArray.ext
  apply Array.toList_inj.1
  rw [ext_list]
theorem mid (a b c : List UInt8) (i j : Nat) (ha : a.length = i) (hb : b.length = j - i) : ((a ++ (b ++ c)).drop i).take (j - i) = b := by
  rw [List.drop_left' ha, List.take_left' hb]
end Cv
namespace Go.Proofs.YtjfgfchnpghpfaaDoor
open Go Go.RowKit
theorem at_list (a b : List UInt8) (c : UInt8) (i : Nat) (ha : a.length = i) : at' ⟨(a ++ c :: b).toArray⟩ i = (c.toNat : Int) := by
  subst ha
  rw [at_in (by show a.length < (a ++ c :: b).length; simp)]
  have : (⟨(a ++ c :: b).toArray⟩ : ByteArray)[a.length]'(by show a.length < (a ++ c :: b).length; simp) = c := by
    show (a ++ c :: b)[a.length]'(by simp) = c
    simp
  rw [this]
theorem cut_list (a b c : List UInt8) (i j : Nat) (ha : a.length = i) (hb : b.length = j - i) : cut ⟨(a ++ (b ++ c)).toArray⟩ i j = Cv.dval b := by
  unfold cut
  rw [Cv.ext_list, Cv.mid a b c i j ha hb]
theorem read_date {d : Int} {Y M K : Nat} (h : Cv.IsDate d Y M K) : rV ⟨(Cv.dateL Y M K).toArray⟩ = d ∧ rE ⟨(Cv.dateL Y M K).toArray⟩ = 0 := by
  have y1 := h.y1
  have m1 := h.m1
  have k1 : (K : Int) ≤ 31 := Int.le_trans h.k1 (Cv.md_bd _ h.m0 h.m1).2
  have l4 := Cv.dgs_len 4 Y
  have l2 := Cv.dgs_len 2 M
  have l2' := Cv.dgs_len 2 K
  have c1 : cut ⟨(Cv.dateL Y M K).toArray⟩ 0 4 = (Y : Int) := by
    have := cut_list [] (Cv.dgs 4 Y) (45 :: (Cv.dgs 2 M ++ 45 :: Cv.dgs 2 K)) 0 4 rfl l4
    rw [Cv.dgs_dval 4 Y (by omega)] at this
    exact this
  have c2 : cut ⟨(Cv.dateL Y M K).toArray⟩ 5 7 = (M : Int) := by
    have := cut_list (Cv.dgs 4 Y ++ [45]) (Cv.dgs 2 M) (45 :: Cv.dgs 2 K) 5 7 (by simp [l4]) l2
    rw [Cv.dgs_dval 2 M (by omega)] at this
    rw [show Cv.dateL Y M K = (Cv.dgs 4 Y ++ [45]) ++ (Cv.dgs 2 M ++ 45 :: Cv.dgs 2 K) from by simp [Cv.dateL]]
    exact this
  have c3 : cut ⟨(Cv.dateL Y M K).toArray⟩ 8 10 = (K : Int) := by
    have := cut_list (Cv.dgs 4 Y ++ 45 :: (Cv.dgs 2 M ++ [45])) (Cv.dgs 2 K) [] 8 10 (by simp [l4, l2]) l2'
    rw [Cv.dgs_dval 2 K (by omega)] at this
    rw [show Cv.dateL Y M K = (Cv.dgs 4 Y ++ 45 :: (Cv.dgs 2 M ++ [45])) ++ (Cv.dgs 2 K ++ []) from by simp [Cv.dateL]]
    exact this
  have a4 : at' ⟨(Cv.dateL Y M K).toArray⟩ 4 = 45 := at_list (Cv.dgs 4 Y) _ 45 4 l4
  have a7 : at' ⟨(Cv.dateL Y M K).toArray⟩ 7 = 45 := by
    have := at_list (Cv.dgs 4 Y ++ 45 :: Cv.dgs 2 M) (Cv.dgs 2 K) 45 7 (by simp [l4, l2])
    rw [show Cv.dateL Y M K = (Cv.dgs 4 Y ++ 45 :: Cv.dgs 2 M) ++ 45 :: Cv.dgs 2 K from by simp [Cv.dateL]]
    exact this
  have hok : rOk ⟨(Cv.dateL Y M K).toArray⟩ := ⟨Cv.dateL_len Y M K, a4, a7⟩
  have hv : Cv.Valid (Y : Int) (M : Int) (K : Int) := h.valid
  unfold rV rE readV readE Cv.dayV
  rw [if_pos hok, if_pos hok, c1, c2, c3, if_pos hv, if_pos hv]
  refine ⟨?_, rfl⟩
  rw [Int.toNat_natCast]
  exact h.day.symm
theorem read_time {a : Int} {Y M K h n : Nat} (hd : Cv.IsDate (a / 1440) Y M K) (h1 : (h : Int) = a % 1440 / 60) (h2 : (n : Int) = a % 1440 % 60) :
    (⟨(Cv.timeL Y M K h n).toArray⟩ : ByteArray).extract 0 10 = ⟨(Cv.dateL Y M K).toArray⟩ ∧ tV ⟨(Cv.timeL Y M K h n).toArray⟩ = a ∧ tE ⟨(Cv.timeL Y M K h n).toArray⟩ = 0 := by
  have l10 := Cv.dateL_len Y M K
  have l2 := Cv.dgs_len 2 h
  have l2' := Cv.dgs_len 2 n
  have e : (⟨(Cv.timeL Y M K h n).toArray⟩ : ByteArray).extract 0 10 = ⟨(Cv.dateL Y M K).toArray⟩ := by
    rw [Cv.ext_bytes]
    have := Cv.mid [] (Cv.dateL Y M K) (32 :: (Cv.dgs 2 h ++ 58 :: Cv.dgs 2 n)) 0 10 rfl l10
    rw [List.nil_append] at this
    unfold Cv.timeL
    rw [this]
  have c1 : cut ⟨(Cv.timeL Y M K h n).toArray⟩ 11 13 = (h : Int) := by
    have := cut_list (Cv.dateL Y M K ++ [32]) (Cv.dgs 2 h) (58 :: Cv.dgs 2 n) 11 13 (by simp [l10]) l2
    rw [Cv.dgs_dval 2 h (by omega)] at this
    rw [show Cv.timeL Y M K h n = (Cv.dateL Y M K ++ [32]) ++ (Cv.dgs 2 h ++ 58 :: Cv.dgs 2 n) from by simp [Cv.timeL]]
    exact this
  have c2 : cut ⟨(Cv.timeL Y M K h n).toArray⟩ 14 16 = (n : Int) := by
    have := cut_list (Cv.dateL Y M K ++ 32 :: (Cv.dgs 2 h ++ [58])) (Cv.dgs 2 n) [] 14 16 (by simp [l10, l2]) l2'
    rw [Cv.dgs_dval 2 n (by omega)] at this
    rw [show Cv.timeL Y M K h n = (Cv.dateL Y M K ++ 32 :: (Cv.dgs 2 h ++ [58])) ++ (Cv.dgs 2 n ++ []) from by simp [Cv.timeL]]
    exact this
  have a1 : at' ⟨(Cv.timeL Y M K h n).toArray⟩ 10 = 32 := at_list (Cv.dateL Y M K) _ 32 10 l10
  have a2 : at' ⟨(Cv.timeL Y M K h n).toArray⟩ 13 = 58 := by
    have := at_list (Cv.dateL Y M K ++ 32 :: Cv.dgs 2 h) (Cv.dgs 2 n) 58 13 (by simp [l10, l2])
    rw [show Cv.timeL Y M K h n = (Cv.dateL Y M K ++ 32 :: Cv.dgs 2 h) ++ 58 :: Cv.dgs 2 n from by simp [Cv.timeL]]
    exact this
  have ⟨r1, r2⟩ := read_date hd
  have hok : tOk ⟨(Cv.timeL Y M K h n).toArray⟩ := by
    refine ⟨Cv.timeL_len Y M K h n, a1, a2, ?_, ?_, ?_, ?_, ?_⟩
    · rw [e]; exact r2
    · rw [c1]; omega
    · rw [c1]; omega
    · rw [c2]; omega
    · rw [c2]; omega
  refine ⟨e, ?_, ?_⟩
  · unfold tV
    rw [if_pos hok, e, r1, c1, c2]
    omega
  · unfold tE
    rw [if_pos hok]
end Go.Proofs.YtjfgfchnpghpfaaDoor
