/- Text, Read and Pow of the number package and of the reference return the same, for limbs that are right and for others; natTexts answers true. -/
import Derived.Test.YtfjdhclpcbgdbaaBitL
namespace Go.Proofs.Ytfjdhclpcbgdbaa
open Go Go.RowKit
def numV (a : List Int) : Nat := (Nt.V a).toNat
theorem right_limbs {a : List Int} (ho : Nt.Ok a) (h : rightB a = true) : Nt.limbs (numV a) = a := by
  have h0 := Nt.V_nonneg ho
  have hv : Nt.V a = (numV a : Int) := by unfold numV; omega
  refine Nt.limbs_of ⟨ho, ?_⟩ hv
  simp only [rightB, Bool.and_eq_true, Bool.or_eq_true, decide_eq_true_eq, bne_iff_ne, ne_eq] at h
  rcases h.2 with h2 | h2
  · exact .inl (List.eq_nil_of_length_eq_zero h2)
  · exact .inr h2
theorem in_of {w : World} {A : Option Addr} {ca : Nat} {a : List Int} (ho : Nt.Ok a) (h : rightB a = true) (hz : Kt.Ints w w.heap.size .u32 A a) (hc : a.length ≤ ca) (hA : A = none → ca = 0) : Kt.In w (.slice A a.length ca) (numV a) := by
  have e := right_limbs ho h
  exact ⟨A, ca, by rw [e], by rw [e]; exact hc, hA, by rw [e]; exact hz⟩
def textB (a : List Int) : ByteArray := if rightB a then ⟨(Lib.decDigits (numV a)).toArray⟩ else ⟨#[]⟩
def textC (a : List Int) : Int := if rightB a then 0 else 2
def readX (s : ByteArray) : Nat := if Nt.tokB s.data.toList then Nt.dv s.data.toList else 0
def readC (s : ByteArray) : Int := if Nt.tokB s.data.toList then 0 else 30
def powX (a : List Int) (k : Int) : Nat := if rightB a && decide (0 ≤ k) then numV a ^ k.toNat else 0
def powC (a : List Int) (k : Int) : Int := if rightB a && decide (0 ≤ k) then 0 else 2
section
variable {w : World} {A : Option Addr} {ca : Nat} {a : List Int}
theorem text_all (ho : Nt.Ok a) (hz : Kt.Ints w w.heap.size .u32 A a) (hc : a.length ≤ ca) (hA : A = none → ca = 0) (hn : a.length ≤ 40) :
    Calls Try.prog 18 #[.slice A a.length ca] w fun e w' => e = .returned (.tuple #[.string (textB a), .int .i64 (textC a)]) ∧ Below w.heap.size w w' := by
  unfold textB textC
  cases hr : rightB a
  · refine (text_no rfl hz hr (by omega)).mono ?_
    rintro e w' ⟨rfl, rfl⟩
    exact ⟨rfl, Below.refl _ _⟩
  · exact text_in (in_of ho hr hz hc hA) (by rw [right_limbs ho hr]; omega)
theorem rtext_all (ho : Nt.Ok a) (hz : Kt.Ints w w.heap.size .u32 A a) (hc : a.length ≤ ca) (hA : A = none → ca = 0) (hn : a.length ≤ 40) :
    Calls Try.prog 28 #[.slice A a.length ca] w fun e w' => e = .returned (.tuple #[.string (textB a), .int .i64 (textC a)]) ∧ Below w.heap.size w w' := by
  unfold textB textC
  cases hr : rightB a
  · refine (rtext_no rfl hz hr (by omega)).mono ?_
    rintro e w' ⟨rfl, rfl⟩
    exact ⟨rfl, Below.refl _ _⟩
  · exact rtext_in (in_of ho hr hz hc hA) (by rw [right_limbs ho hr]; omega)
theorem read_all (s : ByteArray) (w : World) (hs : s.size ≤ 400) :
    Calls Try.prog 19 #[.string s] w fun e w' => ∃ v, e = .returned (.tuple #[v, .int .i64 (readC s)]) ∧ Kt.Num w' w.heap.size v (readX s) ∧ Below w.heap.size w w' := by
  unfold readX readC
  cases ht : Nt.tokB s.data.toList
  · refine (read_bad s w (by unfold maxLen; omega) ht).mono ?_
    rintro e w' ⟨rfl, hb⟩
    exact ⟨_, rfl, Kt.Num.zero _ _, hb⟩
  · refine (read_ok s w (by omega) ht).mono ?_
    rintro e w' ⟨h, hb⟩
    rcases h with ⟨_, v, rfl, hv⟩ | ⟨h2, _⟩
    · exact ⟨v, rfl, hv, hb⟩
    · have h3 := Nt.dv_len s.data.toList (Nt.tok_all ht)
      rw [show s.data.toList.length = s.size from by rw [Array.length_toList]; rfl] at h3
      omega
theorem rread_all (s : ByteArray) (w : World) (hs : s.size ≤ 400) :
    Calls Try.prog 29 #[.string s] w fun e w' => ∃ v, e = .returned (.tuple #[v, .int .i64 (readC s)]) ∧ Kt.Num w' w.heap.size v (readX s) ∧ Below w.heap.size w w' := by
  unfold readX readC
  refine (rread_any s w hs).mono ?_
  rintro e w' ⟨h, hb⟩
  rcases h with ⟨ht, v, rfl, hv⟩ | ⟨ht, rfl⟩
  · rw [ht]; exact ⟨v, rfl, hv, hb⟩
  · rw [ht]; exact ⟨_, rfl, Kt.Num.zero _ _, hb⟩
theorem read_len (s : ByteArray) (hs : s.size ≤ 400) : (Nt.limbs (readX s)).length ≤ 1024 := by
  unfold readX
  cases ht : Nt.tokB s.data.toList
  · exact Nat.zero_le _
  · have h3 := Nt.dv_len s.data.toList (Nt.tok_all ht)
    rw [show s.data.toList.length = s.size from by rw [Array.length_toList]; rfl] at h3
    show (Nt.limbs (Nt.dv s.data.toList)).length ≤ 1024
    omega
theorem pow_len (ho : Nt.Ok a) (k : Int) (hn : a.length ≤ 3) (hk : k ≤ 30) : (Nt.limbs (powX a k)).length ≤ 1024 := by
  unfold powX
  split
  · rename_i h
    simp only [Bool.and_eq_true, decide_eq_true_eq] at h
    have h2 := Nt.len_pow (numV a) 3 k.toNat (by rw [right_limbs ho h.1]; exact hn)
    omega
  · exact Nat.zero_le _
theorem pow_bads {k : Int} (h : (rightB a && decide (0 ≤ k)) = false) : rightB a = false ∨ (rightB a = true ∧ k < 0) := by
  cases hr : rightB a
  · exact .inl rfl
  · rw [hr] at h
    simp at h
    exact .inr ⟨rfl, h⟩
theorem pow_all (ho : Nt.Ok a) (hz : Kt.Ints w w.heap.size .u32 A a) (hc : a.length ≤ ca) (hA : A = none → ca = 0) (hn : a.length ≤ 3) (k : Int) (hk : k ≤ 30) :
    Calls Try.prog 15 #[.slice A a.length ca, .int .i64 k] w fun e w' => ∃ v, e = .returned (.tuple #[v, .int .i64 (powC a k)]) ∧ Kt.Num w' w.heap.size v (powX a k) ∧ Below w.heap.size w w' := by
  have hl := pow_len ho k hn hk
  unfold powX at hl ⊢
  unfold powC
  cases hr : rightB a && decide (0 ≤ k)
  · refine (pow_no k rfl hz (pow_bads hr) (by omega)).mono ?_
    rintro e w' ⟨rfl, rfl⟩
    exact ⟨_, rfl, Kt.Num.zero _ _, Below.refl _ _⟩
  · simp only [hr, if_true] at hl
    simp only [Bool.and_eq_true, decide_eq_true_eq] at hr
    obtain ⟨m, rfl⟩ := Int.eq_ofNat_of_zero_le hr.2
    rw [Int.toNat_natCast] at hl
    refine (pow_in (k := m) (in_of ho hr.1 hz hc hA) (by rw [right_limbs ho hr.1]; omega) (by omega) hl).mono ?_
    rintro e w' ⟨⟨v, rfl, hv⟩, hb⟩
    exact ⟨v, rfl, hv, hb⟩
theorem rpow_all (ho : Nt.Ok a) (hz : Kt.Ints w w.heap.size .u32 A a) (hc : a.length ≤ ca) (hA : A = none → ca = 0) (hn : a.length ≤ 3) (k : Int) (hk : k ≤ 30) :
    Calls Try.prog 30 #[.slice A a.length ca, .int .i64 k] w fun e w' => ∃ v, e = .returned (.tuple #[v, .int .i64 (powC a k)]) ∧ Kt.Num w' w.heap.size v (powX a k) ∧ Below w.heap.size w w' := by
  unfold powX powC
  cases hr : rightB a && decide (0 ≤ k)
  · refine (rpow_no k rfl hz (pow_bads hr) (by omega)).mono ?_
    rintro e w' ⟨rfl, rfl⟩
    exact ⟨_, rfl, Kt.Num.zero _ _, Below.refl _ _⟩
  · simp only [Bool.and_eq_true, decide_eq_true_eq] at hr
    obtain ⟨m, rfl⟩ := Int.eq_ofNat_of_zero_le hr.2
    refine (rpow_in (k := m) (in_of ho hr.1 hz hc hA) (by rw [right_limbs ho hr.1]; exact hn) (by omega)).mono ?_
    rintro e w' ⟨v, rfl, hv, hb⟩
    exact ⟨v, rfl, hv, hb⟩
end
set_option maxRecDepth 100000 in
set_option maxHeartbeats 8000000 in
theorem texts_any (w : World) (A B : Option Addr) (ca cb : Nat) (a b : List Int) (s : ByteArray) (k : Int) (oa : Nt.Ok a) (ob : Nt.Ok b) (ha : Kt.Ints w w.heap.size .u32 A a) (hb : Kt.Ints w w.heap.size .u32 B b)
    (hca : a.length ≤ ca) (hcb : b.length ≤ cb) (hA : A = none → ca = 0) (hB : B = none → cb = 0) :
    Calls Try.prog 13 #[.slice A a.length ca, .string s, .slice B b.length cb, .int .i64 k] w fun e w' => e = .returned (.bool true) ∧ Below w.heap.size w w' := by
  by_cases h1 : a.length ≤ 40
  case neg =>
    clear hA hB
    go_enter Try.func13, Try.ntmps13
    go_wp2
    go_ret
    exact ⟨rfl, Below.refl _ _⟩
  by_cases h2 : s.size ≤ 400
  case neg =>
    clear hA hB
    go_enter Try.func13, Try.ntmps13
    go_wp2
    go_ret
    exact ⟨rfl, Below.refl _ _⟩
  by_cases h3 : b.length ≤ 3
  case neg =>
    clear hA hB
    go_enter Try.func13, Try.ntmps13
    go_wp2
    go_ret
    exact ⟨rfl, Below.refl _ _⟩
  by_cases h4 : k ≤ 30
  case neg =>
    clear hA hB
    go_enter Try.func13, Try.ntmps13
    go_wp2
    go_ret
    exact ⟨rfl, Below.refl _ _⟩
  have HT := Lib.hid (fun W (h : Kt.Ints W W.heap.size .u32 A a) => text_all (w := W) oa h hca hA h1)
  have HRT := Lib.hid (fun W (h : Kt.Ints W W.heap.size .u32 A a) => rtext_all (w := W) oa h hca hA h1)
  have HP := Lib.hid (fun W (h : Kt.Ints W W.heap.size .u32 B b) => pow_all (w := W) ob h hcb hB h3 k h4)
  have HRP := Lib.hid (fun W (h : Kt.Ints W W.heap.size .u32 B b) => rpow_all (w := W) ob h hcb hB h3 k h4)
  have HPL := Lib.hid (pow_len ob k h3 h4)
  have HRL := Lib.hid (read_len s h2)
  clear hA hB
  go_enter Try.func13, Try.ntmps13
  go_wp2_with fail
  refine (HT.out _ ha).mono ?_
  rintro e w1 ⟨rfl, b1⟩
  go_wp2_with fail
  refine (HRT.out _ (ha.on b1)).mono ?_
  rintro e w2 ⟨rfl, b2⟩
  replace b2 := Kt.next b1 b2
  go_wp2_with fail
  refine (read_all s _ h2).mono ?_
  rintro e w3 ⟨x1, rfl, n1, b3⟩
  have c3 := Kt.next b2 b3
  go_wp2_with fail
  refine (rread_all s _ h2).mono ?_
  rintro e w4 ⟨x2, rfl, n2, b4⟩
  have c4 := Kt.next c3 b4
  go_wp2_with fail
  refine (HP.out _ (hb.on c4)).mono ?_
  rintro e w5 ⟨x3, rfl, n3, b5⟩
  have c5 := Kt.next c4 b5
  go_wp2_with fail
  refine (HRP.out _ (hb.on c5)).mono ?_
  rintro e w6 ⟨x4, rfl, n4, b6⟩
  have c6 := Kt.next c5 b6
  go_wp2_with fail
  refine (same_yes (n1.on b4 |>.on b5 |>.on b6) (n2.on b5 |>.on b6) HRL.out rfl).mono ?_
  rintro e w7 ⟨rfl, b7⟩
  have c7 := Kt.next c6 b7
  go_wp2_with fail
  refine (same_yes (n3.on b6 |>.on b7) (n4.on b7) HPL.out rfl).mono ?_
  rintro e w8 ⟨rfl, b8⟩
  go_wp2_with fail
  go_ret
  exact ⟨rfl, Kt.next c7 b8⟩
end Go.Proofs.Ytfjdhclpcbgdbaa
