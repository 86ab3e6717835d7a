/- What Of, Uint and Cmp of the number package return, and what the statements' own helpers do: their walks. -/
import Derived.Test.YtfjdhclpcbgdbaaNatC
import Derived.Test.YtfjdhclpcbgdbaaNatD
namespace Go.Proofs.Ytfjdhclpcbgdbaa
open Go Go.RowKit

/-! ### Of -/
theorem of_any (n : Int) (x : Nat) (w : World) (h : n = (x : Int)) (hx : n ≤ 18446744073709551615) :
    Calls Try.prog 20 #[.int .u64 n] w fun e w' => (∃ v, e = .returned v ∧ Kt.Num w' w.heap.size v x) ∧ Below w.heap.size w w' := by
  have h0 : 0 ≤ n := by omega
  have H := Lib.hid h
  clear h
  have hblk : Kt.IBlk (w.alloc (.cells #[.int .u32 (n % 4294967296), .int .u32 (n / 4294967296)] 33)) w.heap.size 33 .u32 [n % 4294967296, n / 4294967296] := Kt.Blk.new _ _ _
  have HO : Hid (Nt.Ok [n % 4294967296, n / 4294967296]) := Lib.hid (Nt.Ok.cons (by omega) (by omega) (Nt.Ok.one (by omega) (by omega)))
  have HV : Hid (Nt.V [n % 4294967296, n / 4294967296] = (x : Int)) := Lib.hid (by have := H.out; simp only [Nt.V]; omega)
  have HB := Lib.hid hblk
  clear hblk
  go_enter Try.func20, Try.ntmps20
  go_wp2_with fail
  refine (trimmed_any _ 2 2 [n % 4294967296, n / 4294967296] _ rfl HB.out.ints (Nat.le_refl _) (by omega)).mono ?_
  rintro e w' ⟨t, rfl, ht, hvt, hlt, rfl⟩
  have HVT := Lib.hid hvt
  have HLT := Lib.hid hlt
  clear hvt hlt
  go_wp2
  go_ret
  exact ⟨⟨_, rfl, Kt.Num.take HB.out (Nat.le_refl _) HO.out HV.out ht HVT.out HLT.out ht⟩, (Below.refl _ _).alloc (Nat.le_refl _) _⟩

/-! ### Numbers and their slices -/
theorem num_right {x : Nat} (h : (Nt.limbs x).length ≤ 1024) : rightB (Nt.limbs x) = true := by
  have hr := (Nt.limbs_R x).2
  simp only [rightB, Bool.and_eq_true, Bool.or_eq_true, decide_eq_true_eq, bne_iff_ne, ne_eq]
  refine ⟨h, ?_⟩
  rcases hr with hr | hr
  · left; rw [hr]; rfl
  · exact .inr hr
section
variable {w : World} {l1 l2 : Nat} {u v : Value} {x y : Nat}
theorem num_ok (h : Kt.Num w l1 u x) : ∃ A c, u = .slice A (Nt.limbs x).length c ∧ (Nt.limbs x).length ≤ c ∧ Kt.Ints w w.heap.size .u32 A (Nt.limbs x) := by
  obtain ⟨A, c, e, hc, _, hi⟩ := h.ints
  exact ⟨A, c, e, hc, hi⟩
theorem add_num (hx : Kt.Num w l1 u x) (hy : Kt.Num w l2 v y) (h1 : (Nt.limbs x).length ≤ 1024) (h2 : (Nt.limbs y).length ≤ 1024) :
    Calls Try.prog 22 #[u, v] w (Got w (x + y)) := by
  obtain ⟨A, ca, rfl, _, ha⟩ := num_ok hx
  obtain ⟨B, cb, rfl, _, hb⟩ := num_ok hy
  have hv : Nt.V (Nt.limbs x) + Nt.V (Nt.limbs y) = ((x + y : Nat) : Int) := by rw [Nt.V_limbs, Nt.V_limbs]; omega
  by_cases hl : (Nt.limbs y).length ≤ (Nt.limbs x).length
  · exact add_ge A B _ _ ca cb _ _ (x + y) w rfl rfl ha hb (num_right h1) (num_right h2) (Nt.limbs_Ok x) (Nt.limbs_Ok y) hl h1 hv
  · exact add_lt A B _ _ ca cb _ _ (x + y) w rfl rfl ha hb (num_right h1) (num_right h2) (Nt.limbs_Ok x) (Nt.limbs_Ok y) (by omega) h2 hv
theorem mul_num (hx : Kt.Num w l1 u x) (hy : Kt.Num w l2 v y) (h1 : (Nt.limbs x).length ≤ 1024) (h2 : (Nt.limbs y).length ≤ 1024) :
    Calls Try.prog 16 #[u, v] w (Got w (x * y)) := by
  obtain ⟨A, ca, rfl, _, ha⟩ := num_ok hx
  obtain ⟨B, cb, rfl, _, hb⟩ := num_ok hy
  exact mul_any A B _ _ ca cb _ _ (x * y) w rfl rfl ha hb (num_right h1) (num_right h2) (Nt.limbs_Ok x) (Nt.limbs_Ok y) (by rw [Nt.V_limbs, Nt.V_limbs]; simp)
theorem sub_num (hx : Kt.Num w l1 u x) (hy : Kt.Num w l2 v y) (h1 : (Nt.limbs x).length ≤ 1024) (h2 : (Nt.limbs y).length ≤ 1024) (h : y ≤ x) :
    Calls Try.prog 23 #[u, v] w fun e w' => (∃ r, e = .returned (.tuple #[r, .int .i64 0]) ∧ Kt.Num w' w.heap.size r (x - y)) ∧ Below w.heap.size w w' := by
  obtain ⟨A, ca, rfl, _, ha⟩ := num_ok hx
  obtain ⟨B, cb, rfl, _, hb⟩ := num_ok hy
  exact sub_fits A B _ _ ca cb _ _ x y w rfl rfl ha hb (num_right h1) (num_right h2) rfl rfl h
theorem sub_num_less (hx : Kt.Num w l1 u x) (hy : Kt.Num w l2 v y) (h1 : (Nt.limbs x).length ≤ 1024) (h2 : (Nt.limbs y).length ≤ 1024) (h : x < y) :
    Calls Try.prog 23 #[u, v] w fun e w' => e = .returned (.tuple #[.slice none 0 0, .int .i64 2]) ∧ Below w.heap.size w w' := by
  obtain ⟨A, ca, rfl, _, ha⟩ := num_ok hx
  obtain ⟨B, cb, rfl, _, hb⟩ := num_ok hy
  exact sub_less A B _ _ ca cb _ _ x y w rfl rfl ha hb (num_right h1) (num_right h2) rfl rfl h
end

/-! ### Cmp -/
theorem cmp_any (A B : Option Addr) (n m ca cb : Nat) (a b : List Int) (x y : Nat) (w : World) (hla : a.length = n) (hlb : b.length = m) (ha : Kt.Ints w w.heap.size .u32 A a) (hb : Kt.Ints w w.heap.size .u32 B b)
    (hra : rightB a = true) (hrb : rightB b = true) (hx : a = Nt.limbs x) (hy : b = Nt.limbs y) :
    Calls Try.prog 26 #[.slice A n ca, .slice B m cb] w fun e w' => e = .returned (.tuple #[.int .i64 (Nt.cmpV x y), .int .i64 0]) ∧ Below w.heap.size w w' := by
  have hn := len_right hra
  have hm := len_right hrb
  rw [hla] at hn
  rw [hlb] at hm
  have HLA := Lib.hid hla
  have HLB := Lib.hid hlb
  have HRA := Lib.hid hra
  have HRB := Lib.hid hrb
  have HX := Lib.hid hx
  have HY := Lib.hid hy
  clear hla hlb hra hrb hx hy
  go_enter Try.func26, Try.ntmps26
  go_wp2_with fail
  refine (right_any A n ca a _ HLA.out ha (by omega)).mono ?_
  rw [HRA.out]
  rintro e w' ⟨rfl, rfl⟩
  go_wp2_with fail
  refine (right_any B m cb b _ HLB.out hb (by omega)).mono ?_
  rw [HRB.out]
  rintro e w' ⟨rfl, rfl⟩
  go_wp2_with fail
  refine (compared_any A B n m ca cb a b x y _ HLA.out HLB.out ha hb (by omega) HX.out HY.out).mono ?_
  rintro e w' ⟨rfl, nd, rfl⟩
  go_wp2
  go_ret2
  exact ⟨rfl, Kt.below_of_drewN _ _⟩
theorem cmp_num {w : World} {l1 l2 : Nat} {u v : Value} {x y : Nat} (hx : Kt.Num w l1 u x) (hy : Kt.Num w l2 v y) (h1 : (Nt.limbs x).length ≤ 1024) (h2 : (Nt.limbs y).length ≤ 1024) :
    Calls Try.prog 26 #[u, v] w fun e w' => e = .returned (.tuple #[.int .i64 (Nt.cmpV x y), .int .i64 0]) ∧ Below w.heap.size w w' := by
  obtain ⟨A, ca, rfl, _, ha⟩ := num_ok hx
  obtain ⟨B, cb, rfl, _, hb⟩ := num_ok hy
  exact cmp_any A B _ _ ca cb _ _ x y w rfl rfl ha hb (num_right h1) (num_right h2) rfl rfl

/-! ### SameLimbs, same -/
def sameB (a b : List Int) : Bool := a == b
theorem same_no {a b : List Int} (h : a.length ≠ b.length) : sameB a b = false := by
  simp only [sameB, beq_eq_false_iff_ne, ne_eq]
  intro e; exact h (by rw [e])
theorem same_at {a b : List Int} {k : Nat} (h : Ls.nth a k ≠ Ls.nth b k) : sameB a b = false := by
  simp only [sameB, beq_eq_false_iff_ne, ne_eq]
  intro e; exact h (by rw [e])
theorem same_all {a b : List Int} (hl : a.length = b.length) (h : ∀ j, j < a.length → Ls.nth a j = Ls.nth b j) : sameB a b = true := by
  simp only [sameB, beq_iff_eq]
  exact Ls.ext_nth hl h
theorem samel_any (A B : Option Addr) (n m ca cb : Nat) (a b : List Int) (w : World) (hn : a.length = n) (hm : b.length = m) (ha : Kt.Ints w w.heap.size .u32 A a) (hb : Kt.Ints w w.heap.size .u32 B b) (hla : n ≤ 4611686018427387904) :
    Calls Try.prog 35 #[.slice A n ca, .slice B m cb] w fun e w' => e = .returned (.bool (sameB a b)) ∧ Below w.heap.size w w' := by
  have HN := Lib.hid hn
  have HM := Lib.hid hm
  clear hn hm
  by_cases hl : n = m
  · have hne : ((n : Int) != (m : Int)) = false := by simp [hl]
    subst hl
    go_enter Try.func35, Try.ntmps35
    go_wp2
    go_loopw [5] (fun i wr => ∃ k : Nat, k ≤ n ∧ i = .int .i64 k ∧ Hid (∀ j, j < k → Ls.nth a j = Ls.nth b j) ∧ ∃ q, wr = w.drewN q) (fun i _ => n - (intOf i).toNat)
    case atStart => exact ⟨0, Nat.zero_le _, rfl, Lib.hid (fun j hj => absurd hj (by omega)), 0, rfl⟩
    case round =>
      obtain ⟨k, hk, rfl, heq, q, rfl⟩ := hrel
      by_cases hlt : k < n
      · obtain ⟨b1, o1, rfl, hb1, hc1⟩ := ha (by have := HN.out; omega)
        obtain ⟨b2, o2, rfl, hb2, hc2⟩ := hb (by have := HM.out; omega)
        have hcell1 := hc1 k (by have := HN.out; omega)
        have hcell2 := hc2 k (by have := HM.out; omega)
        clear hc1 hc2
        by_cases hx : Ls.nth a k = Ls.nth b k
        · have hxb : (Ls.nth a k != Ls.nth b k) = false := by simp [hx]
          have HX := Lib.hid hx
          clear hx
          go_wp2
          go_quiet (fail)
          go_wp2
          go_roundw
          case rel => exact ⟨k + 1, by omega, by go_num, Lib.hid (fun j hj => by
            by_cases e : j = k
            · subst e; exact HX.out
            · exact heq.out j (by omega)), _, by first | rfl | exact World.drewN_drewN _ _ _⟩
          case measure => simp [intOf]; omega
        · have hxb : (Ls.nth a k != Ls.nth b k) = true := by simp [hx]
          have HS := Lib.hid (same_at hx)
          clear hx
          go_wp2
          go_quiet (fail)
          go_wp2
          go_ret
          exact ⟨Kt.ret_bool HS.out.symm, by first | exact Kt.below_of_drewN _ _ | exact Kt.below_drewN (Kt.below_of_drewN _ _) _⟩
      · go_wp2
        go_ret
        exact ⟨Kt.ret_bool (same_all (by rw [HN.out, HM.out]) (fun j hj => heq.out j (by have := HN.out; omega))).symm, Kt.below_of_drewN _ _⟩
  · have hne : ((n : Int) != (m : Int)) = true := by simp; omega
    have HS := Lib.hid (same_no (a := a) (b := b) (by rw [HN.out, HM.out]; exact hl))
    clear hl
    go_enter Try.func35, Try.ntmps35
    go_wp2
    go_ret
    exact ⟨Kt.ret_bool HS.out.symm, Below.refl _ _⟩
theorem same_lists (A B : Option Addr) (n m ca cb : Nat) (a b : List Int) (w : World) (hn : a.length = n) (hm : b.length = m) (ha : Kt.Ints w w.heap.size .u32 A a) (hb : Kt.Ints w w.heap.size .u32 B b) (hla : n ≤ 4611686018427387904) :
    Calls Try.prog 17 #[.slice A n ca, .slice B m cb] w fun e w' => e = .returned (.bool (sameB a b)) ∧ Below w.heap.size w w' := by
  go_enter Try.func17, Try.ntmps17
  go_wp2_with fail
  refine (samel_any A B n m ca cb a b _ hn hm ha hb hla).mono ?_
  rintro e w' ⟨rfl, hbel⟩
  go_wp2
  go_ret
  exact ⟨rfl, hbel⟩
theorem same_limbs (x y : Nat) : sameB (Nt.limbs x) (Nt.limbs y) = decide (x = y) := by
  rw [Bool.eq_iff_iff]
  simp only [sameB, beq_iff_eq, decide_eq_true_eq]
  exact ⟨Nt.limbs_inj, fun e => by rw [e]⟩
theorem same_num {w : World} {l1 l2 : Nat} {u v : Value} {x y : Nat} (hx : Kt.Num w l1 u x) (hy : Kt.Num w l2 v y) (h1 : (Nt.limbs x).length ≤ 4611686018427387904) :
    Calls Try.prog 17 #[u, v] w fun e w' => e = .returned (.bool (decide (x = y))) ∧ Below w.heap.size w w' := by
  obtain ⟨A, ca, rfl, _, ha⟩ := num_ok hx
  obtain ⟨B, cb, rfl, _, hb⟩ := num_ok hy
  rw [← same_limbs]
  exact same_lists A B _ _ ca cb _ _ w rfl rfl ha hb h1

/-! ### CopyLimbs, number -/
theorem copyl_any (A : Option Addr) (n cp : Nat) (l : List Int) (w : World) (hl : l.length = n) (hz : Kt.Ints w w.heap.size .u32 A l) (hA : A = none → n = 0 ∧ cp = 0) (hn : n * 4 ≤ 140737488351232) :
    Calls Try.prog 31 #[.slice A n cp] w fun e w' => ∃ v, e = .returned v ∧ Kt.Row w' w.heap.size .u32 v l ∧ Below w.heap.size w w' := by
  subst hl
  obtain ⟨i0, hi0, hz0, hz1, hz2⟩ := info_parts Try.infoU32
  cases A with
  | none =>
    obtain ⟨h0, rfl⟩ := hA rfl
    have e : l = [] := List.eq_nil_of_length_eq_zero h0
    subst e
    go_enter Try.func31, Try.ntmps31
    go_wp2_with (at_builtin; refine wpList_append_own_none rfl (.tmp 4) (.tmp 5) 22 rfl w.heap.size 33 i0 1 Try.underlying22 hi0 _ 0 [] rfl (World.ownsRow_nil _ _ _ _) rfl ?_)
    go_wp2
    go_ret
    exact ⟨_, rfl, Kt.Row.nil _ _ _, Below.refl _ _⟩
  | some a =>
    have hnews := ints_news hz
    go_enter Try.func31, Try.ntmps31
    go_wp2_with (at_builtin; refine wpList_append_own _ rfl (.tmp 4) (.tmp 5) 22 rfl w.heap.size 33 i0 (.int .u32 0) 1 4 Try.underlying22 hi0 hz0 hz1 hz2 rfl (by decide) _ 0 [] rfl (World.ownsRow_nil _ _ _ _) a l.length cp (l.map (Value.int .u32)) rfl (by simp) hnews (ints_oneCell .u32 l) (by unfold maxLen; omega) (by omega) (Nat.le_refl _) ?_)
    intro v' w1 hown hgrow _
    try simp only [Nat.zero_add, List.nil_append] at hown
    have hr : Kt.Row w1 w.heap.size .u32 v' l := Kt.Row.of_own (T := 33) (show Kt.Own w1 w.heap.size 33 .u32 v' l from hown)
    have hb : Below w.heap.size w w1 := (Below.refl _ _).grown hgrow (Nat.le_refl _) (fun g hg => by simp [Value.ownBlock] at hg)
    clear hown hgrow hnews
    go_wp2
    go_ret
    exact ⟨v', rfl, hr, hb⟩
theorem ints_take {w : World} {B : Nat} {k : IntKind} {A : Option Addr} {l : List Int} (h : Kt.Ints w B k A l) (m : Nat) (hm : m ≤ l.length) : Kt.Ints w B k A (l.take m) := fun hp => by
  rw [List.length_take] at hp
  obtain ⟨b, off, e, hb, hc⟩ := h (by omega)
  exact ⟨b, off, e, hb, fun j hj => by rw [List.length_take] at hj; rw [hc j (by omega), Ls.nth_take _ _ _ (by omega)]⟩
set_option maxHeartbeats 400000 in
theorem number_at (A : Option Addr) (n cp : Nat) (l : List Int) (q r : Nat) (w : World) (hl : l.length = n) (hz : Kt.Ints w w.heap.size .u32 A l) (hA : A = none → cp = 0) (hcp : n ≤ cp) (hok : Nt.Ok l) (hn : n * 4 ≤ 140737488351232) (hq : q ≤ 1024) (hr : r ≤ n) (hrq : r ≤ q) (hmin : (n ≤ q ∧ n = r) ∨ (q < n ∧ q = r)) :
    Calls Try.prog 14 #[.slice A n cp, .int .i64 q] w fun e w' => ∃ v x, e = .returned v ∧ Kt.Num w' w.heap.size v x ∧ (Nt.limbs x).length ≤ q ∧ Below w.heap.size w w' := by
  have hk : Nt.Ok (l.take r) := hok.take r
  have hv := Nt.V_nonneg hk
  obtain ⟨x, HX⟩ : ∃ x : Nat, Hid (Nt.V (l.take r) = (x : Int)) := ⟨(Nt.V (l.take r)).toNat, Lib.hid (by omega)⟩
  have HL : Hid ((l.take r).length = r) := Lib.hid (by rw [List.length_take]; omega)
  have hz2 := ints_take hz r (by omega)
  have HO := Lib.hid hk
  have HA := Lib.hid hA
  clear hv hk hz hl hA hok
  generalize l.take r = l at HX HL HO hz2
  rcases hmin with ⟨h1, h2⟩ | ⟨h1, h2⟩
  all_goals
    have H2 := Lib.hid h2
    clear h2
    go_enter Try.func14, Try.ntmps14
    go_wp2_with fail
    go_loop [0] (fun v => ∃ k : Nat, k ≤ r ∧ v = .slice A k cp ∧ Hid (Nt.V (l.take k) = Nt.V l)) (fun v => match v with | .slice _ k _ => k | _ => 0)
    case atStart => exact ⟨r, Nat.le_refl _, by rw [H2.out], Lib.hid (by rw [Nt.V_take_all _ _ (by rw [HL.out]; exact Nat.le_refl _)])⟩
    case round =>
      obtain ⟨k, hk, rfl, hv⟩ := hrel
      have hfin : (k = 0 ∨ Ls.nth l (k - 1) ≠ 0) → Calls Try.prog 31 #[.slice A k cp] w fun e w' => ∃ v, e = .returned v ∧ Kt.Num w' w.heap.size v x ∧ (Nt.limbs x).length ≤ q ∧ Below w.heap.size w w' := fun h0 => by
        have e := Nt.limbs_take HO.out HX.out (by have := HL.out; omega) hv.out h0
        have hlen : (Nt.limbs x).length = k := by rw [e, List.length_take]; have := HL.out; omega
        refine (copyl_any A k cp (l.take k) w (by rw [← e]; exact hlen) (ints_take hz2 k (by have := HL.out; omega)) (fun h => by have := HA.out h; omega) (by omega)).mono ?_
        rintro e1 w1 ⟨v, rfl, hrow, hb⟩
        exact ⟨v, rfl, by rw [← e] at hrow; exact hrow, by omega, hb⟩
      have HF := Lib.hid hfin
      clear hfin
      by_cases h0 : 0 < k
      · obtain ⟨b, off, rfl, hb, hc⟩ := hz2 (by have := HL.out; omega)
        have hcell := hc (k - 1) (by have := HL.out; omega)
        clear hc
        obtain ⟨y, hy⟩ : ∃ y, Hid (Ls.nth l (k - 1) = y) := ⟨_, Lib.hid rfl⟩
        rw [hy.out] at hcell
        cases hxb : (y == 0)
        · have HXX : Hid (Ls.nth l (k - 1) ≠ 0) := Lib.hid (by rw [hy.out]; simpa using hxb)
          go_wp2_with fail
          refine (HF.out (.inr HXX.out)).mono ?_
          rintro e w1 ⟨v, rfl, hnum, hlx, hbel⟩
          go_wp2
          go_ret
          exact ⟨v, x, rfl, hnum, hlx, hbel⟩
        · have HXX : Hid (Nt.V (l.take (k - 1)) = Nt.V l) := Lib.hid (Nt.V_take_pred (k := k - 1) (by have := HL.out; omega) (by rw [show k - 1 + 1 = k from by omega]; exact hv.out) (by rw [hy.out]; simpa using hxb))
          go_wp2_with fail
          go_round
          case rel => exact ⟨k - 1, by omega, by first | rfl | (congr 1; omega), HXX⟩
          case measure => simp; omega
      · obtain rfl : k = 0 := by omega
        go_wp2_with fail
        refine (HF.out (.inl (by trivial))).mono ?_
        rintro e w1 ⟨v, rfl, hnum, hlx, hbel⟩
        go_wp2
        go_ret
        exact ⟨v, x, rfl, hnum, hlx, hbel⟩
theorem number_any (A : Option Addr) (n cp : Nat) (l : List Int) (q : Nat) (w : World) (hl : l.length = n) (hz : Kt.Ints w w.heap.size .u32 A l) (hA : A = none → cp = 0) (hcp : n ≤ cp) (hok : Nt.Ok l) (hn : n * 4 ≤ 140737488351232) (hq : q ≤ 1024) :
    Calls Try.prog 14 #[.slice A n cp, .int .i64 q] w fun e w' => ∃ v x, e = .returned v ∧ Kt.Num w' w.heap.size v x ∧ (Nt.limbs x).length ≤ q ∧ Below w.heap.size w w' := by
  by_cases h : n ≤ q
  · exact number_at A n cp l q n w hl hz hA hcp hok hn hq (Nat.le_refl _) h (.inl ⟨h, rfl⟩)
  · exact number_at A n cp l q q w hl hz hA hcp hok hn hq (by omega) (Nat.le_refl _) (.inr ⟨by omega, rfl⟩)

/-! ### less -/
theorem less_num {w : World} {l1 l2 : Nat} {u v : Value} {x y : Nat} (hx : Kt.Num w l1 u x) (hy : Kt.Num w l2 v y) (h1 : (Nt.limbs x).length ≤ 1024) (h2 : (Nt.limbs y).length ≤ 1024) :
    Calls Try.prog 21 #[u, v] w fun e w' => e = .returned (.bool (decide (x < y))) ∧ Below w.heap.size w w' := by
  have HC : Hid (decide (Nt.cmpV x y < 0) = decide (x < y)) := Lib.hid (by
    unfold Nt.cmpV
    by_cases h : x < y
    · simp [h]
    · by_cases h' : y < x <;> simp [h, h'])
  go_enter Try.func21, Try.ntmps21
  go_wp2_with fail
  refine (cmp_num hx hy h1 h2).mono ?_
  rintro e w' ⟨rfl, hbel⟩
  go_wp2
  go_ret
  exact ⟨Kt.ret_bool HC.out, hbel⟩

end Go.Proofs.Ytfjdhclpcbgdbaa
