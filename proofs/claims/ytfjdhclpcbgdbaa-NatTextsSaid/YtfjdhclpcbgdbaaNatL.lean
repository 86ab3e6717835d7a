/- The number package's contracts in the form that the statements' walks use. -/
import Derived.Test.YtfjdhclpcbgdbaaNatI
import Derived.Test.YtfjdhclpcbgdbaaNatK
namespace Nt
open Go
theorem len_add (x y k : Nat) (hx : (limbs x).length ≤ k) (hy : (limbs y).length ≤ k) : (limbs (x + y)).length ≤ k + 1 := by
  rw [len_le_iff] at *
  rw [P_succ]
  have := P_pos k
  omega
theorem len_mul (x y k m : Nat) (hx : (limbs x).length ≤ k) (hy : (limbs y).length ≤ m) : (limbs (x * y)).length ≤ k + m := by
  rw [len_le_iff] at *
  rw [P_add, Int.natCast_mul]
  by_cases h : y = 0
  · subst h; rw [Int.natCast_zero, Int.mul_zero]; exact Int.mul_pos (P_pos k) (P_pos m)
  · have h1 : (x : Int) * y < P k * y := Int.mul_lt_mul_of_pos_right hx (by omega)
    have h2 : P k * y ≤ P k * P m := Int.mul_le_mul_of_nonneg_left (by omega) (Int.le_of_lt (P_pos k))
    omega
theorem len_div (x y k : Nat) (hx : (limbs x).length ≤ k) : (limbs (x / y)).length ≤ k := Nat.le_trans (len_mono (Nat.div_le_self _ _)) hx
theorem len_mod (x y k : Nat) (hx : (limbs x).length ≤ k) : (limbs (x % y)).length ≤ k := Nat.le_trans (len_mono (Nat.mod_le _ _)) hx
theorem len_pow (x k n : Nat) (hx : (limbs x).length ≤ k) : (limbs (x ^ n)).length ≤ k * n + 1 := by
  induction n with
  | zero => exact Nat.le_trans (by decide : (limbs 1).length ≤ 1) (by omega)
  | succ n ih =>
    by_cases h0 : n = 0
    · subst h0; simp only [Nat.zero_add, Nat.pow_one]; omega
    rw [Nat.pow_succ]
    have := len_mul _ _ _ _ ih hx
    rw [Nat.mul_succ]
    omega
theorem len_word {x : Nat} (h : x < 340282366920938463463374607431768211456) : (limbs x).length ≤ 4 := by
  rw [len_le_iff]
  have e : P 4 = 340282366920938463463374607431768211456 := by decide
  rw [e]; omega
theorem dec_val {n k : Nat} {l : List UInt8} (h1 : 10 ^ k ≤ n) (h2 : n < 10 ^ (k + 1)) (h3 : bytes (lowd n (k + 1)) = l) : Lib.decDigits n = l := by rw [← lowd_dec k n h1 h2, h3]
end Nt
namespace Kt
open Go Go.RowKit
theorem num_lit (w : World) (T : TypeId) (cs : Array Value) (zs : List Int) (x n : Nat) (hcs : cs = IArr .u32 zs) (hz : Nt.limbs x = zs) (hn : zs.length = n) : Num (w.alloc (.cells cs T)) w.heap.size (.slice (some ⟨w.heap.size, 0, none⟩) n n) x := by
  subst hcs; subst hn
  unfold Num
  rw [hz]
  exact Row.of_blk (IBlk.new w T .u32 zs) (Nat.le_refl _) zs.length _ rfl (by rw [List.take_length]) (Nat.le_refl _) (Nat.le_refl _)
theorem num_lits {zs : List Int} {x : Nat} (ho : (zs.all fun z => decide (0 ≤ z ∧ z ≤ 4294967295)) = true) (hl : Ls.nth zs (zs.length - 1) ≠ 0) (hv : Nt.V zs = (x : Int)) : Nt.limbs x = zs :=
  Nt.limbs_of ⟨fun y hy => by have := List.all_eq_true.1 ho y hy; simpa using this, .inr hl⟩ hv
end Kt
namespace Go.Proofs.Ytfjdhclpcbgdbaa
open Go Go.RowKit

section
variable {w : World} {l1 l2 : Nat} {u v : Value} {x y : Nat}
theorem add_ok (hx : Kt.Num w l1 u x) (hy : Kt.Num w l2 v y) (h1 : (Nt.limbs x).length ≤ 1024) (h2 : (Nt.limbs y).length ≤ 1024) (hf : (Nt.limbs (x + y)).length ≤ 1024) :
    Calls Try.prog 22 #[u, v] w (GotP w (x + y)) :=
  (add_num hx hy h1 h2).mono fun e w' h => ⟨by
    rcases h.1 with h3 | h3
    · exact h3.2
    · omega, h.2⟩
theorem mul_ok (hx : Kt.Num w l1 u x) (hy : Kt.Num w l2 v y) (h1 : (Nt.limbs x).length ≤ 1024) (h2 : (Nt.limbs y).length ≤ 1024) (hf : (Nt.limbs (x * y)).length ≤ 1024) :
    Calls Try.prog 16 #[u, v] w (GotP w (x * y)) :=
  (mul_num hx hy h1 h2).mono fun e w' h => ⟨by
    rcases h.1 with h3 | h3
    · exact h3.2
    · omega, h.2⟩
theorem same_yes (hx : Kt.Num w l1 u x) (hy : Kt.Num w l2 v y) (h1 : (Nt.limbs x).length ≤ 1024) (he : x = y) :
    Calls Try.prog 17 #[u, v] w fun e w' => e = .returned (.bool true) ∧ Below w.heap.size w w' := by
  have h := same_num hx hy (by omega)
  rwa [decide_eq_true he] at h
theorem dm_small (hx : Kt.Num w l1 u x) (hy : Kt.Num w l2 v y) (h1 : (Nt.limbs x).length ≤ 1024) (h2 : (Nt.limbs y).length = 1) :
    Calls Try.prog 24 #[u, v] w (GotDM w x y) := by
  obtain ⟨A, ca, rfl, _, _⟩ := num_ok hx
  obtain ⟨B, cb, rfl, _, _⟩ := num_ok hy
  by_cases h : x < y
  · exact dm_less x y l1 l2 A B _ _ ca cb w hx hy rfl rfl h1 (by omega) h
  · rw [h2] at hy ⊢
    exact dm_one x y l1 l2 A B _ ca cb w hx hy rfl h2 h1 (by omega)
theorem text_val (hx : Kt.Num w l1 u x) (h1 : (Nt.limbs x).length ≤ 1024) {l : List UInt8} (hl : Lib.decDigits x = l) :
    Calls Try.prog 18 #[u] w fun e w' => e = .returned (.tuple #[.string ⟨l.toArray⟩, .int .i64 0]) ∧ Below w.heap.size w w' := by
  rw [← hl]; exact text_num hx h1
theorem pow_val {k : Nat} (kk : Int) (hx : Kt.Num w l1 u x) (h1 : (Nt.limbs x).length ≤ 1024) (hk : k ≤ 60) (hfit : (Nt.limbs (x ^ k)).length ≤ 1024) (hkk : kk = (k : Int)) :
    Calls Try.prog 15 #[u, .int .i64 kk] w (GotP w (x ^ k)) := by
  rw [hkk]; exact pow_num hx h1 hk hfit
/-- Of at a word. -/
theorem of_word (n : Int) (x : Nat) (w : World) (h : n = (x : Int)) (hx : n ≤ 18446744073709551615) :
    Calls Try.prog 20 #[.int .u64 n] w fun e w' => (∃ v, e = .returned v ∧ Kt.Num w' w.heap.size v x) ∧ Below w.heap.size w w' := of_any n x w h hx
end

set_option maxRecDepth 100000 in
set_option maxHeartbeats 4000000 in
theorem awake_any (w : World) : Calls Try.prog 12 #[] w fun e w' => e = .returned (.bool true) ∧ Below w.heap.size w w' := by
  have T1 := Lib.hid (Nt.dec_val (n := 18446744073709551616) (k := 19) (l := [49, 56, 52, 52, 54, 55, 52, 52, 48, 55, 51, 55, 48, 57, 53, 53, 49, 54, 49, 54]) (by decide) (by decide) (by decide))
  have T2 := Lib.hid (Nt.dec_val (n := 1844674407370955161) (k := 18) (l := [49, 56, 52, 52, 54, 55, 52, 52, 48, 55, 51, 55, 48, 57, 53, 53, 49, 54, 49]) (by decide) (by decide) (by decide))
  have T3 := Lib.hid (Nt.dec_val (n := 100000000000000000000) (k := 20) (l := [49, 48, 48, 48, 48, 48, 48, 48, 48, 48, 48, 48, 48, 48, 48, 48, 48, 48, 48, 48, 48]) (by decide) (by decide) (by decide))
  go_enter Try.func12, Try.ntmps12
  go_wp2_with fail
  refine (of_word 4294967296 4294967296 _ rfl (by omega)).mono ?_
  rintro e w1 ⟨⟨a, rfl, na⟩, b1⟩
  go_wp2_with fail
  refine (mul_ok na na (by have := Nt.len_word (x := 4294967296) (by omega); omega) (by have := Nt.len_word (x := 4294967296) (by omega); omega) (by have := Nt.len_word (x := 4294967296 * 4294967296) (by omega); omega)).mono ?_
  rintro e w2 ⟨⟨b, rfl, nb⟩, b2⟩
  replace na := na.on b2
  replace b2 := Kt.next b1 b2
  clear b1
  go_wp2_with fail
  refine (text_val nb (by have := Nt.len_word (x := 4294967296 * 4294967296) (by omega); omega) T1.out).mono ?_
  rintro e w3 ⟨rfl, b3⟩
  replace na := na.on b3
  replace nb := nb.on b3
  replace b3 := Kt.next b2 b3
  clear b2
  go_wp2_with fail
  refine (of_word 10 10 _ rfl (by omega)).mono ?_
  rintro e w4 ⟨⟨c, rfl, nc⟩, b4⟩
  replace na := na.on b4
  replace nb := nb.on b4
  replace b4 := Kt.next b3 b4
  clear b3
  go_wp2_with fail
  refine (dm_small nb nc (by have := Nt.len_word (x := 4294967296 * 4294967296) (by omega); omega) (by decide)).mono ?_
  rintro e w5 ⟨q, r, rfl, nq, nr, b5⟩
  replace na := na.on b5
  replace nb := nb.on b5
  replace b5 := Kt.next b4 b5
  clear b4 nc
  go_wp2_with fail
  refine (text_val nq (by have := Nt.len_word (x := 4294967296 * 4294967296 / 10) (by omega); omega) T2.out).mono ?_
  rintro e w6 ⟨rfl, b6⟩
  replace na := na.on b6
  replace nb := nb.on b6
  replace nr := nr.on b6
  replace b6 := Kt.next b5 b6
  clear b5 nq
  go_wp2_with fail
  refine (of_word 1 1 _ rfl (by omega)).mono ?_
  rintro e w7 ⟨⟨i, rfl, ni⟩, b7⟩
  replace na := na.on b7
  replace nb := nb.on b7
  replace nr := nr.on b7
  replace b7 := Kt.next b6 b7
  clear b6
  go_wp2_with fail
  refine (of_word 2 2 _ rfl (by omega)).mono ?_
  rintro e w8 ⟨⟨j, rfl, nj⟩, b8⟩
  replace na := na.on b8
  replace nb := nb.on b8
  replace nr := nr.on b8
  replace ni := ni.on b8
  replace b8 := Kt.next b7 b8
  clear b7
  go_wp2_with fail
  refine (sub_num_less ni nj (by have := Nt.len_word (x := 1) (by omega); omega) (by have := Nt.len_word (x := 2) (by omega); omega) (by omega)).mono ?_
  rintro e w9 ⟨rfl, b9⟩
  replace na := na.on b9
  replace nb := nb.on b9
  replace nr := nr.on b9
  replace b9 := Kt.next b8 b9
  clear b8 ni nj
  go_wp2_with fail
  refine (same_yes (na.alloc _) (Kt.num_lit w9 _ #[.int .u32 0, .int .u32 1] [0, 1] 4294967296 2 rfl (Kt.num_lits (by decide) (by decide) (by decide)) rfl) (by have := Nt.len_word (x := 4294967296) (by omega); omega) (by decide)).mono ?_
  rintro e w10 ⟨rfl, b10⟩
  replace nb := (nb.alloc _).on b10
  replace nr := (nr.alloc _).on b10
  replace b10 := Kt.next (b9.alloc b9.size _) b10
  clear b9
  go_wp2_with fail
  refine (same_yes (nb.alloc _) (Kt.num_lit w10 _ #[.int .u32 0, .int .u32 0, .int .u32 1] [0, 0, 1] 18446744073709551616 3 rfl (Kt.num_lits (by decide) (by decide) (by decide)) rfl) (by have := Nt.len_word (x := 4294967296 * 4294967296) (by omega); omega) (by decide)).mono ?_
  rintro e w11 ⟨rfl, b11⟩
  replace nr := (nr.alloc _).on b11
  replace b11 := Kt.next (b10.alloc b10.size _) b11
  clear b10
  go_wp2_with fail
  refine (same_yes (nr.alloc _) (Kt.num_lit w11 _ #[.int .u32 6] [6] 6 1 rfl (Kt.num_lits (by decide) (by decide) (by decide)) rfl) (by have := Nt.len_word (x := 4294967296 * 4294967296 % 10) (by omega); omega) (by decide)).mono ?_
  rintro e w12 ⟨rfl, b12⟩
  replace b12 := Kt.next (b11.alloc b11.size _) b12
  clear b11
  go_wp2_with fail
  refine (of_word 10 10 _ rfl (by omega)).mono ?_
  rintro e w13 ⟨⟨p, rfl, np⟩, b13⟩
  replace b13 := Kt.next b12 b13
  clear b12
  go_wp2_with fail
  refine (pow_val (k := 20) 20 np (by have := Nt.len_word (x := 10) (by omega); omega) (by omega) (by have := Nt.len_word (x := 10 ^ 20) (by omega); omega) rfl).mono ?_
  rintro e w14 ⟨⟨t, rfl, nt⟩, b14⟩
  replace b14 := Kt.next b13 b14
  clear b13 np
  go_wp2_with fail
  refine (text_val nt (by have := Nt.len_word (x := 10 ^ 20) (by omega); omega) T3.out).mono ?_
  rintro e w15 ⟨rfl, b15⟩
  replace b15 := Kt.next b14 b15
  clear b14 nt
  go_wp2_with fail
  refine (pow_val (k := 0) (x := 0) 0 (Kt.Num.zero _ 0) (by decide) (by omega) (by decide) rfl).mono ?_
  rintro e w16 ⟨⟨o, rfl, no⟩, b16⟩
  replace b16 := Kt.next b15 b16
  clear b15
  go_wp2_with fail
  refine (read_bad _ _ (by decide) (by decide)).mono ?_
  rintro e w17 ⟨rfl, b17⟩
  replace no := no.on b17
  replace b17 := Kt.next b16 b17
  clear b16
  go_wp2_with fail
  refine (same_yes (no.alloc _) (Kt.num_lit w17 _ #[.int .u32 1] [1] 1 1 rfl (Kt.num_lits (by decide) (by decide) (by decide)) rfl) (by have := Nt.len_word (x := 0 ^ 0) (by omega); omega) (by decide)).mono ?_
  rintro e w18 ⟨rfl, b18⟩
  replace b18 := Kt.next (b17.alloc b17.size _) b18
  clear b17
  go_wp2_with fail
  refine (right_any _ 2 2 [5, 0] _ rfl (Kt.ints_lit w18 _ .u32 [5, 0] _ rfl) (by omega)).mono ?_
  rintro e w' ⟨rfl, rfl⟩
  go_wp2
  go_ret
  exact ⟨rfl, b18.alloc b18.size _⟩

end Go.Proofs.Ytfjdhclpcbgdbaa
