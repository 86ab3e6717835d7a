/- What the reference's Text returns: the digits of a number. -/
import Derived.Test.YtfjdhclpcbgdbaaBitI
import Derived.Test.YtfjdhclpcbgdbaaBitH
import Derived.Test.YtfjdhclpcbgdbaaNatR
namespace Bt
open Go
theorem limbs_half {t : Nat} (h : t ≠ 0) : limbs t = ((t % 2 : Nat) : Int) :: limbs (t / 2) := by
  refine limbs_of ⟨Ok.cons (by omega) (by omega) (limbs_Ok _), ?_⟩ (by simp only [V, V_limbs]; omega)
  right
  by_cases h2 : t / 2 = 0
  · rw [h2, limbs_zero]
    show ((t % 2 : Nat) : Int) ≠ 0
    omega
  · have h3 := (limbs_R (t / 2)).2
    rcases h3 with h3 | h3
    · exact absurd h3 (limbs_ne h2)
    · cases hl : limbs (t / 2) with
      | nil => exact absurd hl (limbs_ne h2)
      | cons a l => rw [hl] at h3; exact h3
theorem len_tenth {t : Nat} (h : t ≠ 0) : (limbs (t / 10)).length < (limbs t).length := by
  rw [limbs_half h, List.length_cons]
  have := len_mono (show t / 10 ≤ t / 2 by omega)
  omega
theorem ten : limbs 10 = [0, 1, 0, 1] := by decide
theorem dig_step {x t : Nat} {S : List UInt8} (ht : t ≠ 0) (h : Lib.decDigits x = (if t = 0 then [] else Lib.decDigits t) ++ S) :
    Lib.decDigits x = (if t / 10 = 0 then [] else Lib.decDigits (t / 10)) ++ (UInt8.ofNat (48 + t % 10) :: S) := by
  rw [if_neg ht] at h
  rw [h]
  by_cases h0 : t / 10 = 0
  · rw [if_pos h0, Lib.decDigits_one (by omega), show t % 10 = t from by omega]; rfl
  · rw [if_neg h0, Nt.dec_step (by omega), List.append_assoc]; rfl
theorem nib_nat (r : Nat) (h : r < 10) : Ls.nth (limbs r) 0 + 2 * Ls.nth (limbs r) 1 + 4 * Ls.nth (limbs r) 2 + 8 * Ls.nth (limbs r) 3 = (r : Int) := nib ⟨r, h⟩
end Bt
namespace Kt
open Go Go.RowKit
theorem row_ten (w : World) (T : TypeId) (cs : Array Value) (hcs : cs = IArr .i64 [0, 1, 0, 1]) : Row (w.alloc (.cells cs T)) w.heap.size .i64 (.slice (some ⟨w.heap.size, 0, none⟩) 4 4) (Bt.limbs 10) := by
  subst hcs
  rw [Bt.ten]
  exact Row.of_blk (IBlk.new w T .i64 [0, 1, 0, 1]) (Nat.le_refl _) 4 _ rfl (by rfl) (Nat.le_refl _) (Nat.le_refl _)
end Kt
namespace Go.Proofs.Ytfjdhclpcbgdbaa
open Go Go.RowKit
theorem one_bd {c : Int} (h0 : 48 ≤ c) (h1 : c ≤ 57) : ∀ x ∈ [c], 48 ≤ x ∧ x ≤ 57 := fun x hx => by
  rw [List.mem_singleton.1 hx]; exact ⟨h0, h1⟩
theorem chr_add {c : Int} {k : Nat} {S : List UInt8} (h : c = ((48 + k : Nat) : Int)) : (⟨(Nt.bytes [c]).toArray⟩ : ByteArray) ++ (⟨S.toArray⟩ : ByteArray) = ⟨(UInt8.ofNat (48 + k) :: S).toArray⟩ := by
  subst h
  apply ByteArray.ext
  rw [ByteArray.data_append]
  have e : Nt.bytes [((48 + k : Nat) : Int)] = [UInt8.ofNat (48 + k)] := by rw [Nt.bytes, List.map_cons, List.map_nil, Int.toNat_natCast]
  rw [e]
  apply Array.toList_inj.1
  rw [Array.toList_append]
  rfl
set_option maxHeartbeats 4000000 in
theorem rtext_in {w : World} {u : Value} {x : Nat} (hx : Kt.In w u x) (h1 : (Nt.limbs x).length ≤ 1024) :
    Calls Try.prog 28 #[u] w fun e w' => e = .returned (.tuple #[.string ⟨(Lib.decDigits x).toArray⟩, .int .i64 0]) ∧ Below w.heap.size w w' := by
  obtain ⟨A, ca, rfl, _, _, ha⟩ := hx
  obtain ⟨n, hn⟩ : ∃ n, Hid ((Nt.limbs x).length = n) := ⟨_, Lib.hid rfl⟩
  have hn1 : n ≤ 1024 := by have := hn.out; omega
  have HR1 := Lib.hid (num_right (x := x) h1)
  rw [hn.out]
  have HLEN := Lib.hid (Bt.len_of h1)
  have HDL := Lib.hid (Nt.dec_short h1 352 9866 (by omega) (by omega))
  clear h1
  by_cases h0 : n = 0
  · have hx0 : x = 0 := (Nt.len_zero_iff x).1 (by rw [hn.out]; exact h0)
    have HX0 := Lib.hid hx0
    have hnb : ((n : Int) == 0) = true := by simp; omega
    clear hx0 h0
    go_enter Try.func28, Try.ntmps28
    go_wp2_with fail
    refine (rright_any A n ca _ _ hn.out ha (by omega)).mono ?_
    rw [HR1.out]
    rintro e w' ⟨rfl, rfl⟩
    go_wp2
    go_ret2
    exact ⟨ret_si (by rw [HX0.out, Lib.decDigits_one (by omega)]; rfl), Below.refl _ _⟩
  · have hxp : x ≠ 0 := fun e => h0 (by rw [← hn.out, e]; rfl)
    have HXP := Lib.hid hxp
    have hnb : ((n : Int) == 0) = false := by simp; omega
    clear hxp
    go_enter Try.func28, Try.ntmps28
    go_wp2_with fail
    refine (rright_any A n ca _ _ hn.out ha (by omega)).mono ?_
    rw [HR1.out]
    rintro e w' ⟨rfl, rfl⟩
    go_wp2_with fail
    refine (rbits_any A n ca _ x _ hn.out ha (Nt.limbs_Ok x) (Nt.V_limbs x) (by omega)).mono ?_
    rintro e w1 ⟨v, rfl, hv, hb1⟩
    go_wp2_with fail
    go_loopw [4, 5] (fun s b wr => ∃ (t : Nat) (S : List UInt8), s = .string ⟨S.toArray⟩ ∧ Kt.Row wr w.heap.size .i64 b (Bt.limbs t) ∧ Hid (t ≤ x) ∧ Hid (Lib.decDigits x = (if t = 0 then [] else Lib.decDigits t) ++ S) ∧ Below w.heap.size w wr) (fun _ b _ => match b with | .slice _ k _ => k | _ => 0)
    case atStart => exact ⟨x, [], rfl, hv, Lib.hid (Nat.le_refl _), Lib.hid (by rw [if_neg HXP.out, List.append_nil]), hb1⟩
    case round =>
      obtain ⟨t, S, rfl, hrow, htx, hdig, hbel⟩ := hrel
      obtain ⟨B, m, cb, rfl, hm, _, hi⟩ := bits_at hrow
      by_cases hm0 : 0 < m
      · have htp : t ≠ 0 := fun e => by subst e; have h9 := hm.out; rw [Bt.limbs_zero] at h9; simp at h9; omega
        have HDS := Lib.hid (Bt.dig_step htp hdig.out)
        have HLT := Lib.hid (Bt.len_tenth htp)
        have hlen : (Bt.limbs t).length ≤ 90000 := by have h2 := Bt.len_mono htx.out; have := HLEN.out; omega
        have HTX : Hid (t / 10 ≤ x) := Lib.hid (by have := htx.out; omega)
        obtain ⟨d0, hd0⟩ : ∃ d, Hid (Ls.nth (Bt.limbs (t % 10)) 0 = d) := ⟨_, Lib.hid rfl⟩
        obtain ⟨d1, hd1⟩ : ∃ d, Hid (Ls.nth (Bt.limbs (t % 10)) 1 = d) := ⟨_, Lib.hid rfl⟩
        obtain ⟨d2, hd2⟩ : ∃ d, Hid (Ls.nth (Bt.limbs (t % 10)) 2 = d) := ⟨_, Lib.hid rfl⟩
        obtain ⟨d3, hd3⟩ : ∃ d, Hid (Ls.nth (Bt.limbs (t % 10)) 3 = d) := ⟨_, Lib.hid rfl⟩
        have hsum : d0 + 2 * d1 + 4 * d2 + 8 * d3 = ((t % 10 : Nat) : Int) := by rw [← hd0.out, ← hd1.out, ← hd2.out, ← hd3.out]; exact Bt.nib_nat _ (by omega)
        have hb0 := (Bt.limbs_Ok (t % 10)).nth_any 0
        have hb1' := (Bt.limbs_Ok (t % 10)).nth_any 1
        have hb2' := (Bt.limbs_Ok (t % 10)).nth_any 2
        have hb3' := (Bt.limbs_Ok (t % 10)).nth_any 3
        rw [hd0.out] at hb0
        rw [hd1.out] at hb1'
        rw [hd2.out] at hb2'
        rw [hd3.out] at hb3'
        obtain ⟨g0, g1⟩ := hb0
        obtain ⟨g2, g3⟩ := hb1'
        obtain ⟨g4, g5⟩ := hb2'
        obtain ⟨g6, g7⟩ := hb3'
        have HSUM := Lib.hid hsum
        have hs9 : d0 + 2 * d1 + 4 * d2 + 8 * d3 ≤ 9 := by omega
        clear hsum
        have hSl : S.length ≤ 9866 := by
          have e1 := congrArg List.length hdig.out
          rw [List.length_append] at e1
          have e2 := HDL.out
          omega
        have hbl1 : (Nt.bytes [48 + d0 + 2 * d1 + 4 * d2 + 8 * d3]).length = 1 := rfl
        clear htp
        go_wp2_with fail
        refine (rdivmod_val (hrow.alloc _) (Kt.row_ten wr _ _ rfl) (by omega) hlen).mono ?_
        rintro e w3 ⟨q, r, rfl, hq, hr, hb3⟩
        have hb4 : Below w.heap.size w w3 := Kt.next (hbel.alloc hbel.size _) hb3
        have HQ := hq.less (Nat.le_trans hbel.size (Nat.le_of_lt (show wr.heap.size < (wr.alloc _).heap.size by simp)))
        go_wp2_with fail
        refine (rat_val hr 0).mono ?_
        rw [hd0.out]
        rintro e w' ⟨rfl, rfl⟩
        go_wp2_with fail
        refine (rat_val hr 1).mono ?_
        rw [hd1.out]
        rintro e w' ⟨rfl, rfl⟩
        go_wp2_with fail
        refine (rat_val hr 2).mono ?_
        rw [hd2.out]
        rintro e w' ⟨rfl, rfl⟩
        go_wp2_with fail
        refine (rat_val hr 3).mono ?_
        rw [hd3.out]
        rintro e w' ⟨rfl, rfl⟩
        have hcv := conv_row (w3.alloc (.cells #[.int .u8 (48 + d0 + 2 * d1 + 4 * d2 + 8 * d3)] 5)) w3.heap.size 0 1 1 [48 + d0 + 2 * d1 + 4 * d2 + 8 * d3] rfl (one_bd (by omega) (by omega)) (fun j hj => by
          obtain rfl : j = 0 := by omega
          exact (Kt.Blk.new w3 5 #[.int .u8 (48 + d0 + 2 * d1 + 4 * d2 + 8 * d3)]).cell 0)
        go_wp2_with fail
        clear hcv
        have hb5 : Below w.heap.size w (w3.alloc (.cells #[.int .u8 (48 + d0 + 2 * d1 + 4 * d2 + 8 * d3)] 5)) := hb4.alloc hb4.size _
        obtain ⟨Bq, cq, rfl, hcq, hnq, hiq⟩ := HQ.ints
        go_roundw
        case rel => exact ⟨t / 10, UInt8.ofNat (48 + t % 10) :: S, by rw [← chr_add (c := 48 + d0 + 2 * d1 + 4 * d2 + 8 * d3) (by have := HSUM.out; omega)], HQ.alloc _, HTX, HDS, hb5⟩
        case measure => have := HLT.out; have := hm.out; simp; omega
      · obtain rfl : m = 0 := by omega
        have ht0 : t = 0 := (Bt.len_zero_iff t).1 hm.out
        have E := hdig.out
        rw [if_pos ht0, List.nil_append] at E
        have HE := Lib.hid E
        clear E ht0
        go_wp2_with fail
        go_ret2
        exact ⟨ret_si (by rw [HE.out]), hbel⟩
end Go.Proofs.Ytfjdhclpcbgdbaa
