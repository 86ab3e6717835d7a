/- What shifted of the number package returns: its walk; and how many zeros lead a limb. -/
import Derived.Test.YtfjdhclpcbgdbaaNatKp
import Derived.Test.YtfjdhclpcbgdbaaNatK
import Derived.Test.YtfjdhclpcbgdbaaShelf
namespace Nt
open Go
theorem e_pos (s : Nat) : (0 : Int) < 2 ^ s := Int.pow_pos (by omega)
theorem e_split (s : Nat) (hs : s ≤ 32) : (2 : Int) ^ s * 2 ^ (32 - s) = 4294967296 := by
  rw [← Int.pow_add, show s + (32 - s) = 32 from by omega]; decide
theorem e_dvd (s : Nat) (hs : s ≤ 32) : (2 : Int) ^ s ∣ 4294967296 := ⟨_, (e_split s hs).symm⟩
theorem or_low (s : Nat) (h lo : Int) (h0 : 0 ≤ h) (h1 : h < 2 ^ s) (l0 : 0 ≤ lo) (l1 : lo ≤ 4294967295) (hm : lo % 2 ^ s = 0) (hb : h ≤ 4294967295) : bits .or .u32 h lo = h + lo := by
  have e := bits_join .u32 32 (by decide) (fun n hn hn2 => by rw [IntKind.wrap_u32]; omega) s lo h l0 hm (by omega) h0 h1 (by omega)
  obtain ⟨a, rfl⟩ := Int.eq_ofNat_of_zero_le h0
  obtain ⟨b, rfl⟩ := Int.eq_ofNat_of_zero_le l0
  rw [u32_or_nat _ _ (by omega) (by omega)] at e ⊢
  rw [Nat.or_comm, e]
  omega
theorem low_mul (x : Int) (s : Nat) (hs : s ≤ 32) : (x * 2 ^ s % 4294967296) % 2 ^ s = 0 := by
  rw [Int.emod_emod_of_dvd _ (e_dvd s hs)]
  exact Int.mul_emod_left _ _
theorem low_room {lo : Int} {s : Nat} (hs : s ≤ 32) (l1 : lo < 4294967296) (hm : lo % 2 ^ s = 0) : lo + 2 ^ s ≤ 4294967296 := by
  have hp := e_pos s
  have e := Int.mul_ediv_add_emod lo (2 ^ s)
  rw [hm, Int.add_zero] at e
  have h2 := e_split s hs
  have h3 : (2 : Int) ^ s * (lo / 2 ^ s) < 2 ^ s * 2 ^ (32 - s) := by rw [e, h2]; exact l1
  have h4 := Int.lt_of_mul_lt_mul_left h3 (Int.le_of_lt hp)
  have h5 : (2 : Int) ^ s * (lo / 2 ^ s + 1) ≤ 2 ^ s * 2 ^ (32 - s) := Int.mul_le_mul_of_nonneg_left (by omega) (Int.le_of_lt hp)
  rw [Int.mul_add, e, h2, Int.mul_one] at h5
  exact h5
theorem sh_bits {x h : Int} {s : Nat} (hs : s ≤ 31) (h0 : 0 ≤ h) (h1 : h < 2 ^ s) : (x * 2 ^ s + h) % 4294967296 = h + x * 2 ^ s % 4294967296 ∧ (x * 2 ^ s + h) / 4294967296 = x * 2 ^ s / 4294967296 := by
  have hm := low_mul x s (by omega)
  have hr := low_room (lo := x * 2 ^ s % 4294967296) (by omega) (by omega) hm
  omega
theorem sh_high {x : Int} {s : Nat} (hx : x ≤ 4294967295) : x * 2 ^ s / 4294967296 < 2 ^ s :=
  Int.ediv_lt_of_lt_mul (by omega) (by
    have h := Int.mul_lt_mul_of_pos_right (show x < 4294967296 by omega) (e_pos s)
    rw [Int.mul_comm 4294967296] at h
    exact h)
theorem e_le (s : Nat) (hs : s ≤ 31) : (2 : Int) ^ s ≤ 2147483648 := by
  have h : (2 : Nat) ^ s ≤ 2 ^ 31 := Nat.pow_le_pow_right (by omega) hs
  have e : ((2 ^ s : Nat) : Int) = 2 ^ s := by rw [Int.natCast_pow]; rfl
  have e2 : (2 : Nat) ^ 31 = 2147483648 := by decide
  omega
theorem sh_wide {x : Int} {s : Nat} (hs : s ≤ 31) (x0 : 0 ≤ x) (x1 : x ≤ 4294967295) : 0 ≤ x * 2 ^ s ∧ x * 2 ^ s ≤ 9223372034707292160 := by
  have h1 := e_le s hs
  have h2 := e_pos s
  refine ⟨Int.mul_nonneg x0 (by omega), ?_⟩
  have : x * 2 ^ s ≤ 4294967295 * 2147483648 := Int.mul_le_mul x1 h1 (by omega) (by omega)
  omega
theorem sh_nth (a : List Int) (h : Int) (b : List Int) (k : Nat) (ha : a.length = k) : Ls.nth (a ++ h :: b) k = h := by
  rw [nth_append_right _ _ _ (by omega), ha, Nat.sub_self]; rfl
theorem sh_set1 (a : List Int) (h v : Int) (b : List Int) (k : Nat) (ha : a.length = k) : (a ++ h :: b).set k v = a ++ v :: b := by
  rw [List.set_append_right _ _ (by omega), ha, Nat.sub_self]; rfl
theorem sh_set2 (a : List Int) (h v : Int) (n k : Nat) (ha : a.length = k) (hk : k < n) : (a ++ h :: Ls.zeros (n - k)).set (k + 1) v = (a ++ [h]) ++ v :: Ls.zeros (n - (k + 1)) := by
  rw [List.set_append_right _ _ (by omega), ha, show k + 1 - k = 1 from by omega, show n - k = (n - (k + 1)) + 1 from by omega, List.append_assoc]
  rfl
theorem sh_len (a : List Int) (h : Int) (n k : Nat) (ha : a.length = k) (hk : k ≤ n) : (a ++ h :: Ls.zeros (n - k)).length = n + 1 := by
  rw [List.length_append, List.length_cons, Ls.zeros_len]; omega
/-! ### Zeros that lead -/
theorem aux_len : ∀ (f x : Nat), x < 2 ^ f → x ≠ 0 → 2 ^ (Lib.bitLenAux f x - 1) ≤ x ∧ x < 2 ^ Lib.bitLenAux f x ∧ 1 ≤ Lib.bitLenAux f x := by
  intro f
  induction f with
  | zero => intro x hx h0; simp at hx; omega
  | succ f ih =>
    intro x hx h0
    rw [Lib.bitLenAux, if_neg h0]
    by_cases h1 : x / 2 = 0
    · have e : x = 1 := by omega
      subst e
      rw [h1]
      have e0 : Lib.bitLenAux f 0 = 0 := by cases f <;> simp [Lib.bitLenAux]
      rw [e0]
      decide
    · have ⟨a, b, c⟩ := ih (x / 2) (by rw [Nat.pow_succ] at hx; omega) h1
      have e : Lib.bitLenAux f (x / 2) + 1 - 1 = (Lib.bitLenAux f (x / 2) - 1) + 1 := by omega
      refine ⟨?_, ?_, by omega⟩
      · rw [show 1 + Lib.bitLenAux f (x / 2) - 1 = (Lib.bitLenAux f (x / 2) - 1) + 1 from by omega, Nat.pow_succ]; omega
      · rw [show 1 + Lib.bitLenAux f (x / 2) = Lib.bitLenAux f (x / 2) + 1 from by omega, Nat.pow_succ]; omega
theorem lead (t : Nat) (h0 : 1 ≤ t) (h1 : t ≤ 4294967295) : ∃ s : Nat, (32 - (Lib.bitLen t : Int)) = (s : Int) ∧ s ≤ 31 ∧ 2147483648 ≤ t * 2 ^ s ∧ t * 2 ^ s ≤ 4294967295 := by
  have e64 : (2 : Nat) ^ 64 = 18446744073709551616 := by decide
  obtain ⟨a, b, c⟩ := aux_len 64 t (by omega) (by omega)
  obtain ⟨L, hL⟩ : ∃ L, Lib.bitLen t = L := ⟨_, rfl⟩
  have hL2 : Lib.bitLenAux 64 t = L := hL
  rw [hL2] at a b c
  have hL32 : L ≤ 32 := by
    rcases Nat.lt_or_ge 32 L with h | h
    · have h2 : 2 ^ 32 ≤ 2 ^ (L - 1) := Nat.pow_le_pow_right (by omega) (by omega)
      have e32 : (2 : Nat) ^ 32 = 4294967296 := by decide
      omega
    · exact h
  refine ⟨32 - L, by rw [hL]; omega, by omega, ?_, ?_⟩
  · have h2 : 2 ^ (L - 1) * 2 ^ (32 - L) ≤ t * 2 ^ (32 - L) := Nat.mul_le_mul_right _ a
    rw [← Nat.pow_add, show L - 1 + (32 - L) = 31 from by omega] at h2
    exact h2
  · have h2 : t * 2 ^ (32 - L) < 2 ^ L * 2 ^ (32 - L) := Nat.mul_lt_mul_of_pos_right b (Nat.pow_pos (by omega))
    rw [← Nat.pow_add, show L + (32 - L) = 32 from by omega] at h2
    have e32 : (2 : Nat) ^ 32 = 4294967296 := by decide
    omega
end Nt
namespace Go.Proofs.Ytfjdhclpcbgdbaa
open Go Go.RowKit

set_option maxHeartbeats 1000000 in
theorem shifted_any (A : Option Addr) (n cp : Nat) (l : List Int) (s : Nat) (w : World) (hl : l.length = n) (hz : Kt.Ints w w.heap.size .u32 A l) (hok : Nt.Ok l) (hn : n ≤ 1024) (hs : s ≤ 31) :
    Calls Try.prog 42 #[.slice A n cp, .int .i64 s] w fun e w' => ∃ r : List Int, e = .returned (.slice (some ⟨w.heap.size, 0, none⟩) (n + 1) (n + 1)) ∧ r.length = n + 1 ∧ Nt.Ok r ∧ Nt.V r = Nt.V l * 2 ^ s ∧ Kt.IBlk w' w.heap.size 33 .u32 r ∧ Below w.heap.size w w' := by
  have HL := Lib.hid hl
  have HO := Lib.hid hok
  clear hl hok
  obtain ⟨i0, hi0, hz0, hz1, hz2⟩ := info_parts Try.infoU32
  have hmk := fun W => Kt.run_make_ints (P := Try.prog) 22 33 i0 .u32 Try.underlying22 hi0 hz0 hz1 (by omega) (n + 1) (by omega) W
  clear hi0 hz0 hz1 hz2
  simp only [show ((n + 1 : Nat) : Int) = (n : Int) + 1 from by omega] at hmk
  have he1 := Nt.e_pos s
  have he2 := Nt.e_le s hs
  have HE1 := Lib.hid he1
  have HE2 := Lib.hid he2
  clear he1 he2
  go_enter Try.func42, Try.ntmps42
  go_wp2
  clear hmk
  go_loopw [15] (fun i wr => ∃ (k : Nat) (h : Int) (q : List Int), k ≤ n ∧ i = .int .i64 k ∧ 0 ≤ h ∧ h ≤ 4294967295 ∧ Hid (h < 2 ^ s) ∧ Kt.IBlk wr w.heap.size 33 .u32 (q ++ h :: Ls.zeros (n - k)) ∧ Hid (q.length = k) ∧ Hid (Nt.Ok q) ∧ Hid (Nt.V q + Nt.P k * h = Nt.V (l.take k) * 2 ^ s) ∧ Below w.heap.size w wr) (fun i _ => n - (intOf i).toNat)
  case atStart => exact ⟨0, 0, [], Nat.zero_le _, rfl, by omega, by omega, Lib.hid HE1.out, Kt.IBlk.new _ _ _ _, Lib.hid rfl, Lib.hid Nt.Ok.nil, Lib.hid (by simp [Nt.V]), (Below.refl _ _).alloc (Nat.le_refl _) _⟩
  case round =>
    obtain ⟨k, h, q, hk, rfl, hh0, hh1, hhe, hblk, hlq, hoq, hv, hbel⟩ := hrel
    by_cases hlt : k < n
    · obtain ⟨b1, o1, rfl, hb1, hc1⟩ := hz (by have := HL.out; omega)
      have hcell1 := (hbel.cell (p := ⟨b1, o1 + k, none⟩) hb1).trans (hc1 k (by have := HL.out; omega))
      clear hc1
      obtain ⟨x, hx⟩ : ∃ x, Hid (Ls.nth l k = x) := ⟨_, Lib.hid rfl⟩
      have hxb := HO.out.nth_any k
      rw [hx.out] at hcell1 hxb
      obtain ⟨hx0, hx1⟩ := hxb
      obtain ⟨hp0, hp1⟩ := Nt.sh_wide hs hx0 hx1
      have hlen := Nt.sh_len q h n k hlq.out hk
      have hcell2 := hblk.cell k (by rw [hlen]; omega)
      rw [Nt.sh_nth _ _ _ _ hlq.out] at hcell2
      have hfr := hblk.frozen k
      have hor := Nt.or_low s h (x * 2 ^ s % 4294967296) hh0 hhe.out (by omega) (by omega) (Nt.low_mul x s (by omega)) hh1
      have HOR := Lib.hid hor
      have HSB := Lib.hid (Nt.sh_bits (x := x) (h := h) hs hh0 hhe.out)
      have hbig := Nt.sh_high (x := x) (s := s) hx1
      have HBIG := Lib.hid hbig
      have hroom := Nt.low_room (lo := x * 2 ^ s % 4294967296) (s := s) (by omega) (by omega) (Nt.low_mul x s (by omega))
      have hv1 : h + x * 2 ^ s % 4294967296 ≤ 4294967295 := by have := hhe.out; omega
      have hq2 := hblk.set_ k (h + x * 2 ^ s % 4294967296)
      rw [Nt.sh_set1 _ _ _ _ _ hlq.out] at hq2
      have hcell3 := hblk.cell (k + 1) (by rw [hlen]; omega)
      have hq3 := hq2.set_ (k + 1) (x * 2 ^ s / 4294967296)
      rw [Nt.sh_set2 _ _ _ _ _ hlq.out hlt] at hq3
      have hfr3 := hblk.frozen (k + 1)
      have HQ3 := Lib.hid hq3
      clear hor hbig hlen hq2 hq3 hroom
      go_wp2_with fail
      rw [HOR.out]
      go_roundw
      case rel => exact ⟨k + 1, x * 2 ^ s / 4294967296, q ++ [h + x * 2 ^ s % 4294967296], by omega, by go_num, by omega, by omega, Lib.hid HBIG.out, HQ3.out, Lib.hid (by rw [List.length_append, hlq.out]; rfl), Lib.hid (hoq.out.append (Nt.Ok.one (by omega) hv1)), Lib.hid (by
        have h1 := Nt.V_step hlq.out hv.out (t := x * 2 ^ s + h) rfl
        rw [HSB.out.1, HSB.out.2] at h1
        rw [h1, Nt.V_take_nth, hx.out, Int.add_mul, Int.mul_assoc]), (hbel.setCell (Nat.le_refl _) _).setCell (Nat.le_refl _) _⟩
      case measure => simp [intOf]; omega
    · obtain rfl : k = n := by omega
      have e : q ++ h :: Ls.zeros (k - k) = q ++ [h] := by rw [Nat.sub_self]; rfl
      rw [e] at hblk
      have HV : Hid (Nt.V (q ++ [h]) = Nt.V l * 2 ^ s) := Lib.hid (by rw [Nt.V_snoc, hlq.out, hv.out, Nt.V_take_all l _ (by rw [HL.out]; exact Nat.le_refl _)])
      have HLQ : Hid ((q ++ [h]).length = k + 1) := Lib.hid (by rw [List.length_append, hlq.out]; rfl)
      clear e
      go_wp2
      go_ret
      exact ⟨q ++ [h], rfl, HLQ.out, hoq.out.append (Nt.Ok.one hh0 hh1), HV.out, hblk, hbel⟩
end Go.Proofs.Ytfjdhclpcbgdbaa
