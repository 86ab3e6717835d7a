/- Contracts in the form in which the laws use them: results under names. -/
import Derived.Test.YtpobjacfhgnfhaaDoorAwake
namespace Go.Proofs.YtpobjacfhgnfhaaDoor
open Go Go.RowKit

theorem amount_val (x c : Int) (w : World) (h : amountOf x = c) : Calls Tryd.prog 12 #[.int .i64 x] w fun e w' => e = .returned (.int .i64 c) ∧ w = w' := by
  subst h
  exact amount_any x w
theorem pick_val (x n v : Int) (w : World) (h1 : 1 ≤ n) (h2 : n ≤ 4611686018427387904) (h : x % n = v) :
    Calls Tryd.prog 13 #[.int .i64 x, .int .i64 n] w fun e w' => e = .returned (.int .i64 v) ∧ w = w' := by
  subst h
  exact pick_any x n w h1 h2
theorem tme2 (d : Int) : (d.tmod 2 == 0) = (d % 2 == 0) := by
  have e := Mny.tdm d 2
  have h1 := Mny.tm_lt d 2 (by omega)
  have h2 := Mny.lt_tm d 2 (by omega)
  rw [Bool.eq_iff_iff]
  simp only [beq_iff_eq]
  omega
theorem share_bd (c s k : Int) (h1 : -1000000000000000 ≤ c) (h2 : c ≤ 1000000000000000) (h3 : 0 ≤ s) (h4 : s ≤ 10000) : -1000000000000001 ≤ Mny.share c s k ∧ Mny.share c s k ≤ 1000000000000001 := by
  have a := Mny.sq_bd c s h1 h2 h3 h4
  have b1 := Mny.one_bd (Mny.up2 c s)
  have b2 := Mny.one_bd (Mny.up3 c s)
  have b3 := Mny.one_bd (Mny.up4 c s)
  unfold Mny.share
  split
  · omega
  · split
    · omega
    · split <;> omega
end Go.Proofs.YtpobjacfhgnfhaaDoor
