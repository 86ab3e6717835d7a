/- Contracts of sums and splits in the form in which the laws use them. -/
import Derived.Test.YtpobjacfhgnfhaaDoorLawKit
namespace Go.Proofs.YtpobjacfhgnfhaaDoor
open Go Go.RowKit

theorem sum_val (A : Option Addr) (cp : Nat) (zs : List Int) (v e0 : Int) (w : World) (hz : Kt.Ints w w.heap.size .i64 A zs) (hn : zs.length ≤ 4096) (hv : sumV zs = v) (he : sumE zs = e0) :
    Calls Tryd.prog 20 #[.slice A zs.length cp] w fun e w' => e = .returned (.tuple #[.int .i64 v, .int .i64 e0]) ∧ w = w' := by
  subst hv; subst he
  exact sum_any A cp zs w hz hn
theorem add_val (a b v e0 : Int) (w : World) (hv : sumV [a, b] = v) (he : sumE [a, b] = e0) :
    Calls Tryd.prog 22 #[.int .i64 a, .int .i64 b] w fun e w' => e = .returned (.tuple #[.int .i64 v, .int .i64 e0]) ∧ Below w.heap.size w w' := by
  subst hv; subst he
  exact add_any a b w
theorem all_bad {zs : List Int} {x : Int} (hx : x ∈ zs) (h : x < -1000000000000000 ∨ 1000000000000000 < x) : zs.all inR = false := by
  rw [List.all_eq_false]
  refine ⟨x, hx, ?_⟩
  simp only [inR, decide_eq_true_eq]; omega
theorem w_bad {zs : List Int} {x : Int} (hx : x ∈ zs) (h : x < 0 ∨ 1000000 < x) : (zs.all Mny.wOk && (Ls.isum zs != 0)) = false := by
  have : zs.all Mny.wOk = false := by
    rw [List.all_eq_false]
    refine ⟨x, hx, ?_⟩
    simp only [Mny.wOk, decide_eq_true_eq]; omega
  rw [this]; rfl
theorem inR_mk {c : Int} (h1 : -1000000000000000 ≤ c) (h2 : c ≤ 1000000000000000) : inR c = true := by simp only [inR, decide_eq_true_eq]; exact ⟨h1, h2⟩
theorem all_inR {zs : List Int} (h : ∀ x ∈ zs, -1000000000000000 ≤ x ∧ x ≤ 1000000000000000) : zs.all inR = true := List.all_eq_true.2 fun x hx => inR_mk (h x hx).1 (h x hx).2
theorem share_zero (s k : Int) : Mny.share 0 s k = 0 := by
  have hr : Mny.sr 0 s = 0 := by simp [Mny.sr]
  have hq : Mny.sq 0 s = 0 := by simp [Mny.sq]
  obtain ⟨a, b, d⟩ := Mny.up_zero 0 s hr
  simp [Mny.share, a, b, d, Mny.one, hq]
end Go.Proofs.YtpobjacfhgnfhaaDoor
