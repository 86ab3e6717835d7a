/- The walk of NatTexts. -/
import Derived.Test.YtfjdhclpcbgdbaaBitM
namespace Go.Proofs.Ytfjdhclpcbgdbaa
open Go Go.RowKit

theorem walk_NatTexts (w : World) (A : Option Addr) (ca : Nat) (a : List Int) (la : a.length ≤ ca) (_ma : ca ≤ maxLen) (za : Kt.Ints w w.heap.size .u32 A a) (wa : ∀ i ∈ a, (Lit.int .u32 i).wf = true) (_ra : a.length * 4 ≤ 140737488351232) (ka : A = none → ca = 0)
    (s : ByteArray) (_ws : s.size ≤ maxLen) (B : Option Addr) (cb : Nat) (b : List Int) (lb : b.length ≤ cb) (_mb : cb ≤ maxLen) (zb : Kt.Ints w w.heap.size .u32 B b) (wb : ∀ i ∈ b, (Lit.int .u32 i).wf = true) (_rb : b.length * 4 ≤ 140737488351232) (kb : B = none → cb = 0)
    (k : Int) (_wk : (Lit.int .i64 k).wf = true) :
    Calls Try.prog 3 #[.slice A a.length ca, .string s, .slice B b.length cb, .int .i64 k] w fun e w' => e = .returned (.bool true) ∧ Below w.heap.size w w' := by
  have oa := ok_of_wf wa
  have ob := ok_of_wf wb
  have H := Lib.hid (fun W (h1 : Kt.Ints W W.heap.size .u32 A a) (h2 : Kt.Ints W W.heap.size .u32 B b) => texts_any W A B ca cb a b s k oa ob h1 h2 la lb ka kb)
  clear wa wb oa ob ka kb
  go_enter Try.func3, Try.ntmps3
  go_wp2_with fail
  refine (awake_any _).mono ?_
  rintro e w1 ⟨rfl, b1⟩
  go_wp2_with fail
  refine (H.out _ (za.on b1) (zb.on b1)).mono ?_
  rintro e w2 ⟨rfl, b2⟩
  go_wp2_with fail
  go_ret
  exact ⟨rfl, Kt.next b1 b2⟩
end Go.Proofs.Ytfjdhclpcbgdbaa
