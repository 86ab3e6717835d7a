/- What the rows' listed variables give the walks: the table of powers of ten; a start that meets the condition. -/
import Derived.Test.YtjfgfchnpghpfaaDoorText
import Derived.Test.YtjfgfchnpghpfaaDoorRows
import Derived.Test.YtjfgfchnpghpfaaDoorFrame
import Derived.Stop.LaidErr
namespace Go.Proofs.YtjfgfchnpghpfaaDoor
open Go Go.RowKit

/-- What each row lists. -/
def laidL : List (String × DataW Unit) := [("math/bits.deBruijn32tab", Rows.laid_math_bits_deBruijn32tab), ("math/bits.deBruijn64tab", Rows.laid_math_bits_deBruijn64tab), ("internal/strconv.uint64pow10", Rows.laid_internal_strconv_uint64pow10)]

theorem tab_of_laid {W : World} (h : laidMet Tryd.prog laidL W) : Tab W := by
  have e : (Rows.laid_internal_strconv_uint64pow10 : DataW Unit) = Lib.tabData .u64 Lib.pow10Tab := by kernel_rfl
  unfold laidL at h
  rw [e] at h
  exact Lib.tabIs_of_head (P := Tryd.prog) (g := 0) (name := "internal/strconv.uint64pow10") (k := .u64) (zs := Lib.pow10Tab) (rest := []) (t := 88) (e := 82) (n := 20) (by kernel_rfl) (by kernel_rfl) Tryd.underlying88 Tryd.underlying82 (by kernel_rfl) (by kernel_rfl) h.tail.tail

theorem door_met (os : Os) (args : Array Value) : laidMetH Tryd.prog laidL ((World.doorLaid Tryd.prog 24 os).forCall (fun _ _ => 0) ⟨#[], args, []⟩).memory :=
  laidMetH_of_parts3 (fuel := 8) (laidMet_of_run' 8 (by kernel_rfl) (by kernel_rfl)) (by kernel_rfl) (by kernel_rfl)
theorem door_shaped (os : Os) (args : Array Value) : ((World.doorLaid Tryd.prog 24 os).forCall (fun _ _ => 0) ⟨#[], args, []⟩).Shaped Tryd.prog := World.shaped_of_RefB (by kernel_rfl) (by kernel_rfl)
theorem plain_laid (W : World) (h : laidMetH Tryd.prog laidL W) : laidMet Tryd.prog laidL W := by
  rwa [MakeChecks.laidMetH_plain _ _ _ (by kernel_rfl)] at h

end Go.Proofs.YtjfgfchnpghpfaaDoor
