/-
  NARROWER THAN 'FOR EVERY INPUT', by the rows' own cells (each row's printed sentence says how): CivilWrong: laid · CivilReads: laid · CivilGoes: laid · CivilTurns: laid · CivilYearly: laid · CivilWorks: laid · CivilAdds: laid · CivilAhead: laid · CivilWrites: laid · CivilTells: laid.
  DERIVED. THE GIVEN ROWS OF THIS SEAT. 10 by the template 'for every input the law returns true; each argument reads behind the call as it read before'; 0 by the template 'total and deterministic' (their statements: YthmgkfljaneocaaDoorTotals.lean).
  GIVEN WITH THE SEED: the statements are not yours to turn. If you find one false, say at which input.
  Laid BY PROGRAM, IN A SANDBOX (cutbox-rows.mjs): the forced cells as the released guide's own fill.sh prints them over the translation 6870919f63026fdf… (all of the seat's roots in one cut). By AI agents, Wed Nov 11 2026. No macro, syntax, notation, axiom, sorry.
-/
import Derived.Test.YthmgkfljaneocaaDoorChecked
import GoSem.Claim
import GoSem.ClaimJoined
import GoSem.ClaimMapViews
import Derived.JoinedTies
import Derived.KernelRfl
namespace Go.Proofs.YthmgkfljaneocaaDoor
/- THE CELL 'sum', in the pinned program and in every row, IS THE sha256 OF THE DUMP (.gsa) THAT YthmgkfljaneocaaDoorProg.lean LOADS. Nothing in Lean hashes anything: it is a label: what it is worth is what the hold of that sum in a sandbox is worth. -/
noncomputable def Tryd.pinned : Pinned := { name := "ythmgkfljaneocaadoor", sum := "6870919f63026fdfe1c4ff3e29a78b8f3902252d10b6d250df0496156568b813", checked := Tryd.checked }
namespace Rows
def none {H : Type} : Left H := { results := [], args := [] }

/- WHAT THE LISTED PACKAGE-LEVEL VARIABLES READ AS WHEN THE CALL BEGINS. Each datum BY PROGRAM (the guide's laid-datum.mjs) off the statement by which the dump's own 'gosem.cut.vars' lays the variable. In a bare row this is a premise. The card (YthmgkfljaneocaaDoorCards.lean) ties it to the program's text. -/
def laid_math_bits_deBruijn32tab {H : Type} : DataW H := .agg [.lit (.int .u8 0), .lit (.int .u8 1), .lit (.int .u8 28), .lit (.int .u8 2), .lit (.int .u8 29), .lit (.int .u8 14), .lit (.int .u8 24), .lit (.int .u8 3), .lit (.int .u8 30), .lit (.int .u8 22), .lit (.int .u8 20), .lit (.int .u8 15), .lit (.int .u8 25), .lit (.int .u8 17), .lit (.int .u8 4), .lit (.int .u8 8), .lit (.int .u8 31), .lit (.int .u8 27), .lit (.int .u8 13), .lit (.int .u8 23), .lit (.int .u8 21), .lit (.int .u8 19), .lit (.int .u8 16), .lit (.int .u8 7), .lit (.int .u8 26), .lit (.int .u8 12), .lit (.int .u8 18), .lit (.int .u8 6), .lit (.int .u8 11), .lit (.int .u8 5), .lit (.int .u8 10), .lit (.int .u8 9)]
def laid_math_bits_deBruijn64tab {H : Type} : DataW H := .agg [.lit (.int .u8 0), .lit (.int .u8 1), .lit (.int .u8 56), .lit (.int .u8 2), .lit (.int .u8 57), .lit (.int .u8 49), .lit (.int .u8 28), .lit (.int .u8 3), .lit (.int .u8 61), .lit (.int .u8 58), .lit (.int .u8 42), .lit (.int .u8 50), .lit (.int .u8 38), .lit (.int .u8 29), .lit (.int .u8 17), .lit (.int .u8 4), .lit (.int .u8 62), .lit (.int .u8 47), .lit (.int .u8 59), .lit (.int .u8 36), .lit (.int .u8 45), .lit (.int .u8 43), .lit (.int .u8 51), .lit (.int .u8 22), .lit (.int .u8 53), .lit (.int .u8 39), .lit (.int .u8 33), .lit (.int .u8 30), .lit (.int .u8 24), .lit (.int .u8 18), .lit (.int .u8 12), .lit (.int .u8 5), .lit (.int .u8 63), .lit (.int .u8 55), .lit (.int .u8 48), .lit (.int .u8 27), .lit (.int .u8 60), .lit (.int .u8 41), .lit (.int .u8 37), .lit (.int .u8 16), .lit (.int .u8 46), .lit (.int .u8 35), .lit (.int .u8 44), .lit (.int .u8 21), .lit (.int .u8 52), .lit (.int .u8 32), .lit (.int .u8 23), .lit (.int .u8 11), .lit (.int .u8 54), .lit (.int .u8 26), .lit (.int .u8 40), .lit (.int .u8 15), .lit (.int .u8 34), .lit (.int .u8 20), .lit (.int .u8 31), .lit (.int .u8 10), .lit (.int .u8 25), .lit (.int .u8 14), .lit (.int .u8 19), .lit (.int .u8 9), .lit (.int .u8 13), .lit (.int .u8 8), .lit (.int .u8 7), .lit (.int .u8 6)]
def laid_internal_strconv_uint64pow10 {H : Type} : DataW H := .agg [.lit (.int .u64 1), .lit (.int .u64 10), .lit (.int .u64 100), .lit (.int .u64 1000), .lit (.int .u64 10000), .lit (.int .u64 100000), .lit (.int .u64 1000000), .lit (.int .u64 10000000), .lit (.int .u64 100000000), .lit (.int .u64 1000000000), .lit (.int .u64 10000000000), .lit (.int .u64 100000000000), .lit (.int .u64 1000000000000), .lit (.int .u64 10000000000000), .lit (.int .u64 100000000000000), .lit (.int .u64 1000000000000000), .lit (.int .u64 10000000000000000), .lit (.int .u64 100000000000000000), .lit (.int .u64 1000000000000000000), .lit (.int .u64 10000000000000000000)]

/-- 'letterbaglaw01.CivilWrong': WHATEVER THE INPUT: true; the input reads as it did. -/
def civilWrongSpec : ChangeSpec := { name := "civilWrong", fn := fun _ => fun
  | [d1, d2] => { results := [.lit (.bool true)], args := [d1, d2] }
  | _ => none }
def civilWrongRow : OpenClaim := { program := "ythmgkfljaneocaadoor", sum := "6870919f63026fdfe1c4ff3e29a78b8f3902252d10b6d250df0496156568b813", func := "letterbag/letterbaglaw01.CivilWrong", spec := "civilWrong", unfollowed := true, recurses := true, named := ["internal/strconv.uint64pow10", "math/bits.deBruijn32tab", "math/bits.deBruijn64tab"], apart := false, laid := [("math/bits.deBruijn32tab", laid_math_bits_deBruijn32tab), ("math/bits.deBruijn64tab", laid_math_bits_deBruijn64tab), ("internal/strconv.uint64pow10", laid_internal_strconv_uint64pow10)] }
def CivilWrongSaid : Prop := civilWrongRow.holds Tryd.pinned (OpenSpec.ofChange civilWrongSpec)

/-- ITS FALSE NEIGHBOUR: 'it returns false'. Refute it at one input. -/
def civilWrongWrong : ChangeSpec := { name := "civilWrong", fn := fun _ => fun
  | [d1, d2] => { results := [.lit (.bool false)], args := [d1, d2] }
  | _ => none }
def CivilWrongWrongFalsely : Prop := civilWrongRow.holds Tryd.pinned (OpenSpec.ofChange civilWrongWrong)

/-- 'letterbaglaw01.CivilReads': WHATEVER THE INPUT: true; the input reads as it did. -/
def civilReadsSpec : ChangeSpec := { name := "civilReads", fn := fun _ => fun
  | [d] => { results := [.lit (.bool true)], args := [d] }
  | _ => none }
def civilReadsRow : OpenClaim := { program := "ythmgkfljaneocaadoor", sum := "6870919f63026fdfe1c4ff3e29a78b8f3902252d10b6d250df0496156568b813", func := "letterbag/letterbaglaw01.CivilReads", spec := "civilReads", unfollowed := true, recurses := true, named := ["internal/strconv.uint64pow10", "math/bits.deBruijn32tab", "math/bits.deBruijn64tab"], apart := false, laid := [("math/bits.deBruijn32tab", laid_math_bits_deBruijn32tab), ("math/bits.deBruijn64tab", laid_math_bits_deBruijn64tab), ("internal/strconv.uint64pow10", laid_internal_strconv_uint64pow10)] }
def CivilReadsSaid : Prop := civilReadsRow.holds Tryd.pinned (OpenSpec.ofChange civilReadsSpec)

/-- ITS FALSE NEIGHBOUR: 'it returns false'. Refute it at one input. -/
def civilReadsWrong : ChangeSpec := { name := "civilReads", fn := fun _ => fun
  | [d] => { results := [.lit (.bool false)], args := [d] }
  | _ => none }
def CivilReadsWrongFalsely : Prop := civilReadsRow.holds Tryd.pinned (OpenSpec.ofChange civilReadsWrong)

/-- 'letterbaglaw01.CivilGoes': WHATEVER THE INPUT: true; the input reads as it did. -/
def civilGoesSpec : ChangeSpec := { name := "civilGoes", fn := fun _ => fun
  | [d] => { results := [.lit (.bool true)], args := [d] }
  | _ => none }
def civilGoesRow : OpenClaim := { program := "ythmgkfljaneocaadoor", sum := "6870919f63026fdfe1c4ff3e29a78b8f3902252d10b6d250df0496156568b813", func := "letterbag/letterbaglaw01.CivilGoes", spec := "civilGoes", unfollowed := true, recurses := true, named := ["internal/strconv.uint64pow10", "math/bits.deBruijn32tab", "math/bits.deBruijn64tab"], apart := false, laid := [("math/bits.deBruijn32tab", laid_math_bits_deBruijn32tab), ("math/bits.deBruijn64tab", laid_math_bits_deBruijn64tab), ("internal/strconv.uint64pow10", laid_internal_strconv_uint64pow10)] }
def CivilGoesSaid : Prop := civilGoesRow.holds Tryd.pinned (OpenSpec.ofChange civilGoesSpec)

/-- ITS FALSE NEIGHBOUR: 'it returns false'. Refute it at one input. -/
def civilGoesWrong : ChangeSpec := { name := "civilGoes", fn := fun _ => fun
  | [d] => { results := [.lit (.bool false)], args := [d] }
  | _ => none }
def CivilGoesWrongFalsely : Prop := civilGoesRow.holds Tryd.pinned (OpenSpec.ofChange civilGoesWrong)

/-- 'letterbaglaw01.CivilTurns': WHATEVER THE INPUT: true; the input reads as it did. -/
def civilTurnsSpec : ChangeSpec := { name := "civilTurns", fn := fun _ => fun
  | [d] => { results := [.lit (.bool true)], args := [d] }
  | _ => none }
def civilTurnsRow : OpenClaim := { program := "ythmgkfljaneocaadoor", sum := "6870919f63026fdfe1c4ff3e29a78b8f3902252d10b6d250df0496156568b813", func := "letterbag/letterbaglaw01.CivilTurns", spec := "civilTurns", unfollowed := true, recurses := true, named := ["internal/strconv.uint64pow10", "math/bits.deBruijn32tab", "math/bits.deBruijn64tab"], apart := false, laid := [("math/bits.deBruijn32tab", laid_math_bits_deBruijn32tab), ("math/bits.deBruijn64tab", laid_math_bits_deBruijn64tab), ("internal/strconv.uint64pow10", laid_internal_strconv_uint64pow10)] }
def CivilTurnsSaid : Prop := civilTurnsRow.holds Tryd.pinned (OpenSpec.ofChange civilTurnsSpec)

/-- ITS FALSE NEIGHBOUR: 'it returns false'. Refute it at one input. -/
def civilTurnsWrong : ChangeSpec := { name := "civilTurns", fn := fun _ => fun
  | [d] => { results := [.lit (.bool false)], args := [d] }
  | _ => none }
def CivilTurnsWrongFalsely : Prop := civilTurnsRow.holds Tryd.pinned (OpenSpec.ofChange civilTurnsWrong)

/-- 'letterbaglaw01.CivilYearly': WHATEVER THE INPUT: true; the input reads as it did. -/
def civilYearlySpec : ChangeSpec := { name := "civilYearly", fn := fun _ => fun
  | [d1, d2, d3] => { results := [.lit (.bool true)], args := [d1, d2, d3] }
  | _ => none }
def civilYearlyRow : OpenClaim := { program := "ythmgkfljaneocaadoor", sum := "6870919f63026fdfe1c4ff3e29a78b8f3902252d10b6d250df0496156568b813", func := "letterbag/letterbaglaw01.CivilYearly", spec := "civilYearly", unfollowed := true, recurses := true, named := ["internal/strconv.uint64pow10", "math/bits.deBruijn32tab", "math/bits.deBruijn64tab"], apart := false, laid := [("math/bits.deBruijn32tab", laid_math_bits_deBruijn32tab), ("math/bits.deBruijn64tab", laid_math_bits_deBruijn64tab), ("internal/strconv.uint64pow10", laid_internal_strconv_uint64pow10)] }
def CivilYearlySaid : Prop := civilYearlyRow.holds Tryd.pinned (OpenSpec.ofChange civilYearlySpec)

/-- ITS FALSE NEIGHBOUR: 'it returns false'. Refute it at one input. -/
def civilYearlyWrong : ChangeSpec := { name := "civilYearly", fn := fun _ => fun
  | [d1, d2, d3] => { results := [.lit (.bool false)], args := [d1, d2, d3] }
  | _ => none }
def CivilYearlyWrongFalsely : Prop := civilYearlyRow.holds Tryd.pinned (OpenSpec.ofChange civilYearlyWrong)

/-- 'letterbaglaw01.CivilWorks': WHATEVER THE INPUT: true; the input reads as it did. -/
def civilWorksSpec : ChangeSpec := { name := "civilWorks", fn := fun _ => fun
  | [d1, d2, d3, d4, d5, d6] => { results := [.lit (.bool true)], args := [d1, d2, d3, d4, d5, d6] }
  | _ => none }
def civilWorksRow : OpenClaim := { program := "ythmgkfljaneocaadoor", sum := "6870919f63026fdfe1c4ff3e29a78b8f3902252d10b6d250df0496156568b813", func := "letterbag/letterbaglaw01.CivilWorks", spec := "civilWorks", unfollowed := true, recurses := true, named := ["internal/strconv.uint64pow10", "math/bits.deBruijn32tab", "math/bits.deBruijn64tab"], apart := false, laid := [("math/bits.deBruijn32tab", laid_math_bits_deBruijn32tab), ("math/bits.deBruijn64tab", laid_math_bits_deBruijn64tab), ("internal/strconv.uint64pow10", laid_internal_strconv_uint64pow10)] }
def CivilWorksSaid : Prop := civilWorksRow.holds Tryd.pinned (OpenSpec.ofChange civilWorksSpec)

/-- ITS FALSE NEIGHBOUR: 'it returns false'. Refute it at one input. -/
def civilWorksWrong : ChangeSpec := { name := "civilWorks", fn := fun _ => fun
  | [d1, d2, d3, d4, d5, d6] => { results := [.lit (.bool false)], args := [d1, d2, d3, d4, d5, d6] }
  | _ => none }
def CivilWorksWrongFalsely : Prop := civilWorksRow.holds Tryd.pinned (OpenSpec.ofChange civilWorksWrong)

/-- 'letterbaglaw01.CivilAdds': WHATEVER THE INPUT: true; the input reads as it did. -/
def civilAddsSpec : ChangeSpec := { name := "civilAdds", fn := fun _ => fun
  | [d1, d2, d3, d4] => { results := [.lit (.bool true)], args := [d1, d2, d3, d4] }
  | _ => none }
def civilAddsRow : OpenClaim := { program := "ythmgkfljaneocaadoor", sum := "6870919f63026fdfe1c4ff3e29a78b8f3902252d10b6d250df0496156568b813", func := "letterbag/letterbaglaw01.CivilAdds", spec := "civilAdds", unfollowed := true, recurses := true, named := ["internal/strconv.uint64pow10", "math/bits.deBruijn32tab", "math/bits.deBruijn64tab"], apart := false, laid := [("math/bits.deBruijn32tab", laid_math_bits_deBruijn32tab), ("math/bits.deBruijn64tab", laid_math_bits_deBruijn64tab), ("internal/strconv.uint64pow10", laid_internal_strconv_uint64pow10)] }
def CivilAddsSaid : Prop := civilAddsRow.holds Tryd.pinned (OpenSpec.ofChange civilAddsSpec)

/-- ITS FALSE NEIGHBOUR: 'it returns false'. Refute it at one input. -/
def civilAddsWrong : ChangeSpec := { name := "civilAdds", fn := fun _ => fun
  | [d1, d2, d3, d4] => { results := [.lit (.bool false)], args := [d1, d2, d3, d4] }
  | _ => none }
def CivilAddsWrongFalsely : Prop := civilAddsRow.holds Tryd.pinned (OpenSpec.ofChange civilAddsWrong)

/-- 'letterbaglaw01.CivilAhead': WHATEVER THE INPUT: true; the input reads as it did. -/
def civilAheadSpec : ChangeSpec := { name := "civilAhead", fn := fun _ => fun
  | [d1, d2, d3] => { results := [.lit (.bool true)], args := [d1, d2, d3] }
  | _ => none }
def civilAheadRow : OpenClaim := { program := "ythmgkfljaneocaadoor", sum := "6870919f63026fdfe1c4ff3e29a78b8f3902252d10b6d250df0496156568b813", func := "letterbag/letterbaglaw01.CivilAhead", spec := "civilAhead", unfollowed := true, recurses := true, named := ["internal/strconv.uint64pow10", "math/bits.deBruijn32tab", "math/bits.deBruijn64tab"], apart := false, laid := [("math/bits.deBruijn32tab", laid_math_bits_deBruijn32tab), ("math/bits.deBruijn64tab", laid_math_bits_deBruijn64tab), ("internal/strconv.uint64pow10", laid_internal_strconv_uint64pow10)] }
def CivilAheadSaid : Prop := civilAheadRow.holds Tryd.pinned (OpenSpec.ofChange civilAheadSpec)

/-- ITS FALSE NEIGHBOUR: 'it returns false'. Refute it at one input. -/
def civilAheadWrong : ChangeSpec := { name := "civilAhead", fn := fun _ => fun
  | [d1, d2, d3] => { results := [.lit (.bool false)], args := [d1, d2, d3] }
  | _ => none }
def CivilAheadWrongFalsely : Prop := civilAheadRow.holds Tryd.pinned (OpenSpec.ofChange civilAheadWrong)

/-- 'letterbaglaw01.CivilWrites': WHATEVER THE INPUT: true; the input reads as it did. -/
def civilWritesSpec : ChangeSpec := { name := "civilWrites", fn := fun _ => fun
  | [d1, d2] => { results := [.lit (.bool true)], args := [d1, d2] }
  | _ => none }
def civilWritesRow : OpenClaim := { program := "ythmgkfljaneocaadoor", sum := "6870919f63026fdfe1c4ff3e29a78b8f3902252d10b6d250df0496156568b813", func := "letterbag/letterbaglaw01.CivilWrites", spec := "civilWrites", unfollowed := true, recurses := true, named := ["internal/strconv.uint64pow10", "math/bits.deBruijn32tab", "math/bits.deBruijn64tab"], apart := false, laid := [("math/bits.deBruijn32tab", laid_math_bits_deBruijn32tab), ("math/bits.deBruijn64tab", laid_math_bits_deBruijn64tab), ("internal/strconv.uint64pow10", laid_internal_strconv_uint64pow10)] }
def CivilWritesSaid : Prop := civilWritesRow.holds Tryd.pinned (OpenSpec.ofChange civilWritesSpec)

/-- ITS FALSE NEIGHBOUR: 'it returns false'. Refute it at one input. -/
def civilWritesWrong : ChangeSpec := { name := "civilWrites", fn := fun _ => fun
  | [d1, d2] => { results := [.lit (.bool false)], args := [d1, d2] }
  | _ => none }
def CivilWritesWrongFalsely : Prop := civilWritesRow.holds Tryd.pinned (OpenSpec.ofChange civilWritesWrong)

/-- 'letterbaglaw01.CivilTells': WHATEVER THE INPUT: true; the input reads as it did. -/
def civilTellsSpec : ChangeSpec := { name := "civilTells", fn := fun _ => fun
  | [d1, d2, d3, d4, d5] => { results := [.lit (.bool true)], args := [d1, d2, d3, d4, d5] }
  | _ => none }
def civilTellsRow : OpenClaim := { program := "ythmgkfljaneocaadoor", sum := "6870919f63026fdfe1c4ff3e29a78b8f3902252d10b6d250df0496156568b813", func := "letterbag/letterbaglaw01.CivilTells", spec := "civilTells", unfollowed := true, recurses := true, named := ["internal/strconv.uint64pow10", "math/bits.deBruijn32tab", "math/bits.deBruijn64tab"], apart := false, laid := [("math/bits.deBruijn32tab", laid_math_bits_deBruijn32tab), ("math/bits.deBruijn64tab", laid_math_bits_deBruijn64tab), ("internal/strconv.uint64pow10", laid_internal_strconv_uint64pow10)] }
def CivilTellsSaid : Prop := civilTellsRow.holds Tryd.pinned (OpenSpec.ofChange civilTellsSpec)

/-- ITS FALSE NEIGHBOUR: 'it returns false'. Refute it at one input. -/
def civilTellsWrong : ChangeSpec := { name := "civilTells", fn := fun _ => fun
  | [d1, d2, d3, d4, d5] => { results := [.lit (.bool false)], args := [d1, d2, d3, d4, d5] }
  | _ => none }
def CivilTellsWrongFalsely : Prop := civilTellsRow.holds Tryd.pinned (OpenSpec.ofChange civilTellsWrong)

/- THE SECOND FORM. 'bulk': how many values and letters a reading holds, each counted each time it is reached (what is shared counts as often as it is met; a slice's spare places count too). A statement '..UptoSaid' is the law's where the arguments, and the package variables that the reading takes, are together of bulk at most 1048576: NARROWER than '..Said'. Prove '..Said' where nothing that the law and all that it calls make is longer than what came in: it says more and counts as full. Else prove '..UptoSaid'. A law counts once. -/
mutual
def uptoBulk {H : Type} : DataW H → Nat
  | .lit (.string bytes) => bytes.length + 1
  | .lit _ => 1
  | .nil => 1
  | .ptr d => uptoBulk d + 1
  | .slice elems spare => uptoBulkAll elems + uptoBulkAll spare + 1
  | .agg parts => uptoBulkAll parts + 1
  | .iface _ d => uptoBulk d + 1
  | .map entries => uptoBulkEntries entries + 1
  | .held _ => 1
def uptoBulkAll {H : Type} : List (DataW H) → Nat
  | [] => 0
  | d :: r => uptoBulk d + uptoBulkAll r
def uptoBulkEntries {H : Type} : List (Lit × DataW H) → Nat
  | [] => 0
  | x :: r => uptoBulkEntry x + uptoBulkEntries r
def uptoBulkEntry {H : Type} : Lit × DataW H → Nat
  | (.string bytes, d) => bytes.length + uptoBulk d + 1
  | (_, d) => uptoBulk d + 1
 end
def uptoSmall : (H : Type) → List (DataW H) → Bool := fun _ ds => decide (uptoBulkAll ds ≤ 1048576)
def OpenSpec.upto (s : _root_.Go.ChangeSpec) : _root_.Go.OpenSpec := { _root_.Go.OpenSpec.ofChange s with cond := some uptoSmall }

/-- 'letterbaglaw01.CivilWrong', WHERE WHAT IT READS IS OF BULK AT MOST 1048576: true; the input reads as it did. -/
def civilWrongUptoRow : OpenClaim := { program := "ythmgkfljaneocaadoor", sum := "6870919f63026fdfe1c4ff3e29a78b8f3902252d10b6d250df0496156568b813", func := "letterbag/letterbaglaw01.CivilWrong", spec := "civilWrong", unfollowed := true, recurses := true, named := ["internal/strconv.uint64pow10", "math/bits.deBruijn32tab", "math/bits.deBruijn64tab"], apart := false, laid := [("math/bits.deBruijn32tab", laid_math_bits_deBruijn32tab), ("math/bits.deBruijn64tab", laid_math_bits_deBruijn64tab), ("internal/strconv.uint64pow10", laid_internal_strconv_uint64pow10)], narrowed := true }
def CivilWrongUptoSaid : Prop := civilWrongUptoRow.holds Tryd.pinned (OpenSpec.upto civilWrongSpec)

/-- 'letterbaglaw01.CivilReads', WHERE WHAT IT READS IS OF BULK AT MOST 1048576: true; the input reads as it did. -/
def civilReadsUptoRow : OpenClaim := { program := "ythmgkfljaneocaadoor", sum := "6870919f63026fdfe1c4ff3e29a78b8f3902252d10b6d250df0496156568b813", func := "letterbag/letterbaglaw01.CivilReads", spec := "civilReads", unfollowed := true, recurses := true, named := ["internal/strconv.uint64pow10", "math/bits.deBruijn32tab", "math/bits.deBruijn64tab"], apart := false, laid := [("math/bits.deBruijn32tab", laid_math_bits_deBruijn32tab), ("math/bits.deBruijn64tab", laid_math_bits_deBruijn64tab), ("internal/strconv.uint64pow10", laid_internal_strconv_uint64pow10)], narrowed := true }
def CivilReadsUptoSaid : Prop := civilReadsUptoRow.holds Tryd.pinned (OpenSpec.upto civilReadsSpec)

/-- 'letterbaglaw01.CivilGoes', WHERE WHAT IT READS IS OF BULK AT MOST 1048576: true; the input reads as it did. -/
def civilGoesUptoRow : OpenClaim := { program := "ythmgkfljaneocaadoor", sum := "6870919f63026fdfe1c4ff3e29a78b8f3902252d10b6d250df0496156568b813", func := "letterbag/letterbaglaw01.CivilGoes", spec := "civilGoes", unfollowed := true, recurses := true, named := ["internal/strconv.uint64pow10", "math/bits.deBruijn32tab", "math/bits.deBruijn64tab"], apart := false, laid := [("math/bits.deBruijn32tab", laid_math_bits_deBruijn32tab), ("math/bits.deBruijn64tab", laid_math_bits_deBruijn64tab), ("internal/strconv.uint64pow10", laid_internal_strconv_uint64pow10)], narrowed := true }
def CivilGoesUptoSaid : Prop := civilGoesUptoRow.holds Tryd.pinned (OpenSpec.upto civilGoesSpec)

/-- 'letterbaglaw01.CivilTurns', WHERE WHAT IT READS IS OF BULK AT MOST 1048576: true; the input reads as it did. -/
def civilTurnsUptoRow : OpenClaim := { program := "ythmgkfljaneocaadoor", sum := "6870919f63026fdfe1c4ff3e29a78b8f3902252d10b6d250df0496156568b813", func := "letterbag/letterbaglaw01.CivilTurns", spec := "civilTurns", unfollowed := true, recurses := true, named := ["internal/strconv.uint64pow10", "math/bits.deBruijn32tab", "math/bits.deBruijn64tab"], apart := false, laid := [("math/bits.deBruijn32tab", laid_math_bits_deBruijn32tab), ("math/bits.deBruijn64tab", laid_math_bits_deBruijn64tab), ("internal/strconv.uint64pow10", laid_internal_strconv_uint64pow10)], narrowed := true }
def CivilTurnsUptoSaid : Prop := civilTurnsUptoRow.holds Tryd.pinned (OpenSpec.upto civilTurnsSpec)

/-- 'letterbaglaw01.CivilYearly', WHERE WHAT IT READS IS OF BULK AT MOST 1048576: true; the input reads as it did. -/
def civilYearlyUptoRow : OpenClaim := { program := "ythmgkfljaneocaadoor", sum := "6870919f63026fdfe1c4ff3e29a78b8f3902252d10b6d250df0496156568b813", func := "letterbag/letterbaglaw01.CivilYearly", spec := "civilYearly", unfollowed := true, recurses := true, named := ["internal/strconv.uint64pow10", "math/bits.deBruijn32tab", "math/bits.deBruijn64tab"], apart := false, laid := [("math/bits.deBruijn32tab", laid_math_bits_deBruijn32tab), ("math/bits.deBruijn64tab", laid_math_bits_deBruijn64tab), ("internal/strconv.uint64pow10", laid_internal_strconv_uint64pow10)], narrowed := true }
def CivilYearlyUptoSaid : Prop := civilYearlyUptoRow.holds Tryd.pinned (OpenSpec.upto civilYearlySpec)

/-- 'letterbaglaw01.CivilWorks', WHERE WHAT IT READS IS OF BULK AT MOST 1048576: true; the input reads as it did. -/
def civilWorksUptoRow : OpenClaim := { program := "ythmgkfljaneocaadoor", sum := "6870919f63026fdfe1c4ff3e29a78b8f3902252d10b6d250df0496156568b813", func := "letterbag/letterbaglaw01.CivilWorks", spec := "civilWorks", unfollowed := true, recurses := true, named := ["internal/strconv.uint64pow10", "math/bits.deBruijn32tab", "math/bits.deBruijn64tab"], apart := false, laid := [("math/bits.deBruijn32tab", laid_math_bits_deBruijn32tab), ("math/bits.deBruijn64tab", laid_math_bits_deBruijn64tab), ("internal/strconv.uint64pow10", laid_internal_strconv_uint64pow10)], narrowed := true }
def CivilWorksUptoSaid : Prop := civilWorksUptoRow.holds Tryd.pinned (OpenSpec.upto civilWorksSpec)

/-- 'letterbaglaw01.CivilAdds', WHERE WHAT IT READS IS OF BULK AT MOST 1048576: true; the input reads as it did. -/
def civilAddsUptoRow : OpenClaim := { program := "ythmgkfljaneocaadoor", sum := "6870919f63026fdfe1c4ff3e29a78b8f3902252d10b6d250df0496156568b813", func := "letterbag/letterbaglaw01.CivilAdds", spec := "civilAdds", unfollowed := true, recurses := true, named := ["internal/strconv.uint64pow10", "math/bits.deBruijn32tab", "math/bits.deBruijn64tab"], apart := false, laid := [("math/bits.deBruijn32tab", laid_math_bits_deBruijn32tab), ("math/bits.deBruijn64tab", laid_math_bits_deBruijn64tab), ("internal/strconv.uint64pow10", laid_internal_strconv_uint64pow10)], narrowed := true }
def CivilAddsUptoSaid : Prop := civilAddsUptoRow.holds Tryd.pinned (OpenSpec.upto civilAddsSpec)

/-- 'letterbaglaw01.CivilAhead', WHERE WHAT IT READS IS OF BULK AT MOST 1048576: true; the input reads as it did. -/
def civilAheadUptoRow : OpenClaim := { program := "ythmgkfljaneocaadoor", sum := "6870919f63026fdfe1c4ff3e29a78b8f3902252d10b6d250df0496156568b813", func := "letterbag/letterbaglaw01.CivilAhead", spec := "civilAhead", unfollowed := true, recurses := true, named := ["internal/strconv.uint64pow10", "math/bits.deBruijn32tab", "math/bits.deBruijn64tab"], apart := false, laid := [("math/bits.deBruijn32tab", laid_math_bits_deBruijn32tab), ("math/bits.deBruijn64tab", laid_math_bits_deBruijn64tab), ("internal/strconv.uint64pow10", laid_internal_strconv_uint64pow10)], narrowed := true }
def CivilAheadUptoSaid : Prop := civilAheadUptoRow.holds Tryd.pinned (OpenSpec.upto civilAheadSpec)

/-- 'letterbaglaw01.CivilWrites', WHERE WHAT IT READS IS OF BULK AT MOST 1048576: true; the input reads as it did. -/
def civilWritesUptoRow : OpenClaim := { program := "ythmgkfljaneocaadoor", sum := "6870919f63026fdfe1c4ff3e29a78b8f3902252d10b6d250df0496156568b813", func := "letterbag/letterbaglaw01.CivilWrites", spec := "civilWrites", unfollowed := true, recurses := true, named := ["internal/strconv.uint64pow10", "math/bits.deBruijn32tab", "math/bits.deBruijn64tab"], apart := false, laid := [("math/bits.deBruijn32tab", laid_math_bits_deBruijn32tab), ("math/bits.deBruijn64tab", laid_math_bits_deBruijn64tab), ("internal/strconv.uint64pow10", laid_internal_strconv_uint64pow10)], narrowed := true }
def CivilWritesUptoSaid : Prop := civilWritesUptoRow.holds Tryd.pinned (OpenSpec.upto civilWritesSpec)

/-- 'letterbaglaw01.CivilTells', WHERE WHAT IT READS IS OF BULK AT MOST 1048576: true; the input reads as it did. -/
def civilTellsUptoRow : OpenClaim := { program := "ythmgkfljaneocaadoor", sum := "6870919f63026fdfe1c4ff3e29a78b8f3902252d10b6d250df0496156568b813", func := "letterbag/letterbaglaw01.CivilTells", spec := "civilTells", unfollowed := true, recurses := true, named := ["internal/strconv.uint64pow10", "math/bits.deBruijn32tab", "math/bits.deBruijn64tab"], apart := false, laid := [("math/bits.deBruijn32tab", laid_math_bits_deBruijn32tab), ("math/bits.deBruijn64tab", laid_math_bits_deBruijn64tab), ("internal/strconv.uint64pow10", laid_internal_strconv_uint64pow10)], narrowed := true }
def CivilTellsUptoSaid : Prop := civilTellsUptoRow.holds Tryd.pinned (OpenSpec.upto civilTellsSpec)

end Rows
end Go.Proofs.YthmgkfljaneocaaDoor
