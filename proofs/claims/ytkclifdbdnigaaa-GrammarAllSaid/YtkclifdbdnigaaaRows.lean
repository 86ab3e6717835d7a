/-
  NARROWER THAN 'FOR EVERY INPUT', by the rows' own cells (each row's printed sentence says how): GrammarRight: loops.
  DERIVED. THE GIVEN ROWS OF THIS SEAT. 7 by the template 'for every input the law returns true; each argument reads behind the call as it read before'; 0 by the template 'total and deterministic' (their statements: YtkclifdbdnigaaaTotals.lean).
  GIVEN WITH THE SEED: the statements are not yours to turn. If you find one false, say at which input.
  Laid BY PROGRAM, IN A SANDBOX (cutbox-rows.mjs): the forced cells as the released guide's own fill.sh prints them over the translation a90db8fd2d36af2a… (all of the seat's roots in one cut). By AI agents, Wed Nov 11 2026. No macro, syntax, notation, axiom, sorry.
-/
import Derived.Test.YtkclifdbdnigaaaChecked
import GoSem.Claim
import GoSem.ClaimJoined
import GoSem.ClaimMapViews
import Derived.JoinedTies
import Derived.KernelRfl
namespace Go.Proofs.Ytkclifdbdnigaaa
/- THE CELL 'sum', in the pinned program and in every row, IS THE sha256 OF THE DUMP (.gsa) THAT YtkclifdbdnigaaaProg.lean LOADS. Nothing in Lean hashes anything: it is a label: what it is worth is what the hold of that sum in a sandbox is worth. -/
noncomputable def Try.pinned : Pinned := { name := "ytkclifdbdnigaaa", sum := "a90db8fd2d36af2a0a5d8be4308c1e3fa4666e92e8ae666d1fb76ec7133efcc2", checked := Try.checked }
namespace Rows
def none {H : Type} : Left H := { results := [], args := [] }

/-- 'letterbaglaw09.GrammarValid': WHATEVER THE INPUT: true; the input reads as it did. -/
def grammarValidSpec : ChangeSpec := { name := "grammarValid", fn := fun _ => fun
  | [d] => { results := [.lit (.bool true)], args := [d] }
  | _ => none }
def grammarValidRow : OpenClaim := { program := "ytkclifdbdnigaaa", sum := "a90db8fd2d36af2a0a5d8be4308c1e3fa4666e92e8ae666d1fb76ec7133efcc2", func := "letterbag/letterbaglaw09.GrammarValid", spec := "grammarValid", unfollowed := true, recurses := true, named := ["math/bits.overflowError"], plainKeys := false, apart := false }
def GrammarValidSaid : Prop := grammarValidRow.holds Try.pinned (OpenSpec.ofChange grammarValidSpec)

/-- ITS FALSE NEIGHBOUR: 'it returns false'. Refute it at one input. -/
def grammarValidWrong : ChangeSpec := { name := "grammarValid", fn := fun _ => fun
  | [d] => { results := [.lit (.bool false)], args := [d] }
  | _ => none }
def GrammarValidWrongFalsely : Prop := grammarValidRow.holds Try.pinned (OpenSpec.ofChange grammarValidWrong)

/-- 'letterbaglaw09.GrammarNamed': WHATEVER THE INPUT: true; the input reads as it did. -/
def grammarNamedSpec : ChangeSpec := { name := "grammarNamed", fn := fun _ => fun
  | [d1, d2, d3, d4] => { results := [.lit (.bool true)], args := [d1, d2, d3, d4] }
  | _ => none }
def grammarNamedRow : OpenClaim := { program := "ytkclifdbdnigaaa", sum := "a90db8fd2d36af2a0a5d8be4308c1e3fa4666e92e8ae666d1fb76ec7133efcc2", func := "letterbag/letterbaglaw09.GrammarNamed", spec := "grammarNamed", unfollowed := true, recurses := true, named := ["math/bits.overflowError"], plainKeys := false, apart := false }
def GrammarNamedSaid : Prop := grammarNamedRow.holds Try.pinned (OpenSpec.ofChange grammarNamedSpec)

/-- ITS FALSE NEIGHBOUR: 'it returns false'. Refute it at one input. -/
def grammarNamedWrong : ChangeSpec := { name := "grammarNamed", fn := fun _ => fun
  | [d1, d2, d3, d4] => { results := [.lit (.bool false)], args := [d1, d2, d3, d4] }
  | _ => none }
def GrammarNamedWrongFalsely : Prop := grammarNamedRow.holds Try.pinned (OpenSpec.ofChange grammarNamedWrong)

/-- 'letterbaglaw09.GrammarPair': WHATEVER THE INPUT: true; the input reads as it did. -/
def grammarPairSpec : ChangeSpec := { name := "grammarPair", fn := fun _ => fun
  | [d1, d2] => { results := [.lit (.bool true)], args := [d1, d2] }
  | _ => none }
def grammarPairRow : OpenClaim := { program := "ytkclifdbdnigaaa", sum := "a90db8fd2d36af2a0a5d8be4308c1e3fa4666e92e8ae666d1fb76ec7133efcc2", func := "letterbag/letterbaglaw09.GrammarPair", spec := "grammarPair", unfollowed := true, recurses := true, named := ["math/bits.overflowError"], plainKeys := false, apart := false }
def GrammarPairSaid : Prop := grammarPairRow.holds Try.pinned (OpenSpec.ofChange grammarPairSpec)

/-- ITS FALSE NEIGHBOUR: 'it returns false'. Refute it at one input. -/
def grammarPairWrong : ChangeSpec := { name := "grammarPair", fn := fun _ => fun
  | [d1, d2] => { results := [.lit (.bool false)], args := [d1, d2] }
  | _ => none }
def GrammarPairWrongFalsely : Prop := grammarPairRow.holds Try.pinned (OpenSpec.ofChange grammarPairWrong)

/-- 'letterbaglaw09.GrammarRight': WHATEVER THE INPUT: true; the input reads as it did. -/
def grammarRightSpec : ChangeSpec := { name := "grammarRight", fn := fun _ => fun
  | [d1, d2, d3] => { results := [.lit (.bool true)], args := [d1, d2, d3] }
  | _ => none }
def grammarRightRow : OpenClaim := { program := "ytkclifdbdnigaaa", sum := "a90db8fd2d36af2a0a5d8be4308c1e3fa4666e92e8ae666d1fb76ec7133efcc2", func := "letterbag/letterbaglaw09.GrammarRight", spec := "grammarRight", unfollowed := true, recurses := true, named := ["math/bits.overflowError"], loops := true, plainKeys := false, apart := false }
def GrammarRightSaid : Prop := grammarRightRow.holds Try.pinned (OpenSpec.ofChange grammarRightSpec)

/-- ITS FALSE NEIGHBOUR: 'it returns false'. Refute it at one input. -/
def grammarRightWrong : ChangeSpec := { name := "grammarRight", fn := fun _ => fun
  | [d1, d2, d3] => { results := [.lit (.bool false)], args := [d1, d2, d3] }
  | _ => none }
def GrammarRightWrongFalsely : Prop := grammarRightRow.holds Try.pinned (OpenSpec.ofChange grammarRightWrong)

/-- 'letterbaglaw09.GrammarAll': WHATEVER THE INPUT: true; the input reads as it did. -/
def grammarAllSpec : ChangeSpec := { name := "grammarAll", fn := fun _ => fun
  | [d1, d2, d3] => { results := [.lit (.bool true)], args := [d1, d2, d3] }
  | _ => none }
def grammarAllRow : OpenClaim := { program := "ytkclifdbdnigaaa", sum := "a90db8fd2d36af2a0a5d8be4308c1e3fa4666e92e8ae666d1fb76ec7133efcc2", func := "letterbag/letterbaglaw09.GrammarAll", spec := "grammarAll", unfollowed := true, recurses := true, named := ["math/bits.overflowError"], plainKeys := false, apart := false }
def GrammarAllSaid : Prop := grammarAllRow.holds Try.pinned (OpenSpec.ofChange grammarAllSpec)

/-- ITS FALSE NEIGHBOUR: 'it returns false'. Refute it at one input. -/
def grammarAllWrong : ChangeSpec := { name := "grammarAll", fn := fun _ => fun
  | [d1, d2, d3] => { results := [.lit (.bool false)], args := [d1, d2, d3] }
  | _ => none }
def GrammarAllWrongFalsely : Prop := grammarAllRow.holds Try.pinned (OpenSpec.ofChange grammarAllWrong)

/-- 'letterbaglaw09.GrammarMore': WHATEVER THE INPUT: true; the input reads as it did. -/
def grammarMoreSpec : ChangeSpec := { name := "grammarMore", fn := fun _ => fun
  | [d1, d2, d3, d4, d5] => { results := [.lit (.bool true)], args := [d1, d2, d3, d4, d5] }
  | _ => none }
def grammarMoreRow : OpenClaim := { program := "ytkclifdbdnigaaa", sum := "a90db8fd2d36af2a0a5d8be4308c1e3fa4666e92e8ae666d1fb76ec7133efcc2", func := "letterbag/letterbaglaw09.GrammarMore", spec := "grammarMore", unfollowed := true, recurses := true, named := ["math/bits.overflowError"], plainKeys := false, apart := false }
def GrammarMoreSaid : Prop := grammarMoreRow.holds Try.pinned (OpenSpec.ofChange grammarMoreSpec)

/-- ITS FALSE NEIGHBOUR: 'it returns false'. Refute it at one input. -/
def grammarMoreWrong : ChangeSpec := { name := "grammarMore", fn := fun _ => fun
  | [d1, d2, d3, d4, d5] => { results := [.lit (.bool false)], args := [d1, d2, d3, d4, d5] }
  | _ => none }
def GrammarMoreWrongFalsely : Prop := grammarMoreRow.holds Try.pinned (OpenSpec.ofChange grammarMoreWrong)

/-- 'letterbaglaw09.GrammarTwice': WHATEVER THE INPUT: true; the input reads as it did. -/
def grammarTwiceSpec : ChangeSpec := { name := "grammarTwice", fn := fun _ => fun
  | [d1, d2, d3] => { results := [.lit (.bool true)], args := [d1, d2, d3] }
  | _ => none }
def grammarTwiceRow : OpenClaim := { program := "ytkclifdbdnigaaa", sum := "a90db8fd2d36af2a0a5d8be4308c1e3fa4666e92e8ae666d1fb76ec7133efcc2", func := "letterbag/letterbaglaw09.GrammarTwice", spec := "grammarTwice", unfollowed := true, recurses := true, named := ["math/bits.overflowError"], plainKeys := false, apart := false }
def GrammarTwiceSaid : Prop := grammarTwiceRow.holds Try.pinned (OpenSpec.ofChange grammarTwiceSpec)

/-- ITS FALSE NEIGHBOUR: 'it returns false'. Refute it at one input. -/
def grammarTwiceWrong : ChangeSpec := { name := "grammarTwice", fn := fun _ => fun
  | [d1, d2, d3] => { results := [.lit (.bool false)], args := [d1, d2, d3] }
  | _ => none }
def GrammarTwiceWrongFalsely : Prop := grammarTwiceRow.holds Try.pinned (OpenSpec.ofChange grammarTwiceWrong)

/- THE SECOND FORM. 'bulk': how many values and letters a reading holds, each counted each time it is reached (what is shared counts as often as it is met; a slice's spare places count too). A statement '..UptoSaid' is the law's where the arguments, and the package variables that the reading takes, are together of bulk at most 1048576: NARROWER than '..Said'. Prove '..Said' where nothing that the law and all that it calls make is longer than what came in: it says more and counts as full. Else prove '..UptoSaid'. A law counts once. -/
mutual
def uptoBulk {H : Type} : DataW H → Nat
  | .lit (.string bytes) => bytes.length + 1
  | .lit _ => 1
  | .nil => 1
  | .ptr d => uptoBulk d + 1
  | .slice elems spare => uptoBulkAll elems + uptoBulkAll spare + 1
  | .agg parts => uptoBulkAll parts + 1
  | .iface _ d => uptoBulk d + 1
  | .map entries => uptoBulkEntries entries + 1
  | .held _ => 1
def uptoBulkAll {H : Type} : List (DataW H) → Nat
  | [] => 0
  | d :: r => uptoBulk d + uptoBulkAll r
def uptoBulkEntries {H : Type} : List (Lit × DataW H) → Nat
  | [] => 0
  | x :: r => uptoBulkEntry x + uptoBulkEntries r
def uptoBulkEntry {H : Type} : Lit × DataW H → Nat
  | (.string bytes, d) => bytes.length + uptoBulk d + 1
  | (_, d) => uptoBulk d + 1
 end
def uptoSmall : (H : Type) → List (DataW H) → Bool := fun _ ds => decide (uptoBulkAll ds ≤ 1048576)
def OpenSpec.upto (s : _root_.Go.ChangeSpec) : _root_.Go.OpenSpec := { _root_.Go.OpenSpec.ofChange s with cond := some uptoSmall }

/-- 'letterbaglaw09.GrammarValid', WHERE WHAT IT READS IS OF BULK AT MOST 1048576: true; the input reads as it did. -/
def grammarValidUptoRow : OpenClaim := { program := "ytkclifdbdnigaaa", sum := "a90db8fd2d36af2a0a5d8be4308c1e3fa4666e92e8ae666d1fb76ec7133efcc2", func := "letterbag/letterbaglaw09.GrammarValid", spec := "grammarValid", unfollowed := true, recurses := true, named := ["math/bits.overflowError"], plainKeys := false, apart := false, narrowed := true }
def GrammarValidUptoSaid : Prop := grammarValidUptoRow.holds Try.pinned (OpenSpec.upto grammarValidSpec)

/-- 'letterbaglaw09.GrammarNamed', WHERE WHAT IT READS IS OF BULK AT MOST 1048576: true; the input reads as it did. -/
def grammarNamedUptoRow : OpenClaim := { program := "ytkclifdbdnigaaa", sum := "a90db8fd2d36af2a0a5d8be4308c1e3fa4666e92e8ae666d1fb76ec7133efcc2", func := "letterbag/letterbaglaw09.GrammarNamed", spec := "grammarNamed", unfollowed := true, recurses := true, named := ["math/bits.overflowError"], plainKeys := false, apart := false, narrowed := true }
def GrammarNamedUptoSaid : Prop := grammarNamedUptoRow.holds Try.pinned (OpenSpec.upto grammarNamedSpec)

/-- 'letterbaglaw09.GrammarPair', WHERE WHAT IT READS IS OF BULK AT MOST 1048576: true; the input reads as it did. -/
def grammarPairUptoRow : OpenClaim := { program := "ytkclifdbdnigaaa", sum := "a90db8fd2d36af2a0a5d8be4308c1e3fa4666e92e8ae666d1fb76ec7133efcc2", func := "letterbag/letterbaglaw09.GrammarPair", spec := "grammarPair", unfollowed := true, recurses := true, named := ["math/bits.overflowError"], plainKeys := false, apart := false, narrowed := true }
def GrammarPairUptoSaid : Prop := grammarPairUptoRow.holds Try.pinned (OpenSpec.upto grammarPairSpec)

/-- 'letterbaglaw09.GrammarRight', WHERE WHAT IT READS IS OF BULK AT MOST 1048576: true; the input reads as it did. -/
def grammarRightUptoRow : OpenClaim := { program := "ytkclifdbdnigaaa", sum := "a90db8fd2d36af2a0a5d8be4308c1e3fa4666e92e8ae666d1fb76ec7133efcc2", func := "letterbag/letterbaglaw09.GrammarRight", spec := "grammarRight", unfollowed := true, recurses := true, named := ["math/bits.overflowError"], loops := true, plainKeys := false, apart := false, narrowed := true }
def GrammarRightUptoSaid : Prop := grammarRightUptoRow.holds Try.pinned (OpenSpec.upto grammarRightSpec)

/-- 'letterbaglaw09.GrammarAll', WHERE WHAT IT READS IS OF BULK AT MOST 1048576: true; the input reads as it did. -/
def grammarAllUptoRow : OpenClaim := { program := "ytkclifdbdnigaaa", sum := "a90db8fd2d36af2a0a5d8be4308c1e3fa4666e92e8ae666d1fb76ec7133efcc2", func := "letterbag/letterbaglaw09.GrammarAll", spec := "grammarAll", unfollowed := true, recurses := true, named := ["math/bits.overflowError"], plainKeys := false, apart := false, narrowed := true }
def GrammarAllUptoSaid : Prop := grammarAllUptoRow.holds Try.pinned (OpenSpec.upto grammarAllSpec)

/-- 'letterbaglaw09.GrammarMore', WHERE WHAT IT READS IS OF BULK AT MOST 1048576: true; the input reads as it did. -/
def grammarMoreUptoRow : OpenClaim := { program := "ytkclifdbdnigaaa", sum := "a90db8fd2d36af2a0a5d8be4308c1e3fa4666e92e8ae666d1fb76ec7133efcc2", func := "letterbag/letterbaglaw09.GrammarMore", spec := "grammarMore", unfollowed := true, recurses := true, named := ["math/bits.overflowError"], plainKeys := false, apart := false, narrowed := true }
def GrammarMoreUptoSaid : Prop := grammarMoreUptoRow.holds Try.pinned (OpenSpec.upto grammarMoreSpec)

/-- 'letterbaglaw09.GrammarTwice', WHERE WHAT IT READS IS OF BULK AT MOST 1048576: true; the input reads as it did. -/
def grammarTwiceUptoRow : OpenClaim := { program := "ytkclifdbdnigaaa", sum := "a90db8fd2d36af2a0a5d8be4308c1e3fa4666e92e8ae666d1fb76ec7133efcc2", func := "letterbag/letterbaglaw09.GrammarTwice", spec := "grammarTwice", unfollowed := true, recurses := true, named := ["math/bits.overflowError"], plainKeys := false, apart := false, narrowed := true }
def GrammarTwiceUptoSaid : Prop := grammarTwiceUptoRow.holds Try.pinned (OpenSpec.upto grammarTwiceSpec)

end Rows
end Go.Proofs.Ytkclifdbdnigaaa
