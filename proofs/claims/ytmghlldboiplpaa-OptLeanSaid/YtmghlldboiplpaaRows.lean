/-
  No cell of these rows narrows 'for every input' (looked for: loops, veiled, ifaces, maps, wideKeys, modest, calm, conditions, laid).
  DERIVED. THE GIVEN ROWS OF THIS SEAT. 5 by the template 'for every input the law returns true; each argument reads behind the call as it read before'; 0 by the template 'total and deterministic' (their statements: YtmghlldboiplpaaTotals.lean).
  GIVEN WITH THE SEED: the statements are not yours to turn. If you find one false, say at which input.
  Laid BY PROGRAM, IN A SANDBOX (cutbox-rows.mjs): the forced cells as the released guide's own fill.sh prints them over the translation 566d761fd4049e33… (all of the seat's roots in one cut). By AI agents, Wed Nov 11 2026. No macro, syntax, notation, axiom, sorry.
-/
import Derived.Test.YtmghlldboiplpaaChecked
import GoSem.Claim
import GoSem.ClaimJoined
import GoSem.ClaimMapViews
import Derived.JoinedTies
import Derived.KernelRfl
namespace Go.Proofs.Ytmghlldboiplpaa
/- THE CELL 'sum', in the pinned program and in every row, IS THE sha256 OF THE DUMP (.gsa) THAT YtmghlldboiplpaaProg.lean LOADS. Nothing in Lean hashes anything: it is a label: what it is worth is what the hold of that sum in a sandbox is worth. -/
noncomputable def Try.pinned : Pinned := { name := "ytmghlldboiplpaa", sum := "566d761fd4049e33b9b8506bb1091235c28a6f81f2d26007ffaa7960fa6bfe28", checked := Try.checked }
namespace Rows
def none {H : Type} : Left H := { results := [], args := [] }

/-- 'lodesmanlaw20.OptLean': WHATEVER THE INPUT: true; the input reads as it did. -/
def optLeanSpec : ChangeSpec := { name := "optLean", fn := fun _ => fun
  | [d] => { results := [.lit (.bool true)], args := [d] }
  | _ => none }
def optLeanRow : OpenClaim := { program := "ytmghlldboiplpaa", sum := "566d761fd4049e33b9b8506bb1091235c28a6f81f2d26007ffaa7960fa6bfe28", func := "lodesman/lodesmanlaw20.OptLean", spec := "optLean", unfollowed := true, recurses := true, plainKeys := false, apart := false }
def OptLeanSaid : Prop := optLeanRow.holds Try.pinned (OpenSpec.ofChange optLeanSpec)

/-- ITS FALSE NEIGHBOUR: 'it returns false'. Refute it at one input. -/
def optLeanWrong : ChangeSpec := { name := "optLean", fn := fun _ => fun
  | [d] => { results := [.lit (.bool false)], args := [d] }
  | _ => none }
def OptLeanWrongFalsely : Prop := optLeanRow.holds Try.pinned (OpenSpec.ofChange optLeanWrong)

/-- 'lodesmanlaw20.OptCompares': WHATEVER THE INPUT: true; the input reads as it did. -/
def optComparesSpec : ChangeSpec := { name := "optCompares", fn := fun _ => fun
  | [d1, d2] => { results := [.lit (.bool true)], args := [d1, d2] }
  | _ => none }
def optComparesRow : OpenClaim := { program := "ytmghlldboiplpaa", sum := "566d761fd4049e33b9b8506bb1091235c28a6f81f2d26007ffaa7960fa6bfe28", func := "lodesman/lodesmanlaw20.OptCompares", spec := "optCompares", unfollowed := true, recurses := true, plainKeys := false, apart := false }
def OptComparesSaid : Prop := optComparesRow.holds Try.pinned (OpenSpec.ofChange optComparesSpec)

/-- ITS FALSE NEIGHBOUR: 'it returns false'. Refute it at one input. -/
def optComparesWrong : ChangeSpec := { name := "optCompares", fn := fun _ => fun
  | [d1, d2] => { results := [.lit (.bool false)], args := [d1, d2] }
  | _ => none }
def OptComparesWrongFalsely : Prop := optComparesRow.holds Try.pinned (OpenSpec.ofChange optComparesWrong)

/-- 'lodesmanlaw20.OptStates': WHATEVER THE INPUT: true; the input reads as it did. -/
def optStatesSpec : ChangeSpec := { name := "optStates", fn := fun _ => fun
  | [d] => { results := [.lit (.bool true)], args := [d] }
  | _ => none }
def optStatesRow : OpenClaim := { program := "ytmghlldboiplpaa", sum := "566d761fd4049e33b9b8506bb1091235c28a6f81f2d26007ffaa7960fa6bfe28", func := "lodesman/lodesmanlaw20.OptStates", spec := "optStates", unfollowed := true, recurses := true, plainKeys := false, apart := false }
def OptStatesSaid : Prop := optStatesRow.holds Try.pinned (OpenSpec.ofChange optStatesSpec)

/-- ITS FALSE NEIGHBOUR: 'it returns false'. Refute it at one input. -/
def optStatesWrong : ChangeSpec := { name := "optStates", fn := fun _ => fun
  | [d] => { results := [.lit (.bool false)], args := [d] }
  | _ => none }
def OptStatesWrongFalsely : Prop := optStatesRow.holds Try.pinned (OpenSpec.ofChange optStatesWrong)

/-- 'lodesmanlaw20.OptSmall': WHATEVER THE INPUT: true; the input reads as it did. -/
def optSmallSpec : ChangeSpec := { name := "optSmall", fn := fun _ => fun
  | [d] => { results := [.lit (.bool true)], args := [d] }
  | _ => none }
def optSmallRow : OpenClaim := { program := "ytmghlldboiplpaa", sum := "566d761fd4049e33b9b8506bb1091235c28a6f81f2d26007ffaa7960fa6bfe28", func := "lodesman/lodesmanlaw20.OptSmall", spec := "optSmall", unfollowed := true, recurses := true, plainKeys := false, apart := false }
def OptSmallSaid : Prop := optSmallRow.holds Try.pinned (OpenSpec.ofChange optSmallSpec)

/-- ITS FALSE NEIGHBOUR: 'it returns false'. Refute it at one input. -/
def optSmallWrong : ChangeSpec := { name := "optSmall", fn := fun _ => fun
  | [d] => { results := [.lit (.bool false)], args := [d] }
  | _ => none }
def OptSmallWrongFalsely : Prop := optSmallRow.holds Try.pinned (OpenSpec.ofChange optSmallWrong)

/-- 'lodesmanlaw20.OptMeans': WHATEVER THE INPUT: true; the input reads as it did. -/
def optMeansSpec : ChangeSpec := { name := "optMeans", fn := fun _ => fun
  | [d1, d2, d3] => { results := [.lit (.bool true)], args := [d1, d2, d3] }
  | _ => none }
def optMeansRow : OpenClaim := { program := "ytmghlldboiplpaa", sum := "566d761fd4049e33b9b8506bb1091235c28a6f81f2d26007ffaa7960fa6bfe28", func := "lodesman/lodesmanlaw20.OptMeans", spec := "optMeans", unfollowed := true, recurses := true, plainKeys := false, apart := false }
def OptMeansSaid : Prop := optMeansRow.holds Try.pinned (OpenSpec.ofChange optMeansSpec)

/-- ITS FALSE NEIGHBOUR: 'it returns false'. Refute it at one input. -/
def optMeansWrong : ChangeSpec := { name := "optMeans", fn := fun _ => fun
  | [d1, d2, d3] => { results := [.lit (.bool false)], args := [d1, d2, d3] }
  | _ => none }
def OptMeansWrongFalsely : Prop := optMeansRow.holds Try.pinned (OpenSpec.ofChange optMeansWrong)

/- THE SECOND FORM. 'bulk': how many values and letters a reading holds, each counted each time it is reached (what is shared counts as often as it is met; a slice's spare places count too). A statement '..UptoSaid' is the law's where the arguments, and the package variables that the reading takes, are together of bulk at most 1048576: NARROWER than '..Said'. Prove '..Said' where nothing that the law and all that it calls make is longer than what came in: it says more and counts as full. Else prove '..UptoSaid'. A law counts once. -/
mutual
def uptoBulk {H : Type} : DataW H → Nat
  | .lit (.string bytes) => bytes.length + 1
  | .lit _ => 1
  | .nil => 1
  | .ptr d => uptoBulk d + 1
  | .slice elems spare => uptoBulkAll elems + uptoBulkAll spare + 1
  | .agg parts => uptoBulkAll parts + 1
  | .iface _ d => uptoBulk d + 1
  | .map entries => uptoBulkEntries entries + 1
  | .held _ => 1
def uptoBulkAll {H : Type} : List (DataW H) → Nat
  | [] => 0
  | d :: r => uptoBulk d + uptoBulkAll r
def uptoBulkEntries {H : Type} : List (Lit × DataW H) → Nat
  | [] => 0
  | x :: r => uptoBulkEntry x + uptoBulkEntries r
def uptoBulkEntry {H : Type} : Lit × DataW H → Nat
  | (.string bytes, d) => bytes.length + uptoBulk d + 1
  | (_, d) => uptoBulk d + 1
 end
def uptoSmall : (H : Type) → List (DataW H) → Bool := fun _ ds => decide (uptoBulkAll ds ≤ 1048576)
def OpenSpec.upto (s : _root_.Go.ChangeSpec) : _root_.Go.OpenSpec := { _root_.Go.OpenSpec.ofChange s with cond := some uptoSmall }

/-- 'lodesmanlaw20.OptLean', WHERE WHAT IT READS IS OF BULK AT MOST 1048576: true; the input reads as it did. -/
def optLeanUptoRow : OpenClaim := { program := "ytmghlldboiplpaa", sum := "566d761fd4049e33b9b8506bb1091235c28a6f81f2d26007ffaa7960fa6bfe28", func := "lodesman/lodesmanlaw20.OptLean", spec := "optLean", unfollowed := true, recurses := true, plainKeys := false, apart := false, narrowed := true }
def OptLeanUptoSaid : Prop := optLeanUptoRow.holds Try.pinned (OpenSpec.upto optLeanSpec)

/-- 'lodesmanlaw20.OptCompares', WHERE WHAT IT READS IS OF BULK AT MOST 1048576: true; the input reads as it did. -/
def optComparesUptoRow : OpenClaim := { program := "ytmghlldboiplpaa", sum := "566d761fd4049e33b9b8506bb1091235c28a6f81f2d26007ffaa7960fa6bfe28", func := "lodesman/lodesmanlaw20.OptCompares", spec := "optCompares", unfollowed := true, recurses := true, plainKeys := false, apart := false, narrowed := true }
def OptComparesUptoSaid : Prop := optComparesUptoRow.holds Try.pinned (OpenSpec.upto optComparesSpec)

/-- 'lodesmanlaw20.OptStates', WHERE WHAT IT READS IS OF BULK AT MOST 1048576: true; the input reads as it did. -/
def optStatesUptoRow : OpenClaim := { program := "ytmghlldboiplpaa", sum := "566d761fd4049e33b9b8506bb1091235c28a6f81f2d26007ffaa7960fa6bfe28", func := "lodesman/lodesmanlaw20.OptStates", spec := "optStates", unfollowed := true, recurses := true, plainKeys := false, apart := false, narrowed := true }
def OptStatesUptoSaid : Prop := optStatesUptoRow.holds Try.pinned (OpenSpec.upto optStatesSpec)

/-- 'lodesmanlaw20.OptSmall', WHERE WHAT IT READS IS OF BULK AT MOST 1048576: true; the input reads as it did. -/
def optSmallUptoRow : OpenClaim := { program := "ytmghlldboiplpaa", sum := "566d761fd4049e33b9b8506bb1091235c28a6f81f2d26007ffaa7960fa6bfe28", func := "lodesman/lodesmanlaw20.OptSmall", spec := "optSmall", unfollowed := true, recurses := true, plainKeys := false, apart := false, narrowed := true }
def OptSmallUptoSaid : Prop := optSmallUptoRow.holds Try.pinned (OpenSpec.upto optSmallSpec)

/-- 'lodesmanlaw20.OptMeans', WHERE WHAT IT READS IS OF BULK AT MOST 1048576: true; the input reads as it did. -/
def optMeansUptoRow : OpenClaim := { program := "ytmghlldboiplpaa", sum := "566d761fd4049e33b9b8506bb1091235c28a6f81f2d26007ffaa7960fa6bfe28", func := "lodesman/lodesmanlaw20.OptMeans", spec := "optMeans", unfollowed := true, recurses := true, plainKeys := false, apart := false, narrowed := true }
def OptMeansUptoSaid : Prop := optMeansUptoRow.holds Try.pinned (OpenSpec.upto optMeansSpec)

end Rows
end Go.Proofs.Ytmghlldboiplpaa
