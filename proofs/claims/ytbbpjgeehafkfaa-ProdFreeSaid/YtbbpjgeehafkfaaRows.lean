/-
  No cell of these rows narrows 'for every input' (looked for: loops, veiled, ifaces, maps, wideKeys, modest, calm, conditions, laid).
  DERIVED. THE GIVEN ROWS OF THIS SEAT. 4 by the template 'for every input the law returns true; each argument reads behind the call as it read before'; 0 by the template 'total and deterministic' (their statements: YtbbpjgeehafkfaaTotals.lean).
  GIVEN WITH THE SEED: the statements are not yours to turn. If you find one false, say at which input.
  Laid BY PROGRAM, IN A SANDBOX (cutbox-rows.mjs): the forced cells as the released guide's own fill.sh prints them over the translation b76e6927e37b5337… (all of the seat's roots in one cut). By AI agents, Wed Nov 11 2026. No macro, syntax, notation, axiom, sorry.
-/
import Derived.Test.YtbbpjgeehafkfaaChecked
import GoSem.Claim
import GoSem.ClaimJoined
import GoSem.ClaimMapViews
import Derived.JoinedTies
import Derived.KernelRfl
namespace Go.Proofs.Ytbbpjgeehafkfaa
/- THE CELL 'sum', in the pinned program and in every row, IS THE sha256 OF THE DUMP (.gsa) THAT YtbbpjgeehafkfaaProg.lean LOADS. Nothing in Lean hashes anything: it is a label: what it is worth is what the hold of that sum in a sandbox is worth. -/
noncomputable def Try.pinned : Pinned := { name := "ytbbpjgeehafkfaa", sum := "b76e6927e37b5337063e562d30ed02b0ee36087d3824ced02067bea54276445e", checked := Try.checked }
namespace Rows
def none {H : Type} : Left H := { results := [], args := [] }

/-- 'lodesmanlaw09.ProdFree': WHATEVER THE INPUT: true; the input reads as it did. -/
def prodFreeSpec : ChangeSpec := { name := "prodFree", fn := fun _ => fun
  | [d1, d2, d3] => { results := [.lit (.bool true)], args := [d1, d2, d3] }
  | _ => none }
def prodFreeRow : OpenClaim := { program := "ytbbpjgeehafkfaa", sum := "b76e6927e37b5337063e562d30ed02b0ee36087d3824ced02067bea54276445e", func := "lodesman/lodesmanlaw09.ProdFree", spec := "prodFree", unfollowed := true, recurses := true, plainKeys := false, apart := false }
def ProdFreeSaid : Prop := prodFreeRow.holds Try.pinned (OpenSpec.ofChange prodFreeSpec)

/-- ITS FALSE NEIGHBOUR: 'it returns false'. Refute it at one input. -/
def prodFreeWrong : ChangeSpec := { name := "prodFree", fn := fun _ => fun
  | [d1, d2, d3] => { results := [.lit (.bool false)], args := [d1, d2, d3] }
  | _ => none }
def ProdFreeWrongFalsely : Prop := prodFreeRow.holds Try.pinned (OpenSpec.ofChange prodFreeWrong)

/-- 'lodesmanlaw09.ProdAlike': WHATEVER THE INPUT: true; the input reads as it did. -/
def prodAlikeSpec : ChangeSpec := { name := "prodAlike", fn := fun _ => fun
  | [d1, d2, d3, d4, d5] => { results := [.lit (.bool true)], args := [d1, d2, d3, d4, d5] }
  | _ => none }
def prodAlikeRow : OpenClaim := { program := "ytbbpjgeehafkfaa", sum := "b76e6927e37b5337063e562d30ed02b0ee36087d3824ced02067bea54276445e", func := "lodesman/lodesmanlaw09.ProdAlike", spec := "prodAlike", unfollowed := true, recurses := true, plainKeys := false, apart := false }
def ProdAlikeSaid : Prop := prodAlikeRow.holds Try.pinned (OpenSpec.ofChange prodAlikeSpec)

/-- ITS FALSE NEIGHBOUR: 'it returns false'. Refute it at one input. -/
def prodAlikeWrong : ChangeSpec := { name := "prodAlike", fn := fun _ => fun
  | [d1, d2, d3, d4, d5] => { results := [.lit (.bool false)], args := [d1, d2, d3, d4, d5] }
  | _ => none }
def ProdAlikeWrongFalsely : Prop := prodAlikeRow.holds Try.pinned (OpenSpec.ofChange prodAlikeWrong)

/-- 'lodesmanlaw09.ProdBoth': WHATEVER THE INPUT: true; the input reads as it did. -/
def prodBothSpec : ChangeSpec := { name := "prodBoth", fn := fun _ => fun
  | [d1, d2, d3] => { results := [.lit (.bool true)], args := [d1, d2, d3] }
  | _ => none }
def prodBothRow : OpenClaim := { program := "ytbbpjgeehafkfaa", sum := "b76e6927e37b5337063e562d30ed02b0ee36087d3824ced02067bea54276445e", func := "lodesman/lodesmanlaw09.ProdBoth", spec := "prodBoth", unfollowed := true, recurses := true, plainKeys := false, apart := false }
def ProdBothSaid : Prop := prodBothRow.holds Try.pinned (OpenSpec.ofChange prodBothSpec)

/-- ITS FALSE NEIGHBOUR: 'it returns false'. Refute it at one input. -/
def prodBothWrong : ChangeSpec := { name := "prodBoth", fn := fun _ => fun
  | [d1, d2, d3] => { results := [.lit (.bool false)], args := [d1, d2, d3] }
  | _ => none }
def ProdBothWrongFalsely : Prop := prodBothRow.holds Try.pinned (OpenSpec.ofChange prodBothWrong)

/-- 'lodesmanlaw09.ProdCross': WHATEVER THE INPUT: true; the input reads as it did. -/
def prodCrossSpec : ChangeSpec := { name := "prodCross", fn := fun _ => fun
  | [d1, d2, d3] => { results := [.lit (.bool true)], args := [d1, d2, d3] }
  | _ => none }
def prodCrossRow : OpenClaim := { program := "ytbbpjgeehafkfaa", sum := "b76e6927e37b5337063e562d30ed02b0ee36087d3824ced02067bea54276445e", func := "lodesman/lodesmanlaw09.ProdCross", spec := "prodCross", unfollowed := true, recurses := true, plainKeys := false, apart := false }
def ProdCrossSaid : Prop := prodCrossRow.holds Try.pinned (OpenSpec.ofChange prodCrossSpec)

/-- ITS FALSE NEIGHBOUR: 'it returns false'. Refute it at one input. -/
def prodCrossWrong : ChangeSpec := { name := "prodCross", fn := fun _ => fun
  | [d1, d2, d3] => { results := [.lit (.bool false)], args := [d1, d2, d3] }
  | _ => none }
def ProdCrossWrongFalsely : Prop := prodCrossRow.holds Try.pinned (OpenSpec.ofChange prodCrossWrong)

/- THE SECOND FORM. 'bulk': how many values and letters a reading holds, each counted each time it is reached (what is shared counts as often as it is met; a slice's spare places count too). A statement '..UptoSaid' is the law's where the arguments, and the package variables that the reading takes, are together of bulk at most 1048576: NARROWER than '..Said'. Prove '..Said' where nothing that the law and all that it calls make is longer than what came in: it says more and counts as full. Else prove '..UptoSaid'. A law counts once. -/
mutual
def uptoBulk {H : Type} : DataW H → Nat
  | .lit (.string bytes) => bytes.length + 1
  | .lit _ => 1
  | .nil => 1
  | .ptr d => uptoBulk d + 1
  | .slice elems spare => uptoBulkAll elems + uptoBulkAll spare + 1
  | .agg parts => uptoBulkAll parts + 1
  | .iface _ d => uptoBulk d + 1
  | .map entries => uptoBulkEntries entries + 1
  | .held _ => 1
def uptoBulkAll {H : Type} : List (DataW H) → Nat
  | [] => 0
  | d :: r => uptoBulk d + uptoBulkAll r
def uptoBulkEntries {H : Type} : List (Lit × DataW H) → Nat
  | [] => 0
  | x :: r => uptoBulkEntry x + uptoBulkEntries r
def uptoBulkEntry {H : Type} : Lit × DataW H → Nat
  | (.string bytes, d) => bytes.length + uptoBulk d + 1
  | (_, d) => uptoBulk d + 1
 end
def uptoSmall : (H : Type) → List (DataW H) → Bool := fun _ ds => decide (uptoBulkAll ds ≤ 1048576)
def OpenSpec.upto (s : _root_.Go.ChangeSpec) : _root_.Go.OpenSpec := { _root_.Go.OpenSpec.ofChange s with cond := some uptoSmall }

/-- 'lodesmanlaw09.ProdFree', WHERE WHAT IT READS IS OF BULK AT MOST 1048576: true; the input reads as it did. -/
def prodFreeUptoRow : OpenClaim := { program := "ytbbpjgeehafkfaa", sum := "b76e6927e37b5337063e562d30ed02b0ee36087d3824ced02067bea54276445e", func := "lodesman/lodesmanlaw09.ProdFree", spec := "prodFree", unfollowed := true, recurses := true, plainKeys := false, apart := false, narrowed := true }
def ProdFreeUptoSaid : Prop := prodFreeUptoRow.holds Try.pinned (OpenSpec.upto prodFreeSpec)

/-- 'lodesmanlaw09.ProdAlike', WHERE WHAT IT READS IS OF BULK AT MOST 1048576: true; the input reads as it did. -/
def prodAlikeUptoRow : OpenClaim := { program := "ytbbpjgeehafkfaa", sum := "b76e6927e37b5337063e562d30ed02b0ee36087d3824ced02067bea54276445e", func := "lodesman/lodesmanlaw09.ProdAlike", spec := "prodAlike", unfollowed := true, recurses := true, plainKeys := false, apart := false, narrowed := true }
def ProdAlikeUptoSaid : Prop := prodAlikeUptoRow.holds Try.pinned (OpenSpec.upto prodAlikeSpec)

/-- 'lodesmanlaw09.ProdBoth', WHERE WHAT IT READS IS OF BULK AT MOST 1048576: true; the input reads as it did. -/
def prodBothUptoRow : OpenClaim := { program := "ytbbpjgeehafkfaa", sum := "b76e6927e37b5337063e562d30ed02b0ee36087d3824ced02067bea54276445e", func := "lodesman/lodesmanlaw09.ProdBoth", spec := "prodBoth", unfollowed := true, recurses := true, plainKeys := false, apart := false, narrowed := true }
def ProdBothUptoSaid : Prop := prodBothUptoRow.holds Try.pinned (OpenSpec.upto prodBothSpec)

/-- 'lodesmanlaw09.ProdCross', WHERE WHAT IT READS IS OF BULK AT MOST 1048576: true; the input reads as it did. -/
def prodCrossUptoRow : OpenClaim := { program := "ytbbpjgeehafkfaa", sum := "b76e6927e37b5337063e562d30ed02b0ee36087d3824ced02067bea54276445e", func := "lodesman/lodesmanlaw09.ProdCross", spec := "prodCross", unfollowed := true, recurses := true, plainKeys := false, apart := false, narrowed := true }
def ProdCrossUptoSaid : Prop := prodCrossUptoRow.holds Try.pinned (OpenSpec.upto prodCrossSpec)

end Rows
end Go.Proofs.Ytbbpjgeehafkfaa
