/-
  No cell of these rows narrows 'for every input' (looked for: loops, veiled, ifaces, maps, wideKeys, modest, calm, conditions, laid).
  DERIVED. THE GIVEN ROWS OF THIS SEAT. 5 by the template 'for every input the law returns true; each argument reads behind the call as it read before'; 0 by the template 'total and deterministic' (their statements: YtdahmcgncpoliaaTotals.lean).
  GIVEN WITH THE SEED: the statements are not yours to turn. If you find one false, say at which input.
  Laid BY PROGRAM, IN A SANDBOX (cutbox-rows.mjs): the forced cells as the released guide's own fill.sh prints them over the translation 0133b92c8bfff6e4… (all of the seat's roots in one cut). By AI agents, Wed Nov 11 2026. No macro, syntax, notation, axiom, sorry.
-/
import Derived.Test.YtdahmcgncpoliaaChecked
import GoSem.Claim
import GoSem.ClaimJoined
import GoSem.ClaimMapViews
import Derived.JoinedTies
import Derived.KernelRfl
namespace Go.Proofs.Ytdahmcgncpoliaa
/- THE CELL 'sum', in the pinned program and in every row, IS THE sha256 OF THE DUMP (.gsa) THAT YtdahmcgncpoliaaProg.lean LOADS. Nothing in Lean hashes anything: it is a label: what it is worth is what the hold of that sum in a sandbox is worth. -/
noncomputable def Try.pinned : Pinned := { name := "ytdahmcgncpoliaa", sum := "0133b92c8bfff6e48894856ffc0f25c4a77619a3de0bb9e41150e43be49553cf", checked := Try.checked }
namespace Rows
def none {H : Type} : Left H := { results := [], args := [] }

/-- 'lodesmanlaw05.AutAccepts': WHATEVER THE INPUT: true; the input reads as it did. -/
def autAcceptsSpec : ChangeSpec := { name := "autAccepts", fn := fun _ => fun
  | [d1, d2, d3] => { results := [.lit (.bool true)], args := [d1, d2, d3] }
  | _ => none }
def autAcceptsRow : OpenClaim := { program := "ytdahmcgncpoliaa", sum := "0133b92c8bfff6e48894856ffc0f25c4a77619a3de0bb9e41150e43be49553cf", func := "lodesman/lodesmanlaw05.AutAccepts", spec := "autAccepts", unfollowed := true, recurses := true, apart := false }
def AutAcceptsSaid : Prop := autAcceptsRow.holds Try.pinned (OpenSpec.ofChange autAcceptsSpec)

/-- ITS FALSE NEIGHBOUR: 'it returns false'. Refute it at one input. -/
def autAcceptsWrong : ChangeSpec := { name := "autAccepts", fn := fun _ => fun
  | [d1, d2, d3] => { results := [.lit (.bool false)], args := [d1, d2, d3] }
  | _ => none }
def AutAcceptsWrongFalsely : Prop := autAcceptsRow.holds Try.pinned (OpenSpec.ofChange autAcceptsWrong)

/-- 'lodesmanlaw05.AutWalks': WHATEVER THE INPUT: true; the input reads as it did. -/
def autWalksSpec : ChangeSpec := { name := "autWalks", fn := fun _ => fun
  | [d1, d2] => { results := [.lit (.bool true)], args := [d1, d2] }
  | _ => none }
def autWalksRow : OpenClaim := { program := "ytdahmcgncpoliaa", sum := "0133b92c8bfff6e48894856ffc0f25c4a77619a3de0bb9e41150e43be49553cf", func := "lodesman/lodesmanlaw05.AutWalks", spec := "autWalks", unfollowed := true, recurses := true, apart := false }
def AutWalksSaid : Prop := autWalksRow.holds Try.pinned (OpenSpec.ofChange autWalksSpec)

/-- ITS FALSE NEIGHBOUR: 'it returns false'. Refute it at one input. -/
def autWalksWrong : ChangeSpec := { name := "autWalks", fn := fun _ => fun
  | [d1, d2] => { results := [.lit (.bool false)], args := [d1, d2] }
  | _ => none }
def AutWalksWrongFalsely : Prop := autWalksRow.holds Try.pinned (OpenSpec.ofChange autWalksWrong)

/-- 'lodesmanlaw05.AutFacts': WHATEVER THE INPUT: true; the input reads as it did. -/
def autFactsSpec : ChangeSpec := { name := "autFacts", fn := fun _ => fun
  | [d1, d2, d3] => { results := [.lit (.bool true)], args := [d1, d2, d3] }
  | _ => none }
def autFactsRow : OpenClaim := { program := "ytdahmcgncpoliaa", sum := "0133b92c8bfff6e48894856ffc0f25c4a77619a3de0bb9e41150e43be49553cf", func := "lodesman/lodesmanlaw05.AutFacts", spec := "autFacts", unfollowed := true, recurses := true, apart := false }
def AutFactsSaid : Prop := autFactsRow.holds Try.pinned (OpenSpec.ofChange autFactsSpec)

/-- ITS FALSE NEIGHBOUR: 'it returns false'. Refute it at one input. -/
def autFactsWrong : ChangeSpec := { name := "autFacts", fn := fun _ => fun
  | [d1, d2, d3] => { results := [.lit (.bool false)], args := [d1, d2, d3] }
  | _ => none }
def AutFactsWrongFalsely : Prop := autFactsRow.holds Try.pinned (OpenSpec.ofChange autFactsWrong)

/-- 'lodesmanlaw05.AutFills': WHATEVER THE INPUT: true; the input reads as it did. -/
def autFillsSpec : ChangeSpec := { name := "autFills", fn := fun _ => fun
  | [d1, d2] => { results := [.lit (.bool true)], args := [d1, d2] }
  | _ => none }
def autFillsRow : OpenClaim := { program := "ytdahmcgncpoliaa", sum := "0133b92c8bfff6e48894856ffc0f25c4a77619a3de0bb9e41150e43be49553cf", func := "lodesman/lodesmanlaw05.AutFills", spec := "autFills", unfollowed := true, recurses := true, apart := false }
def AutFillsSaid : Prop := autFillsRow.holds Try.pinned (OpenSpec.ofChange autFillsSpec)

/-- ITS FALSE NEIGHBOUR: 'it returns false'. Refute it at one input. -/
def autFillsWrong : ChangeSpec := { name := "autFills", fn := fun _ => fun
  | [d1, d2] => { results := [.lit (.bool false)], args := [d1, d2] }
  | _ => none }
def AutFillsWrongFalsely : Prop := autFillsRow.holds Try.pinned (OpenSpec.ofChange autFillsWrong)

/-- 'lodesmanlaw05.AutFull': WHATEVER THE INPUT: true; the input reads as it did. -/
def autFullSpec : ChangeSpec := { name := "autFull", fn := fun _ => fun
  | [d1, d2, d3, d4, d5] => { results := [.lit (.bool true)], args := [d1, d2, d3, d4, d5] }
  | _ => none }
def autFullRow : OpenClaim := { program := "ytdahmcgncpoliaa", sum := "0133b92c8bfff6e48894856ffc0f25c4a77619a3de0bb9e41150e43be49553cf", func := "lodesman/lodesmanlaw05.AutFull", spec := "autFull", unfollowed := true, recurses := true, apart := false }
def AutFullSaid : Prop := autFullRow.holds Try.pinned (OpenSpec.ofChange autFullSpec)

/-- ITS FALSE NEIGHBOUR: 'it returns false'. Refute it at one input. -/
def autFullWrong : ChangeSpec := { name := "autFull", fn := fun _ => fun
  | [d1, d2, d3, d4, d5] => { results := [.lit (.bool false)], args := [d1, d2, d3, d4, d5] }
  | _ => none }
def AutFullWrongFalsely : Prop := autFullRow.holds Try.pinned (OpenSpec.ofChange autFullWrong)

/- THE SECOND FORM. 'bulk': how many values and letters a reading holds, each counted each time it is reached (what is shared counts as often as it is met; a slice's spare places count too). A statement '..UptoSaid' is the law's where the arguments, and the package variables that the reading takes, are together of bulk at most 1048576: NARROWER than '..Said'. Prove '..Said' where nothing that the law and all that it calls make is longer than what came in: it says more and counts as full. Else prove '..UptoSaid'. A law counts once. -/
mutual
def uptoBulk {H : Type} : DataW H → Nat
  | .lit (.string bytes) => bytes.length + 1
  | .lit _ => 1
  | .nil => 1
  | .ptr d => uptoBulk d + 1
  | .slice elems spare => uptoBulkAll elems + uptoBulkAll spare + 1
  | .agg parts => uptoBulkAll parts + 1
  | .iface _ d => uptoBulk d + 1
  | .map entries => uptoBulkEntries entries + 1
  | .held _ => 1
def uptoBulkAll {H : Type} : List (DataW H) → Nat
  | [] => 0
  | d :: r => uptoBulk d + uptoBulkAll r
def uptoBulkEntries {H : Type} : List (Lit × DataW H) → Nat
  | [] => 0
  | x :: r => uptoBulkEntry x + uptoBulkEntries r
def uptoBulkEntry {H : Type} : Lit × DataW H → Nat
  | (.string bytes, d) => bytes.length + uptoBulk d + 1
  | (_, d) => uptoBulk d + 1
 end
def uptoSmall : (H : Type) → List (DataW H) → Bool := fun _ ds => decide (uptoBulkAll ds ≤ 1048576)
def OpenSpec.upto (s : _root_.Go.ChangeSpec) : _root_.Go.OpenSpec := { _root_.Go.OpenSpec.ofChange s with cond := some uptoSmall }

/-- 'lodesmanlaw05.AutAccepts', WHERE WHAT IT READS IS OF BULK AT MOST 1048576: true; the input reads as it did. -/
def autAcceptsUptoRow : OpenClaim := { program := "ytdahmcgncpoliaa", sum := "0133b92c8bfff6e48894856ffc0f25c4a77619a3de0bb9e41150e43be49553cf", func := "lodesman/lodesmanlaw05.AutAccepts", spec := "autAccepts", unfollowed := true, recurses := true, apart := false, narrowed := true }
def AutAcceptsUptoSaid : Prop := autAcceptsUptoRow.holds Try.pinned (OpenSpec.upto autAcceptsSpec)

/-- 'lodesmanlaw05.AutWalks', WHERE WHAT IT READS IS OF BULK AT MOST 1048576: true; the input reads as it did. -/
def autWalksUptoRow : OpenClaim := { program := "ytdahmcgncpoliaa", sum := "0133b92c8bfff6e48894856ffc0f25c4a77619a3de0bb9e41150e43be49553cf", func := "lodesman/lodesmanlaw05.AutWalks", spec := "autWalks", unfollowed := true, recurses := true, apart := false, narrowed := true }
def AutWalksUptoSaid : Prop := autWalksUptoRow.holds Try.pinned (OpenSpec.upto autWalksSpec)

/-- 'lodesmanlaw05.AutFacts', WHERE WHAT IT READS IS OF BULK AT MOST 1048576: true; the input reads as it did. -/
def autFactsUptoRow : OpenClaim := { program := "ytdahmcgncpoliaa", sum := "0133b92c8bfff6e48894856ffc0f25c4a77619a3de0bb9e41150e43be49553cf", func := "lodesman/lodesmanlaw05.AutFacts", spec := "autFacts", unfollowed := true, recurses := true, apart := false, narrowed := true }
def AutFactsUptoSaid : Prop := autFactsUptoRow.holds Try.pinned (OpenSpec.upto autFactsSpec)

/-- 'lodesmanlaw05.AutFills', WHERE WHAT IT READS IS OF BULK AT MOST 1048576: true; the input reads as it did. -/
def autFillsUptoRow : OpenClaim := { program := "ytdahmcgncpoliaa", sum := "0133b92c8bfff6e48894856ffc0f25c4a77619a3de0bb9e41150e43be49553cf", func := "lodesman/lodesmanlaw05.AutFills", spec := "autFills", unfollowed := true, recurses := true, apart := false, narrowed := true }
def AutFillsUptoSaid : Prop := autFillsUptoRow.holds Try.pinned (OpenSpec.upto autFillsSpec)

/-- 'lodesmanlaw05.AutFull', WHERE WHAT IT READS IS OF BULK AT MOST 1048576: true; the input reads as it did. -/
def autFullUptoRow : OpenClaim := { program := "ytdahmcgncpoliaa", sum := "0133b92c8bfff6e48894856ffc0f25c4a77619a3de0bb9e41150e43be49553cf", func := "lodesman/lodesmanlaw05.AutFull", spec := "autFull", unfollowed := true, recurses := true, apart := false, narrowed := true }
def AutFullUptoSaid : Prop := autFullUptoRow.holds Try.pinned (OpenSpec.upto autFullSpec)

end Rows
end Go.Proofs.Ytdahmcgncpoliaa
