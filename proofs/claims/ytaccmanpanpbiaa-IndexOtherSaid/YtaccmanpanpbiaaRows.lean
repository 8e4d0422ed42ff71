/-
  No cell of these rows narrows 'for every input' (looked for: loops, veiled, ifaces, maps, wideKeys, modest, calm, conditions, laid).
  DERIVED. THE GIVEN ROWS OF THIS SEAT. 13 by the template 'for every input the law returns true; each argument reads behind the call as it read before'; 0 by the template 'total and deterministic' (their statements: YtaccmanpanpbiaaTotals.lean).
  GIVEN WITH THE SEED: the statements are not yours to turn. If you find one false, say at which input.
  Laid BY PROGRAM, IN A SANDBOX (cutbox-rows.mjs): the forced cells as the released guide's own fill.sh prints them over the translation 06e3c0f5c67e3f1c… (all of the seat's roots in one cut). By AI agents, Wed Nov 11 2026. No macro, syntax, notation, axiom, sorry.
-/
import Derived.Test.YtaccmanpanpbiaaChecked
import GoSem.Claim
import GoSem.ClaimJoined
import GoSem.ClaimMapViews
import Derived.JoinedTies
import Derived.KernelRfl
namespace Go.Proofs.Ytaccmanpanpbiaa
/- THE CELL 'sum', in the pinned program and in every row, IS THE sha256 OF THE DUMP (.gsa) THAT YtaccmanpanpbiaaProg.lean LOADS. Nothing in Lean hashes anything: it is a label: what it is worth is what the hold of that sum in a sandbox is worth. -/
noncomputable def Try.pinned : Pinned := { name := "ytaccmanpanpbiaa", sum := "06e3c0f5c67e3f1c628e498fb8ac8a2cbb73524fc85d8da07c2457f0811f0730", checked := Try.checked }
namespace Rows
def none {H : Type} : Left H := { results := [], args := [] }

/-- 'lodesmanlaw09.ProdAlike': WHATEVER THE INPUT: true; the input reads as it did. -/
def prodAlikeSpec : ChangeSpec := { name := "prodAlike", fn := fun _ => fun
  | [d1, d2, d3, d4, d5] => { results := [.lit (.bool true)], args := [d1, d2, d3, d4, d5] }
  | _ => none }
def prodAlikeRow : OpenClaim := { program := "ytaccmanpanpbiaa", sum := "06e3c0f5c67e3f1c628e498fb8ac8a2cbb73524fc85d8da07c2457f0811f0730", func := "lodesman/lodesmanlaw09.ProdAlike", spec := "prodAlike", unfollowed := true, recurses := true, plainKeys := false, apart := false }
def ProdAlikeSaid : Prop := prodAlikeRow.holds Try.pinned (OpenSpec.ofChange prodAlikeSpec)

/-- ITS FALSE NEIGHBOUR: 'it returns false'. Refute it at one input. -/
def prodAlikeWrong : ChangeSpec := { name := "prodAlike", fn := fun _ => fun
  | [d1, d2, d3, d4, d5] => { results := [.lit (.bool false)], args := [d1, d2, d3, d4, d5] }
  | _ => none }
def ProdAlikeWrongFalsely : Prop := prodAlikeRow.holds Try.pinned (OpenSpec.ofChange prodAlikeWrong)

/-- 'lodesmanlaw09.ProdBoth': WHATEVER THE INPUT: true; the input reads as it did. -/
def prodBothSpec : ChangeSpec := { name := "prodBoth", fn := fun _ => fun
  | [d1, d2, d3] => { results := [.lit (.bool true)], args := [d1, d2, d3] }
  | _ => none }
def prodBothRow : OpenClaim := { program := "ytaccmanpanpbiaa", sum := "06e3c0f5c67e3f1c628e498fb8ac8a2cbb73524fc85d8da07c2457f0811f0730", func := "lodesman/lodesmanlaw09.ProdBoth", spec := "prodBoth", unfollowed := true, recurses := true, plainKeys := false, apart := false }
def ProdBothSaid : Prop := prodBothRow.holds Try.pinned (OpenSpec.ofChange prodBothSpec)

/-- ITS FALSE NEIGHBOUR: 'it returns false'. Refute it at one input. -/
def prodBothWrong : ChangeSpec := { name := "prodBoth", fn := fun _ => fun
  | [d1, d2, d3] => { results := [.lit (.bool false)], args := [d1, d2, d3] }
  | _ => none }
def ProdBothWrongFalsely : Prop := prodBothRow.holds Try.pinned (OpenSpec.ofChange prodBothWrong)

/-- 'lodesmanlaw09.ProdCross': WHATEVER THE INPUT: true; the input reads as it did. -/
def prodCrossSpec : ChangeSpec := { name := "prodCross", fn := fun _ => fun
  | [d1, d2, d3] => { results := [.lit (.bool true)], args := [d1, d2, d3] }
  | _ => none }
def prodCrossRow : OpenClaim := { program := "ytaccmanpanpbiaa", sum := "06e3c0f5c67e3f1c628e498fb8ac8a2cbb73524fc85d8da07c2457f0811f0730", func := "lodesman/lodesmanlaw09.ProdCross", spec := "prodCross", unfollowed := true, recurses := true, plainKeys := false, apart := false }
def ProdCrossSaid : Prop := prodCrossRow.holds Try.pinned (OpenSpec.ofChange prodCrossSpec)

/-- ITS FALSE NEIGHBOUR: 'it returns false'. Refute it at one input. -/
def prodCrossWrong : ChangeSpec := { name := "prodCross", fn := fun _ => fun
  | [d1, d2, d3] => { results := [.lit (.bool false)], args := [d1, d2, d3] }
  | _ => none }
def ProdCrossWrongFalsely : Prop := prodCrossRow.holds Try.pinned (OpenSpec.ofChange prodCrossWrong)

/-- 'lodesmanlaw05.AutFills': WHATEVER THE INPUT: true; the input reads as it did. -/
def autFillsSpec : ChangeSpec := { name := "autFills", fn := fun _ => fun
  | [d1, d2] => { results := [.lit (.bool true)], args := [d1, d2] }
  | _ => none }
def autFillsRow : OpenClaim := { program := "ytaccmanpanpbiaa", sum := "06e3c0f5c67e3f1c628e498fb8ac8a2cbb73524fc85d8da07c2457f0811f0730", func := "lodesman/lodesmanlaw05.AutFills", spec := "autFills", unfollowed := true, recurses := true, plainKeys := false, apart := false }
def AutFillsSaid : Prop := autFillsRow.holds Try.pinned (OpenSpec.ofChange autFillsSpec)

/-- ITS FALSE NEIGHBOUR: 'it returns false'. Refute it at one input. -/
def autFillsWrong : ChangeSpec := { name := "autFills", fn := fun _ => fun
  | [d1, d2] => { results := [.lit (.bool false)], args := [d1, d2] }
  | _ => none }
def AutFillsWrongFalsely : Prop := autFillsRow.holds Try.pinned (OpenSpec.ofChange autFillsWrong)

/-- 'lodesmanlaw06.MemberHas': WHATEVER THE INPUT: true; the input reads as it did. -/
def memberHasSpec : ChangeSpec := { name := "memberHas", fn := fun _ => fun
  | [d1, d2] => { results := [.lit (.bool true)], args := [d1, d2] }
  | _ => none }
def memberHasRow : OpenClaim := { program := "ytaccmanpanpbiaa", sum := "06e3c0f5c67e3f1c628e498fb8ac8a2cbb73524fc85d8da07c2457f0811f0730", func := "lodesman/lodesmanlaw06.MemberHas", spec := "memberHas", unfollowed := true, recurses := true, plainKeys := false, apart := false }
def MemberHasSaid : Prop := memberHasRow.holds Try.pinned (OpenSpec.ofChange memberHasSpec)

/-- ITS FALSE NEIGHBOUR: 'it returns false'. Refute it at one input. -/
def memberHasWrong : ChangeSpec := { name := "memberHas", fn := fun _ => fun
  | [d1, d2] => { results := [.lit (.bool false)], args := [d1, d2] }
  | _ => none }
def MemberHasWrongFalsely : Prop := memberHasRow.holds Try.pinned (OpenSpec.ofChange memberHasWrong)

/-- 'lodesmanlaw06.MemberLives': WHATEVER THE INPUT: true; the input reads as it did. -/
def memberLivesSpec : ChangeSpec := { name := "memberLives", fn := fun _ => fun
  | [d1, d2] => { results := [.lit (.bool true)], args := [d1, d2] }
  | _ => none }
def memberLivesRow : OpenClaim := { program := "ytaccmanpanpbiaa", sum := "06e3c0f5c67e3f1c628e498fb8ac8a2cbb73524fc85d8da07c2457f0811f0730", func := "lodesman/lodesmanlaw06.MemberLives", spec := "memberLives", unfollowed := true, recurses := true, plainKeys := false, apart := false }
def MemberLivesSaid : Prop := memberLivesRow.holds Try.pinned (OpenSpec.ofChange memberLivesSpec)

/-- ITS FALSE NEIGHBOUR: 'it returns false'. Refute it at one input. -/
def memberLivesWrong : ChangeSpec := { name := "memberLives", fn := fun _ => fun
  | [d1, d2] => { results := [.lit (.bool false)], args := [d1, d2] }
  | _ => none }
def MemberLivesWrongFalsely : Prop := memberLivesRow.holds Try.pinned (OpenSpec.ofChange memberLivesWrong)

/-- 'lodesmanlaw06.MemberWithin': WHATEVER THE INPUT: true; the input reads as it did. -/
def memberWithinSpec : ChangeSpec := { name := "memberWithin", fn := fun _ => fun
  | [d1, d2, d3] => { results := [.lit (.bool true)], args := [d1, d2, d3] }
  | _ => none }
def memberWithinRow : OpenClaim := { program := "ytaccmanpanpbiaa", sum := "06e3c0f5c67e3f1c628e498fb8ac8a2cbb73524fc85d8da07c2457f0811f0730", func := "lodesman/lodesmanlaw06.MemberWithin", spec := "memberWithin", unfollowed := true, recurses := true, plainKeys := false, apart := false }
def MemberWithinSaid : Prop := memberWithinRow.holds Try.pinned (OpenSpec.ofChange memberWithinSpec)

/-- ITS FALSE NEIGHBOUR: 'it returns false'. Refute it at one input. -/
def memberWithinWrong : ChangeSpec := { name := "memberWithin", fn := fun _ => fun
  | [d1, d2, d3] => { results := [.lit (.bool false)], args := [d1, d2, d3] }
  | _ => none }
def MemberWithinWrongFalsely : Prop := memberWithinRow.holds Try.pinned (OpenSpec.ofChange memberWithinWrong)

/-- 'lodesmanlaw06.MemberSome': WHATEVER THE INPUT: true; the input reads as it did. -/
def memberSomeSpec : ChangeSpec := { name := "memberSome", fn := fun _ => fun
  | [d] => { results := [.lit (.bool true)], args := [d] }
  | _ => none }
def memberSomeRow : OpenClaim := { program := "ytaccmanpanpbiaa", sum := "06e3c0f5c67e3f1c628e498fb8ac8a2cbb73524fc85d8da07c2457f0811f0730", func := "lodesman/lodesmanlaw06.MemberSome", spec := "memberSome", unfollowed := true, recurses := true, plainKeys := false, apart := false }
def MemberSomeSaid : Prop := memberSomeRow.holds Try.pinned (OpenSpec.ofChange memberSomeSpec)

/-- ITS FALSE NEIGHBOUR: 'it returns false'. Refute it at one input. -/
def memberSomeWrong : ChangeSpec := { name := "memberSome", fn := fun _ => fun
  | [d] => { results := [.lit (.bool false)], args := [d] }
  | _ => none }
def MemberSomeWrongFalsely : Prop := memberSomeRow.holds Try.pinned (OpenSpec.ofChange memberSomeWrong)

/-- 'lodesmanlaw06.MemberChecks': WHATEVER THE INPUT: true; the input reads as it did. -/
def memberChecksSpec : ChangeSpec := { name := "memberChecks", fn := fun _ => fun
  | [d1, d2, d3, d4] => { results := [.lit (.bool true)], args := [d1, d2, d3, d4] }
  | _ => none }
def memberChecksRow : OpenClaim := { program := "ytaccmanpanpbiaa", sum := "06e3c0f5c67e3f1c628e498fb8ac8a2cbb73524fc85d8da07c2457f0811f0730", func := "lodesman/lodesmanlaw06.MemberChecks", spec := "memberChecks", unfollowed := true, recurses := true, plainKeys := false, apart := false }
def MemberChecksSaid : Prop := memberChecksRow.holds Try.pinned (OpenSpec.ofChange memberChecksSpec)

/-- ITS FALSE NEIGHBOUR: 'it returns false'. Refute it at one input. -/
def memberChecksWrong : ChangeSpec := { name := "memberChecks", fn := fun _ => fun
  | [d1, d2, d3, d4] => { results := [.lit (.bool false)], args := [d1, d2, d3, d4] }
  | _ => none }
def MemberChecksWrongFalsely : Prop := memberChecksRow.holds Try.pinned (OpenSpec.ofChange memberChecksWrong)

/-- 'lodesmanlaw06.MemberRuns': WHATEVER THE INPUT: true; the input reads as it did. -/
def memberRunsSpec : ChangeSpec := { name := "memberRuns", fn := fun _ => fun
  | [d1, d2] => { results := [.lit (.bool true)], args := [d1, d2] }
  | _ => none }
def memberRunsRow : OpenClaim := { program := "ytaccmanpanpbiaa", sum := "06e3c0f5c67e3f1c628e498fb8ac8a2cbb73524fc85d8da07c2457f0811f0730", func := "lodesman/lodesmanlaw06.MemberRuns", spec := "memberRuns", unfollowed := true, recurses := true, plainKeys := false, apart := false }
def MemberRunsSaid : Prop := memberRunsRow.holds Try.pinned (OpenSpec.ofChange memberRunsSpec)

/-- ITS FALSE NEIGHBOUR: 'it returns false'. Refute it at one input. -/
def memberRunsWrong : ChangeSpec := { name := "memberRuns", fn := fun _ => fun
  | [d1, d2] => { results := [.lit (.bool false)], args := [d1, d2] }
  | _ => none }
def MemberRunsWrongFalsely : Prop := memberRunsRow.holds Try.pinned (OpenSpec.ofChange memberRunsWrong)

/-- 'lodesmanlaw11.IndexParity': WHATEVER THE INPUT: true; the input reads as it did. -/
def indexParitySpec : ChangeSpec := { name := "indexParity", fn := fun _ => fun
  | [d1, d2] => { results := [.lit (.bool true)], args := [d1, d2] }
  | _ => none }
def indexParityRow : OpenClaim := { program := "ytaccmanpanpbiaa", sum := "06e3c0f5c67e3f1c628e498fb8ac8a2cbb73524fc85d8da07c2457f0811f0730", func := "lodesman/lodesmanlaw11.IndexParity", spec := "indexParity", unfollowed := true, recurses := true, plainKeys := false, apart := false }
def IndexParitySaid : Prop := indexParityRow.holds Try.pinned (OpenSpec.ofChange indexParitySpec)

/-- ITS FALSE NEIGHBOUR: 'it returns false'. Refute it at one input. -/
def indexParityWrong : ChangeSpec := { name := "indexParity", fn := fun _ => fun
  | [d1, d2] => { results := [.lit (.bool false)], args := [d1, d2] }
  | _ => none }
def IndexParityWrongFalsely : Prop := indexParityRow.holds Try.pinned (OpenSpec.ofChange indexParityWrong)

/-- 'lodesmanlaw11.IndexSqueeze': WHATEVER THE INPUT: true; the input reads as it did. -/
def indexSqueezeSpec : ChangeSpec := { name := "indexSqueeze", fn := fun _ => fun
  | [d] => { results := [.lit (.bool true)], args := [d] }
  | _ => none }
def indexSqueezeRow : OpenClaim := { program := "ytaccmanpanpbiaa", sum := "06e3c0f5c67e3f1c628e498fb8ac8a2cbb73524fc85d8da07c2457f0811f0730", func := "lodesman/lodesmanlaw11.IndexSqueeze", spec := "indexSqueeze", unfollowed := true, recurses := true, plainKeys := false, apart := false }
def IndexSqueezeSaid : Prop := indexSqueezeRow.holds Try.pinned (OpenSpec.ofChange indexSqueezeSpec)

/-- ITS FALSE NEIGHBOUR: 'it returns false'. Refute it at one input. -/
def indexSqueezeWrong : ChangeSpec := { name := "indexSqueeze", fn := fun _ => fun
  | [d] => { results := [.lit (.bool false)], args := [d] }
  | _ => none }
def IndexSqueezeWrongFalsely : Prop := indexSqueezeRow.holds Try.pinned (OpenSpec.ofChange indexSqueezeWrong)

/-- 'lodesmanlaw11.IndexOther': WHATEVER THE INPUT: true; the input reads as it did. -/
def indexOtherSpec : ChangeSpec := { name := "indexOther", fn := fun _ => fun
  | [d1, d2] => { results := [.lit (.bool true)], args := [d1, d2] }
  | _ => none }
def indexOtherRow : OpenClaim := { program := "ytaccmanpanpbiaa", sum := "06e3c0f5c67e3f1c628e498fb8ac8a2cbb73524fc85d8da07c2457f0811f0730", func := "lodesman/lodesmanlaw11.IndexOther", spec := "indexOther", unfollowed := true, recurses := true, plainKeys := false, apart := false }
def IndexOtherSaid : Prop := indexOtherRow.holds Try.pinned (OpenSpec.ofChange indexOtherSpec)

/-- ITS FALSE NEIGHBOUR: 'it returns false'. Refute it at one input. -/
def indexOtherWrong : ChangeSpec := { name := "indexOther", fn := fun _ => fun
  | [d1, d2] => { results := [.lit (.bool false)], args := [d1, d2] }
  | _ => none }
def IndexOtherWrongFalsely : Prop := indexOtherRow.holds Try.pinned (OpenSpec.ofChange indexOtherWrong)

/- THE SECOND FORM. 'bulk': how many values and letters a reading holds, each counted each time it is reached (what is shared counts as often as it is met; a slice's spare places count too). A statement '..UptoSaid' is the law's where the arguments, and the package variables that the reading takes, are together of bulk at most 1048576: NARROWER than '..Said'. Prove '..Said' where nothing that the law and all that it calls make is longer than what came in: it says more and counts as full. Else prove '..UptoSaid'. A law counts once. -/
mutual
def uptoBulk {H : Type} : DataW H → Nat
  | .lit (.string bytes) => bytes.length + 1
  | .lit _ => 1
  | .nil => 1
  | .ptr d => uptoBulk d + 1
  | .slice elems spare => uptoBulkAll elems + uptoBulkAll spare + 1
  | .agg parts => uptoBulkAll parts + 1
  | .iface _ d => uptoBulk d + 1
  | .map entries => uptoBulkEntries entries + 1
  | .held _ => 1
def uptoBulkAll {H : Type} : List (DataW H) → Nat
  | [] => 0
  | d :: r => uptoBulk d + uptoBulkAll r
def uptoBulkEntries {H : Type} : List (Lit × DataW H) → Nat
  | [] => 0
  | x :: r => uptoBulkEntry x + uptoBulkEntries r
def uptoBulkEntry {H : Type} : Lit × DataW H → Nat
  | (.string bytes, d) => bytes.length + uptoBulk d + 1
  | (_, d) => uptoBulk d + 1
 end
def uptoSmall : (H : Type) → List (DataW H) → Bool := fun _ ds => decide (uptoBulkAll ds ≤ 1048576)
def OpenSpec.upto (s : _root_.Go.ChangeSpec) : _root_.Go.OpenSpec := { _root_.Go.OpenSpec.ofChange s with cond := some uptoSmall }

/-- 'lodesmanlaw09.ProdAlike', WHERE WHAT IT READS IS OF BULK AT MOST 1048576: true; the input reads as it did. -/
def prodAlikeUptoRow : OpenClaim := { program := "ytaccmanpanpbiaa", sum := "06e3c0f5c67e3f1c628e498fb8ac8a2cbb73524fc85d8da07c2457f0811f0730", func := "lodesman/lodesmanlaw09.ProdAlike", spec := "prodAlike", unfollowed := true, recurses := true, plainKeys := false, apart := false, narrowed := true }
def ProdAlikeUptoSaid : Prop := prodAlikeUptoRow.holds Try.pinned (OpenSpec.upto prodAlikeSpec)

/-- 'lodesmanlaw09.ProdBoth', WHERE WHAT IT READS IS OF BULK AT MOST 1048576: true; the input reads as it did. -/
def prodBothUptoRow : OpenClaim := { program := "ytaccmanpanpbiaa", sum := "06e3c0f5c67e3f1c628e498fb8ac8a2cbb73524fc85d8da07c2457f0811f0730", func := "lodesman/lodesmanlaw09.ProdBoth", spec := "prodBoth", unfollowed := true, recurses := true, plainKeys := false, apart := false, narrowed := true }
def ProdBothUptoSaid : Prop := prodBothUptoRow.holds Try.pinned (OpenSpec.upto prodBothSpec)

/-- 'lodesmanlaw09.ProdCross', WHERE WHAT IT READS IS OF BULK AT MOST 1048576: true; the input reads as it did. -/
def prodCrossUptoRow : OpenClaim := { program := "ytaccmanpanpbiaa", sum := "06e3c0f5c67e3f1c628e498fb8ac8a2cbb73524fc85d8da07c2457f0811f0730", func := "lodesman/lodesmanlaw09.ProdCross", spec := "prodCross", unfollowed := true, recurses := true, plainKeys := false, apart := false, narrowed := true }
def ProdCrossUptoSaid : Prop := prodCrossUptoRow.holds Try.pinned (OpenSpec.upto prodCrossSpec)

/-- 'lodesmanlaw05.AutFills', WHERE WHAT IT READS IS OF BULK AT MOST 1048576: true; the input reads as it did. -/
def autFillsUptoRow : OpenClaim := { program := "ytaccmanpanpbiaa", sum := "06e3c0f5c67e3f1c628e498fb8ac8a2cbb73524fc85d8da07c2457f0811f0730", func := "lodesman/lodesmanlaw05.AutFills", spec := "autFills", unfollowed := true, recurses := true, plainKeys := false, apart := false, narrowed := true }
def AutFillsUptoSaid : Prop := autFillsUptoRow.holds Try.pinned (OpenSpec.upto autFillsSpec)

/-- 'lodesmanlaw06.MemberHas', WHERE WHAT IT READS IS OF BULK AT MOST 1048576: true; the input reads as it did. -/
def memberHasUptoRow : OpenClaim := { program := "ytaccmanpanpbiaa", sum := "06e3c0f5c67e3f1c628e498fb8ac8a2cbb73524fc85d8da07c2457f0811f0730", func := "lodesman/lodesmanlaw06.MemberHas", spec := "memberHas", unfollowed := true, recurses := true, plainKeys := false, apart := false, narrowed := true }
def MemberHasUptoSaid : Prop := memberHasUptoRow.holds Try.pinned (OpenSpec.upto memberHasSpec)

/-- 'lodesmanlaw06.MemberLives', WHERE WHAT IT READS IS OF BULK AT MOST 1048576: true; the input reads as it did. -/
def memberLivesUptoRow : OpenClaim := { program := "ytaccmanpanpbiaa", sum := "06e3c0f5c67e3f1c628e498fb8ac8a2cbb73524fc85d8da07c2457f0811f0730", func := "lodesman/lodesmanlaw06.MemberLives", spec := "memberLives", unfollowed := true, recurses := true, plainKeys := false, apart := false, narrowed := true }
def MemberLivesUptoSaid : Prop := memberLivesUptoRow.holds Try.pinned (OpenSpec.upto memberLivesSpec)

/-- 'lodesmanlaw06.MemberWithin', WHERE WHAT IT READS IS OF BULK AT MOST 1048576: true; the input reads as it did. -/
def memberWithinUptoRow : OpenClaim := { program := "ytaccmanpanpbiaa", sum := "06e3c0f5c67e3f1c628e498fb8ac8a2cbb73524fc85d8da07c2457f0811f0730", func := "lodesman/lodesmanlaw06.MemberWithin", spec := "memberWithin", unfollowed := true, recurses := true, plainKeys := false, apart := false, narrowed := true }
def MemberWithinUptoSaid : Prop := memberWithinUptoRow.holds Try.pinned (OpenSpec.upto memberWithinSpec)

/-- 'lodesmanlaw06.MemberSome', WHERE WHAT IT READS IS OF BULK AT MOST 1048576: true; the input reads as it did. -/
def memberSomeUptoRow : OpenClaim := { program := "ytaccmanpanpbiaa", sum := "06e3c0f5c67e3f1c628e498fb8ac8a2cbb73524fc85d8da07c2457f0811f0730", func := "lodesman/lodesmanlaw06.MemberSome", spec := "memberSome", unfollowed := true, recurses := true, plainKeys := false, apart := false, narrowed := true }
def MemberSomeUptoSaid : Prop := memberSomeUptoRow.holds Try.pinned (OpenSpec.upto memberSomeSpec)

/-- 'lodesmanlaw06.MemberChecks', WHERE WHAT IT READS IS OF BULK AT MOST 1048576: true; the input reads as it did. -/
def memberChecksUptoRow : OpenClaim := { program := "ytaccmanpanpbiaa", sum := "06e3c0f5c67e3f1c628e498fb8ac8a2cbb73524fc85d8da07c2457f0811f0730", func := "lodesman/lodesmanlaw06.MemberChecks", spec := "memberChecks", unfollowed := true, recurses := true, plainKeys := false, apart := false, narrowed := true }
def MemberChecksUptoSaid : Prop := memberChecksUptoRow.holds Try.pinned (OpenSpec.upto memberChecksSpec)

/-- 'lodesmanlaw06.MemberRuns', WHERE WHAT IT READS IS OF BULK AT MOST 1048576: true; the input reads as it did. -/
def memberRunsUptoRow : OpenClaim := { program := "ytaccmanpanpbiaa", sum := "06e3c0f5c67e3f1c628e498fb8ac8a2cbb73524fc85d8da07c2457f0811f0730", func := "lodesman/lodesmanlaw06.MemberRuns", spec := "memberRuns", unfollowed := true, recurses := true, plainKeys := false, apart := false, narrowed := true }
def MemberRunsUptoSaid : Prop := memberRunsUptoRow.holds Try.pinned (OpenSpec.upto memberRunsSpec)

/-- 'lodesmanlaw11.IndexParity', WHERE WHAT IT READS IS OF BULK AT MOST 1048576: true; the input reads as it did. -/
def indexParityUptoRow : OpenClaim := { program := "ytaccmanpanpbiaa", sum := "06e3c0f5c67e3f1c628e498fb8ac8a2cbb73524fc85d8da07c2457f0811f0730", func := "lodesman/lodesmanlaw11.IndexParity", spec := "indexParity", unfollowed := true, recurses := true, plainKeys := false, apart := false, narrowed := true }
def IndexParityUptoSaid : Prop := indexParityUptoRow.holds Try.pinned (OpenSpec.upto indexParitySpec)

/-- 'lodesmanlaw11.IndexSqueeze', WHERE WHAT IT READS IS OF BULK AT MOST 1048576: true; the input reads as it did. -/
def indexSqueezeUptoRow : OpenClaim := { program := "ytaccmanpanpbiaa", sum := "06e3c0f5c67e3f1c628e498fb8ac8a2cbb73524fc85d8da07c2457f0811f0730", func := "lodesman/lodesmanlaw11.IndexSqueeze", spec := "indexSqueeze", unfollowed := true, recurses := true, plainKeys := false, apart := false, narrowed := true }
def IndexSqueezeUptoSaid : Prop := indexSqueezeUptoRow.holds Try.pinned (OpenSpec.upto indexSqueezeSpec)

/-- 'lodesmanlaw11.IndexOther', WHERE WHAT IT READS IS OF BULK AT MOST 1048576: true; the input reads as it did. -/
def indexOtherUptoRow : OpenClaim := { program := "ytaccmanpanpbiaa", sum := "06e3c0f5c67e3f1c628e498fb8ac8a2cbb73524fc85d8da07c2457f0811f0730", func := "lodesman/lodesmanlaw11.IndexOther", spec := "indexOther", unfollowed := true, recurses := true, plainKeys := false, apart := false, narrowed := true }
def IndexOtherUptoSaid : Prop := indexOtherUptoRow.holds Try.pinned (OpenSpec.upto indexOtherSpec)

end Rows
end Go.Proofs.Ytaccmanpanpbiaa
