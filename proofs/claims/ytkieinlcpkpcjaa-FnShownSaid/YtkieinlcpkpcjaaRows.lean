/-
  No cell of these rows narrows 'for every input' (looked for: loops, veiled, ifaces, maps, wideKeys, modest, calm, conditions, laid).
  DERIVED. THE GIVEN ROWS OF THIS SEAT. 11 by the template 'for every input the law returns true; each argument reads behind the call as it read before'; 0 by the template 'total and deterministic' (their statements: YtkieinlcpkpcjaaTotals.lean).
  GIVEN WITH THE SEED: the statements are not yours to turn. If you find one false, say at which input.
  Laid BY PROGRAM, IN A SANDBOX (cutbox-rows.mjs): the forced cells as the released guide's own fill.sh prints them over the translation 32d4955ea75b73b3… (all of the seat's roots in one cut). By AI agents, Wed Nov 11 2026. No macro, syntax, notation, axiom, sorry.
-/
import Derived.Test.YtkieinlcpkpcjaaChecked
import GoSem.Claim
import GoSem.ClaimJoined
import GoSem.ClaimMapViews
import Derived.JoinedTies
import Derived.KernelRfl
namespace Go.Proofs.Ytkieinlcpkpcjaa
/- THE CELL 'sum', in the pinned program and in every row, IS THE sha256 OF THE DUMP (.gsa) THAT YtkieinlcpkpcjaaProg.lean LOADS. Nothing in Lean hashes anything: it is a label: what it is worth is what the hold of that sum in a sandbox is worth. -/
noncomputable def Try.pinned : Pinned := { name := "ytkieinlcpkpcjaa", sum := "32d4955ea75b73b3f1671aa44463737ccd03bf5897673cdf298e5c3edb688905", checked := Try.checked }
namespace Rows
def none {H : Type} : Left H := { results := [], args := [] }

/-- 'laws.FnDistance': WHATEVER THE INPUT: true; the input reads as it did. -/
def fnDistanceSpec : ChangeSpec := { name := "fnDistance", fn := fun _ => fun
  | [d1, d2] => { results := [.lit (.bool true)], args := [d1, d2] }
  | _ => none }
def fnDistanceRow : OpenClaim := { program := "ytkieinlcpkpcjaa", sum := "32d4955ea75b73b3f1671aa44463737ccd03bf5897673cdf298e5c3edb688905", func := "loop.example/g00692/laws.FnDistance", spec := "fnDistance", unfollowed := true, recurses := true, apart := false }
def FnDistanceSaid : Prop := fnDistanceRow.holds Try.pinned (OpenSpec.ofChange fnDistanceSpec)

/-- ITS FALSE NEIGHBOUR: 'it returns false'. Refute it at one input. -/
def fnDistanceWrong : ChangeSpec := { name := "fnDistance", fn := fun _ => fun
  | [d1, d2] => { results := [.lit (.bool false)], args := [d1, d2] }
  | _ => none }
def FnDistanceWrongFalsely : Prop := fnDistanceRow.holds Try.pinned (OpenSpec.ofChange fnDistanceWrong)

/-- 'laws.FnBuffer': WHATEVER THE INPUT: true; the input reads as it did. -/
def fnBufferSpec : ChangeSpec := { name := "fnBuffer", fn := fun _ => fun
  | [d1, d2] => { results := [.lit (.bool true)], args := [d1, d2] }
  | _ => none }
def fnBufferRow : OpenClaim := { program := "ytkieinlcpkpcjaa", sum := "32d4955ea75b73b3f1671aa44463737ccd03bf5897673cdf298e5c3edb688905", func := "loop.example/g00692/laws.FnBuffer", spec := "fnBuffer", unfollowed := true, recurses := true, apart := false }
def FnBufferSaid : Prop := fnBufferRow.holds Try.pinned (OpenSpec.ofChange fnBufferSpec)

/-- ITS FALSE NEIGHBOUR: 'it returns false'. Refute it at one input. -/
def fnBufferWrong : ChangeSpec := { name := "fnBuffer", fn := fun _ => fun
  | [d1, d2] => { results := [.lit (.bool false)], args := [d1, d2] }
  | _ => none }
def FnBufferWrongFalsely : Prop := fnBufferRow.holds Try.pinned (OpenSpec.ofChange fnBufferWrong)

/-- 'laws.FnExactSpansOf': WHATEVER THE INPUT: true; the input reads as it did. -/
def fnExactSpansOfSpec : ChangeSpec := { name := "fnExactSpansOf", fn := fun _ => fun
  | [d1, d2, d3] => { results := [.lit (.bool true)], args := [d1, d2, d3] }
  | _ => none }
def fnExactSpansOfRow : OpenClaim := { program := "ytkieinlcpkpcjaa", sum := "32d4955ea75b73b3f1671aa44463737ccd03bf5897673cdf298e5c3edb688905", func := "loop.example/g00692/laws.FnExactSpansOf", spec := "fnExactSpansOf", unfollowed := true, recurses := true, apart := false }
def FnExactSpansOfSaid : Prop := fnExactSpansOfRow.holds Try.pinned (OpenSpec.ofChange fnExactSpansOfSpec)

/-- ITS FALSE NEIGHBOUR: 'it returns false'. Refute it at one input. -/
def fnExactSpansOfWrong : ChangeSpec := { name := "fnExactSpansOf", fn := fun _ => fun
  | [d1, d2, d3] => { results := [.lit (.bool false)], args := [d1, d2, d3] }
  | _ => none }
def FnExactSpansOfWrongFalsely : Prop := fnExactSpansOfRow.holds Try.pinned (OpenSpec.ofChange fnExactSpansOfWrong)

/-- 'laws.FnScreen': WHATEVER THE INPUT: true; the input reads as it did. -/
def fnScreenSpec : ChangeSpec := { name := "fnScreen", fn := fun _ => fun
  | [d1, d2] => { results := [.lit (.bool true)], args := [d1, d2] }
  | _ => none }
def fnScreenRow : OpenClaim := { program := "ytkieinlcpkpcjaa", sum := "32d4955ea75b73b3f1671aa44463737ccd03bf5897673cdf298e5c3edb688905", func := "loop.example/g00692/laws.FnScreen", spec := "fnScreen", unfollowed := true, recurses := true, apart := false }
def FnScreenSaid : Prop := fnScreenRow.holds Try.pinned (OpenSpec.ofChange fnScreenSpec)

/-- ITS FALSE NEIGHBOUR: 'it returns false'. Refute it at one input. -/
def fnScreenWrong : ChangeSpec := { name := "fnScreen", fn := fun _ => fun
  | [d1, d2] => { results := [.lit (.bool false)], args := [d1, d2] }
  | _ => none }
def FnScreenWrongFalsely : Prop := fnScreenRow.holds Try.pinned (OpenSpec.ofChange fnScreenWrong)

/-- 'laws.FnExactCountParses': WHATEVER THE INPUT: true; the input reads as it did. -/
def fnExactCountParsesSpec : ChangeSpec := { name := "fnExactCountParses", fn := fun _ => fun
  | [d1, d2] => { results := [.lit (.bool true)], args := [d1, d2] }
  | _ => none }
def fnExactCountParsesRow : OpenClaim := { program := "ytkieinlcpkpcjaa", sum := "32d4955ea75b73b3f1671aa44463737ccd03bf5897673cdf298e5c3edb688905", func := "loop.example/g00692/laws.FnExactCountParses", spec := "fnExactCountParses", unfollowed := true, recurses := true, apart := false }
def FnExactCountParsesSaid : Prop := fnExactCountParsesRow.holds Try.pinned (OpenSpec.ofChange fnExactCountParsesSpec)

/-- ITS FALSE NEIGHBOUR: 'it returns false'. Refute it at one input. -/
def fnExactCountParsesWrong : ChangeSpec := { name := "fnExactCountParses", fn := fun _ => fun
  | [d1, d2] => { results := [.lit (.bool false)], args := [d1, d2] }
  | _ => none }
def FnExactCountParsesWrongFalsely : Prop := fnExactCountParsesRow.holds Try.pinned (OpenSpec.ofChange fnExactCountParsesWrong)

/-- 'laws.FnExactCheckParse': WHATEVER THE INPUT: true; the input reads as it did. -/
def fnExactCheckParseSpec : ChangeSpec := { name := "fnExactCheckParse", fn := fun _ => fun
  | [d1, d2, d3] => { results := [.lit (.bool true)], args := [d1, d2, d3] }
  | _ => none }
def fnExactCheckParseRow : OpenClaim := { program := "ytkieinlcpkpcjaa", sum := "32d4955ea75b73b3f1671aa44463737ccd03bf5897673cdf298e5c3edb688905", func := "loop.example/g00692/laws.FnExactCheckParse", spec := "fnExactCheckParse", unfollowed := true, recurses := true, apart := false }
def FnExactCheckParseSaid : Prop := fnExactCheckParseRow.holds Try.pinned (OpenSpec.ofChange fnExactCheckParseSpec)

/-- ITS FALSE NEIGHBOUR: 'it returns false'. Refute it at one input. -/
def fnExactCheckParseWrong : ChangeSpec := { name := "fnExactCheckParse", fn := fun _ => fun
  | [d1, d2, d3] => { results := [.lit (.bool false)], args := [d1, d2, d3] }
  | _ => none }
def FnExactCheckParseWrongFalsely : Prop := fnExactCheckParseRow.holds Try.pinned (OpenSpec.ofChange fnExactCheckParseWrong)

/-- 'laws.FnDiff': WHATEVER THE INPUT: true; the input reads as it did. -/
def fnDiffSpec : ChangeSpec := { name := "fnDiff", fn := fun _ => fun
  | [d1, d2] => { results := [.lit (.bool true)], args := [d1, d2] }
  | _ => none }
def fnDiffRow : OpenClaim := { program := "ytkieinlcpkpcjaa", sum := "32d4955ea75b73b3f1671aa44463737ccd03bf5897673cdf298e5c3edb688905", func := "loop.example/g00692/laws.FnDiff", spec := "fnDiff", unfollowed := true, recurses := true, apart := false }
def FnDiffSaid : Prop := fnDiffRow.holds Try.pinned (OpenSpec.ofChange fnDiffSpec)

/-- ITS FALSE NEIGHBOUR: 'it returns false'. Refute it at one input. -/
def fnDiffWrong : ChangeSpec := { name := "fnDiff", fn := fun _ => fun
  | [d1, d2] => { results := [.lit (.bool false)], args := [d1, d2] }
  | _ => none }
def FnDiffWrongFalsely : Prop := fnDiffRow.holds Try.pinned (OpenSpec.ofChange fnDiffWrong)

/-- 'laws.FnShown': WHATEVER THE INPUT: true; the input reads as it did. -/
def fnShownSpec : ChangeSpec := { name := "fnShown", fn := fun _ => fun
  | [d1, d2] => { results := [.lit (.bool true)], args := [d1, d2] }
  | _ => none }
def fnShownRow : OpenClaim := { program := "ytkieinlcpkpcjaa", sum := "32d4955ea75b73b3f1671aa44463737ccd03bf5897673cdf298e5c3edb688905", func := "loop.example/g00692/laws.FnShown", spec := "fnShown", unfollowed := true, recurses := true, apart := false }
def FnShownSaid : Prop := fnShownRow.holds Try.pinned (OpenSpec.ofChange fnShownSpec)

/-- ITS FALSE NEIGHBOUR: 'it returns false'. Refute it at one input. -/
def fnShownWrong : ChangeSpec := { name := "fnShown", fn := fun _ => fun
  | [d1, d2] => { results := [.lit (.bool false)], args := [d1, d2] }
  | _ => none }
def FnShownWrongFalsely : Prop := fnShownRow.holds Try.pinned (OpenSpec.ofChange fnShownWrong)

/-- 'laws.FnExactReplaceIn': WHATEVER THE INPUT: true; the input reads as it did. -/
def fnExactReplaceInSpec : ChangeSpec := { name := "fnExactReplaceIn", fn := fun _ => fun
  | [d1, d2, d3] => { results := [.lit (.bool true)], args := [d1, d2, d3] }
  | _ => none }
def fnExactReplaceInRow : OpenClaim := { program := "ytkieinlcpkpcjaa", sum := "32d4955ea75b73b3f1671aa44463737ccd03bf5897673cdf298e5c3edb688905", func := "loop.example/g00692/laws.FnExactReplaceIn", spec := "fnExactReplaceIn", unfollowed := true, recurses := true, apart := false }
def FnExactReplaceInSaid : Prop := fnExactReplaceInRow.holds Try.pinned (OpenSpec.ofChange fnExactReplaceInSpec)

/-- ITS FALSE NEIGHBOUR: 'it returns false'. Refute it at one input. -/
def fnExactReplaceInWrong : ChangeSpec := { name := "fnExactReplaceIn", fn := fun _ => fun
  | [d1, d2, d3] => { results := [.lit (.bool false)], args := [d1, d2, d3] }
  | _ => none }
def FnExactReplaceInWrongFalsely : Prop := fnExactReplaceInRow.holds Try.pinned (OpenSpec.ofChange fnExactReplaceInWrong)

/-- 'laws.FnExactParseOf': WHATEVER THE INPUT: true; the input reads as it did. -/
def fnExactParseOfSpec : ChangeSpec := { name := "fnExactParseOf", fn := fun _ => fun
  | [d1, d2] => { results := [.lit (.bool true)], args := [d1, d2] }
  | _ => none }
def fnExactParseOfRow : OpenClaim := { program := "ytkieinlcpkpcjaa", sum := "32d4955ea75b73b3f1671aa44463737ccd03bf5897673cdf298e5c3edb688905", func := "loop.example/g00692/laws.FnExactParseOf", spec := "fnExactParseOf", unfollowed := true, recurses := true, apart := false }
def FnExactParseOfSaid : Prop := fnExactParseOfRow.holds Try.pinned (OpenSpec.ofChange fnExactParseOfSpec)

/-- ITS FALSE NEIGHBOUR: 'it returns false'. Refute it at one input. -/
def fnExactParseOfWrong : ChangeSpec := { name := "fnExactParseOf", fn := fun _ => fun
  | [d1, d2] => { results := [.lit (.bool false)], args := [d1, d2] }
  | _ => none }
def FnExactParseOfWrongFalsely : Prop := fnExactParseOfRow.holds Try.pinned (OpenSpec.ofChange fnExactParseOfWrong)

/-- 'laws.FnExactSplitBy': WHATEVER THE INPUT: true; the input reads as it did. -/
def fnExactSplitBySpec : ChangeSpec := { name := "fnExactSplitBy", fn := fun _ => fun
  | [d1, d2] => { results := [.lit (.bool true)], args := [d1, d2] }
  | _ => none }
def fnExactSplitByRow : OpenClaim := { program := "ytkieinlcpkpcjaa", sum := "32d4955ea75b73b3f1671aa44463737ccd03bf5897673cdf298e5c3edb688905", func := "loop.example/g00692/laws.FnExactSplitBy", spec := "fnExactSplitBy", unfollowed := true, recurses := true, apart := false }
def FnExactSplitBySaid : Prop := fnExactSplitByRow.holds Try.pinned (OpenSpec.ofChange fnExactSplitBySpec)

/-- ITS FALSE NEIGHBOUR: 'it returns false'. Refute it at one input. -/
def fnExactSplitByWrong : ChangeSpec := { name := "fnExactSplitBy", fn := fun _ => fun
  | [d1, d2] => { results := [.lit (.bool false)], args := [d1, d2] }
  | _ => none }
def FnExactSplitByWrongFalsely : Prop := fnExactSplitByRow.holds Try.pinned (OpenSpec.ofChange fnExactSplitByWrong)

/- THE SECOND FORM. 'bulk': how many values and letters a reading holds, each counted each time it is reached (what is shared counts as often as it is met; a slice's spare places count too). A statement '..UptoSaid' is the law's where the arguments, and the package variables that the reading takes, are together of bulk at most 1048576: NARROWER than '..Said'. Prove '..Said' where nothing that the law and all that it calls make is longer than what came in: it says more and counts as full. Else prove '..UptoSaid'. A law counts once. -/
mutual
def uptoBulk {H : Type} : DataW H → Nat
  | .lit (.string bytes) => bytes.length + 1
  | .lit _ => 1
  | .nil => 1
  | .ptr d => uptoBulk d + 1
  | .slice elems spare => uptoBulkAll elems + uptoBulkAll spare + 1
  | .agg parts => uptoBulkAll parts + 1
  | .iface _ d => uptoBulk d + 1
  | .map entries => uptoBulkEntries entries + 1
  | .held _ => 1
def uptoBulkAll {H : Type} : List (DataW H) → Nat
  | [] => 0
  | d :: r => uptoBulk d + uptoBulkAll r
def uptoBulkEntries {H : Type} : List (Lit × DataW H) → Nat
  | [] => 0
  | x :: r => uptoBulkEntry x + uptoBulkEntries r
def uptoBulkEntry {H : Type} : Lit × DataW H → Nat
  | (.string bytes, d) => bytes.length + uptoBulk d + 1
  | (_, d) => uptoBulk d + 1
 end
def uptoSmall : (H : Type) → List (DataW H) → Bool := fun _ ds => decide (uptoBulkAll ds ≤ 1048576)
def OpenSpec.upto (s : _root_.Go.ChangeSpec) : _root_.Go.OpenSpec := { _root_.Go.OpenSpec.ofChange s with cond := some uptoSmall }

/-- 'laws.FnDistance', WHERE WHAT IT READS IS OF BULK AT MOST 1048576: true; the input reads as it did. -/
def fnDistanceUptoRow : OpenClaim := { program := "ytkieinlcpkpcjaa", sum := "32d4955ea75b73b3f1671aa44463737ccd03bf5897673cdf298e5c3edb688905", func := "loop.example/g00692/laws.FnDistance", spec := "fnDistance", unfollowed := true, recurses := true, apart := false, narrowed := true }
def FnDistanceUptoSaid : Prop := fnDistanceUptoRow.holds Try.pinned (OpenSpec.upto fnDistanceSpec)

/-- 'laws.FnBuffer', WHERE WHAT IT READS IS OF BULK AT MOST 1048576: true; the input reads as it did. -/
def fnBufferUptoRow : OpenClaim := { program := "ytkieinlcpkpcjaa", sum := "32d4955ea75b73b3f1671aa44463737ccd03bf5897673cdf298e5c3edb688905", func := "loop.example/g00692/laws.FnBuffer", spec := "fnBuffer", unfollowed := true, recurses := true, apart := false, narrowed := true }
def FnBufferUptoSaid : Prop := fnBufferUptoRow.holds Try.pinned (OpenSpec.upto fnBufferSpec)

/-- 'laws.FnExactSpansOf', WHERE WHAT IT READS IS OF BULK AT MOST 1048576: true; the input reads as it did. -/
def fnExactSpansOfUptoRow : OpenClaim := { program := "ytkieinlcpkpcjaa", sum := "32d4955ea75b73b3f1671aa44463737ccd03bf5897673cdf298e5c3edb688905", func := "loop.example/g00692/laws.FnExactSpansOf", spec := "fnExactSpansOf", unfollowed := true, recurses := true, apart := false, narrowed := true }
def FnExactSpansOfUptoSaid : Prop := fnExactSpansOfUptoRow.holds Try.pinned (OpenSpec.upto fnExactSpansOfSpec)

/-- 'laws.FnScreen', WHERE WHAT IT READS IS OF BULK AT MOST 1048576: true; the input reads as it did. -/
def fnScreenUptoRow : OpenClaim := { program := "ytkieinlcpkpcjaa", sum := "32d4955ea75b73b3f1671aa44463737ccd03bf5897673cdf298e5c3edb688905", func := "loop.example/g00692/laws.FnScreen", spec := "fnScreen", unfollowed := true, recurses := true, apart := false, narrowed := true }
def FnScreenUptoSaid : Prop := fnScreenUptoRow.holds Try.pinned (OpenSpec.upto fnScreenSpec)

/-- 'laws.FnExactCountParses', WHERE WHAT IT READS IS OF BULK AT MOST 1048576: true; the input reads as it did. -/
def fnExactCountParsesUptoRow : OpenClaim := { program := "ytkieinlcpkpcjaa", sum := "32d4955ea75b73b3f1671aa44463737ccd03bf5897673cdf298e5c3edb688905", func := "loop.example/g00692/laws.FnExactCountParses", spec := "fnExactCountParses", unfollowed := true, recurses := true, apart := false, narrowed := true }
def FnExactCountParsesUptoSaid : Prop := fnExactCountParsesUptoRow.holds Try.pinned (OpenSpec.upto fnExactCountParsesSpec)

/-- 'laws.FnExactCheckParse', WHERE WHAT IT READS IS OF BULK AT MOST 1048576: true; the input reads as it did. -/
def fnExactCheckParseUptoRow : OpenClaim := { program := "ytkieinlcpkpcjaa", sum := "32d4955ea75b73b3f1671aa44463737ccd03bf5897673cdf298e5c3edb688905", func := "loop.example/g00692/laws.FnExactCheckParse", spec := "fnExactCheckParse", unfollowed := true, recurses := true, apart := false, narrowed := true }
def FnExactCheckParseUptoSaid : Prop := fnExactCheckParseUptoRow.holds Try.pinned (OpenSpec.upto fnExactCheckParseSpec)

/-- 'laws.FnDiff', WHERE WHAT IT READS IS OF BULK AT MOST 1048576: true; the input reads as it did. -/
def fnDiffUptoRow : OpenClaim := { program := "ytkieinlcpkpcjaa", sum := "32d4955ea75b73b3f1671aa44463737ccd03bf5897673cdf298e5c3edb688905", func := "loop.example/g00692/laws.FnDiff", spec := "fnDiff", unfollowed := true, recurses := true, apart := false, narrowed := true }
def FnDiffUptoSaid : Prop := fnDiffUptoRow.holds Try.pinned (OpenSpec.upto fnDiffSpec)

/-- 'laws.FnShown', WHERE WHAT IT READS IS OF BULK AT MOST 1048576: true; the input reads as it did. -/
def fnShownUptoRow : OpenClaim := { program := "ytkieinlcpkpcjaa", sum := "32d4955ea75b73b3f1671aa44463737ccd03bf5897673cdf298e5c3edb688905", func := "loop.example/g00692/laws.FnShown", spec := "fnShown", unfollowed := true, recurses := true, apart := false, narrowed := true }
def FnShownUptoSaid : Prop := fnShownUptoRow.holds Try.pinned (OpenSpec.upto fnShownSpec)

/-- 'laws.FnExactReplaceIn', WHERE WHAT IT READS IS OF BULK AT MOST 1048576: true; the input reads as it did. -/
def fnExactReplaceInUptoRow : OpenClaim := { program := "ytkieinlcpkpcjaa", sum := "32d4955ea75b73b3f1671aa44463737ccd03bf5897673cdf298e5c3edb688905", func := "loop.example/g00692/laws.FnExactReplaceIn", spec := "fnExactReplaceIn", unfollowed := true, recurses := true, apart := false, narrowed := true }
def FnExactReplaceInUptoSaid : Prop := fnExactReplaceInUptoRow.holds Try.pinned (OpenSpec.upto fnExactReplaceInSpec)

/-- 'laws.FnExactParseOf', WHERE WHAT IT READS IS OF BULK AT MOST 1048576: true; the input reads as it did. -/
def fnExactParseOfUptoRow : OpenClaim := { program := "ytkieinlcpkpcjaa", sum := "32d4955ea75b73b3f1671aa44463737ccd03bf5897673cdf298e5c3edb688905", func := "loop.example/g00692/laws.FnExactParseOf", spec := "fnExactParseOf", unfollowed := true, recurses := true, apart := false, narrowed := true }
def FnExactParseOfUptoSaid : Prop := fnExactParseOfUptoRow.holds Try.pinned (OpenSpec.upto fnExactParseOfSpec)

/-- 'laws.FnExactSplitBy', WHERE WHAT IT READS IS OF BULK AT MOST 1048576: true; the input reads as it did. -/
def fnExactSplitByUptoRow : OpenClaim := { program := "ytkieinlcpkpcjaa", sum := "32d4955ea75b73b3f1671aa44463737ccd03bf5897673cdf298e5c3edb688905", func := "loop.example/g00692/laws.FnExactSplitBy", spec := "fnExactSplitBy", unfollowed := true, recurses := true, apart := false, narrowed := true }
def FnExactSplitByUptoSaid : Prop := fnExactSplitByUptoRow.holds Try.pinned (OpenSpec.upto fnExactSplitBySpec)

end Rows
end Go.Proofs.Ytkieinlcpkpcjaa
