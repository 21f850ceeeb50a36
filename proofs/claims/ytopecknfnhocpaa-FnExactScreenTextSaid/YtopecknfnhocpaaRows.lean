/-
  No cell of these rows narrows 'for every input' (looked for: loops, veiled, ifaces, maps, wideKeys, modest, calm, conditions, laid).
  DERIVED. THE GIVEN ROWS OF THIS SEAT. 12 by the template 'for every input the law returns true; each argument reads behind the call as it read before'; 0 by the template 'total and deterministic' (their statements: YtopecknfnhocpaaTotals.lean).
  GIVEN WITH THE SEED: the statements are not yours to turn. If you find one false, say at which input.
  Laid BY PROGRAM, IN A SANDBOX (cutbox-rows.mjs): the forced cells as the released guide's own fill.sh prints them over the translation 2ace61e60a252dc3… (all of the seat's roots in one cut). By AI agents, Wed Nov 11 2026. No macro, syntax, notation, axiom, sorry.
-/
import Derived.Test.YtopecknfnhocpaaChecked
import GoSem.Claim
import GoSem.ClaimJoined
import GoSem.ClaimMapViews
import Derived.JoinedTies
import Derived.KernelRfl
namespace Go.Proofs.Ytopecknfnhocpaa
/- THE CELL 'sum', in the pinned program and in every row, IS THE sha256 OF THE DUMP (.gsa) THAT YtopecknfnhocpaaProg.lean LOADS. Nothing in Lean hashes anything: it is a label: what it is worth is what the hold of that sum in a sandbox is worth. -/
noncomputable def Try.pinned : Pinned := { name := "ytopecknfnhocpaa", sum := "2ace61e60a252dc3516fa879697a383ec4e98882d5129a6227ad3e05cce47e1c", checked := Try.checked }
namespace Rows
def none {H : Type} : Left H := { results := [], args := [] }

/-- 'laws.FnExactCommonOf': WHATEVER THE INPUT: true; the input reads as it did. -/
def fnExactCommonOfSpec : ChangeSpec := { name := "fnExactCommonOf", fn := fun _ => fun
  | [d1, d2] => { results := [.lit (.bool true)], args := [d1, d2] }
  | _ => none }
def fnExactCommonOfRow : OpenClaim := { program := "ytopecknfnhocpaa", sum := "2ace61e60a252dc3516fa879697a383ec4e98882d5129a6227ad3e05cce47e1c", func := "loop.example/g00692/laws.FnExactCommonOf", spec := "fnExactCommonOf", unfollowed := true, recurses := true, apart := false }
def FnExactCommonOfSaid : Prop := fnExactCommonOfRow.holds Try.pinned (OpenSpec.ofChange fnExactCommonOfSpec)

/-- ITS FALSE NEIGHBOUR: 'it returns false'. Refute it at one input. -/
def fnExactCommonOfWrong : ChangeSpec := { name := "fnExactCommonOf", fn := fun _ => fun
  | [d1, d2] => { results := [.lit (.bool false)], args := [d1, d2] }
  | _ => none }
def FnExactCommonOfWrongFalsely : Prop := fnExactCommonOfRow.holds Try.pinned (OpenSpec.ofChange fnExactCommonOfWrong)

/-- 'laws.FnExactTakeBuf': WHATEVER THE INPUT: true; the input reads as it did. -/
def fnExactTakeBufSpec : ChangeSpec := { name := "fnExactTakeBuf", fn := fun _ => fun
  | [d1, d2] => { results := [.lit (.bool true)], args := [d1, d2] }
  | _ => none }
def fnExactTakeBufRow : OpenClaim := { program := "ytopecknfnhocpaa", sum := "2ace61e60a252dc3516fa879697a383ec4e98882d5129a6227ad3e05cce47e1c", func := "loop.example/g00692/laws.FnExactTakeBuf", spec := "fnExactTakeBuf", unfollowed := true, recurses := true, apart := false }
def FnExactTakeBufSaid : Prop := fnExactTakeBufRow.holds Try.pinned (OpenSpec.ofChange fnExactTakeBufSpec)

/-- ITS FALSE NEIGHBOUR: 'it returns false'. Refute it at one input. -/
def fnExactTakeBufWrong : ChangeSpec := { name := "fnExactTakeBuf", fn := fun _ => fun
  | [d1, d2] => { results := [.lit (.bool false)], args := [d1, d2] }
  | _ => none }
def FnExactTakeBufWrongFalsely : Prop := fnExactTakeBufRow.holds Try.pinned (OpenSpec.ofChange fnExactTakeBufWrong)

/-- 'laws.FnExactTurnDiff': WHATEVER THE INPUT: true; the input reads as it did. -/
def fnExactTurnDiffSpec : ChangeSpec := { name := "fnExactTurnDiff", fn := fun _ => fun
  | [d] => { results := [.lit (.bool true)], args := [d] }
  | _ => none }
def fnExactTurnDiffRow : OpenClaim := { program := "ytopecknfnhocpaa", sum := "2ace61e60a252dc3516fa879697a383ec4e98882d5129a6227ad3e05cce47e1c", func := "loop.example/g00692/laws.FnExactTurnDiff", spec := "fnExactTurnDiff", unfollowed := true, recurses := true, apart := false }
def FnExactTurnDiffSaid : Prop := fnExactTurnDiffRow.holds Try.pinned (OpenSpec.ofChange fnExactTurnDiffSpec)

/-- ITS FALSE NEIGHBOUR: 'it returns false'. Refute it at one input. -/
def fnExactTurnDiffWrong : ChangeSpec := { name := "fnExactTurnDiff", fn := fun _ => fun
  | [d] => { results := [.lit (.bool false)], args := [d] }
  | _ => none }
def FnExactTurnDiffWrongFalsely : Prop := fnExactTurnDiffRow.holds Try.pinned (OpenSpec.ofChange fnExactTurnDiffWrong)

/-- 'laws.FnExactDiffOf': WHATEVER THE INPUT: true; the input reads as it did. -/
def fnExactDiffOfSpec : ChangeSpec := { name := "fnExactDiffOf", fn := fun _ => fun
  | [d1, d2] => { results := [.lit (.bool true)], args := [d1, d2] }
  | _ => none }
def fnExactDiffOfRow : OpenClaim := { program := "ytopecknfnhocpaa", sum := "2ace61e60a252dc3516fa879697a383ec4e98882d5129a6227ad3e05cce47e1c", func := "loop.example/g00692/laws.FnExactDiffOf", spec := "fnExactDiffOf", unfollowed := true, recurses := true, apart := false }
def FnExactDiffOfSaid : Prop := fnExactDiffOfRow.holds Try.pinned (OpenSpec.ofChange fnExactDiffOfSpec)

/-- ITS FALSE NEIGHBOUR: 'it returns false'. Refute it at one input. -/
def fnExactDiffOfWrong : ChangeSpec := { name := "fnExactDiffOf", fn := fun _ => fun
  | [d1, d2] => { results := [.lit (.bool false)], args := [d1, d2] }
  | _ => none }
def FnExactDiffOfWrongFalsely : Prop := fnExactDiffOfRow.holds Try.pinned (OpenSpec.ofChange fnExactDiffOfWrong)

/-- 'laws.FnExactApplyDiff': WHATEVER THE INPUT: true; the input reads as it did. -/
def fnExactApplyDiffSpec : ChangeSpec := { name := "fnExactApplyDiff", fn := fun _ => fun
  | [d1, d2] => { results := [.lit (.bool true)], args := [d1, d2] }
  | _ => none }
def fnExactApplyDiffRow : OpenClaim := { program := "ytopecknfnhocpaa", sum := "2ace61e60a252dc3516fa879697a383ec4e98882d5129a6227ad3e05cce47e1c", func := "loop.example/g00692/laws.FnExactApplyDiff", spec := "fnExactApplyDiff", unfollowed := true, recurses := true, apart := false }
def FnExactApplyDiffSaid : Prop := fnExactApplyDiffRow.holds Try.pinned (OpenSpec.ofChange fnExactApplyDiffSpec)

/-- ITS FALSE NEIGHBOUR: 'it returns false'. Refute it at one input. -/
def fnExactApplyDiffWrong : ChangeSpec := { name := "fnExactApplyDiff", fn := fun _ => fun
  | [d1, d2] => { results := [.lit (.bool false)], args := [d1, d2] }
  | _ => none }
def FnExactApplyDiffWrongFalsely : Prop := fnExactApplyDiffRow.holds Try.pinned (OpenSpec.ofChange fnExactApplyDiffWrong)

/-- 'laws.FnExactScreenText': WHATEVER THE INPUT: true; the input reads as it did. -/
def fnExactScreenTextSpec : ChangeSpec := { name := "fnExactScreenText", fn := fun _ => fun
  | [d] => { results := [.lit (.bool true)], args := [d] }
  | _ => none }
def fnExactScreenTextRow : OpenClaim := { program := "ytopecknfnhocpaa", sum := "2ace61e60a252dc3516fa879697a383ec4e98882d5129a6227ad3e05cce47e1c", func := "loop.example/g00692/laws.FnExactScreenText", spec := "fnExactScreenText", unfollowed := true, recurses := true, apart := false }
def FnExactScreenTextSaid : Prop := fnExactScreenTextRow.holds Try.pinned (OpenSpec.ofChange fnExactScreenTextSpec)

/-- ITS FALSE NEIGHBOUR: 'it returns false'. Refute it at one input. -/
def fnExactScreenTextWrong : ChangeSpec := { name := "fnExactScreenText", fn := fun _ => fun
  | [d] => { results := [.lit (.bool false)], args := [d] }
  | _ => none }
def FnExactScreenTextWrongFalsely : Prop := fnExactScreenTextRow.holds Try.pinned (OpenSpec.ofChange fnExactScreenTextWrong)

/-- 'laws.FnExactPutBuf': WHATEVER THE INPUT: true; the input reads as it did. -/
def fnExactPutBufSpec : ChangeSpec := { name := "fnExactPutBuf", fn := fun _ => fun
  | [d1, d2, d3] => { results := [.lit (.bool true)], args := [d1, d2, d3] }
  | _ => none }
def fnExactPutBufRow : OpenClaim := { program := "ytopecknfnhocpaa", sum := "2ace61e60a252dc3516fa879697a383ec4e98882d5129a6227ad3e05cce47e1c", func := "loop.example/g00692/laws.FnExactPutBuf", spec := "fnExactPutBuf", unfollowed := true, recurses := true, apart := false }
def FnExactPutBufSaid : Prop := fnExactPutBufRow.holds Try.pinned (OpenSpec.ofChange fnExactPutBufSpec)

/-- ITS FALSE NEIGHBOUR: 'it returns false'. Refute it at one input. -/
def fnExactPutBufWrong : ChangeSpec := { name := "fnExactPutBuf", fn := fun _ => fun
  | [d1, d2, d3] => { results := [.lit (.bool false)], args := [d1, d2, d3] }
  | _ => none }
def FnExactPutBufWrongFalsely : Prop := fnExactPutBufRow.holds Try.pinned (OpenSpec.ofChange fnExactPutBufWrong)

/-- 'laws.FnDistance': WHATEVER THE INPUT: true; the input reads as it did. -/
def fnDistanceSpec : ChangeSpec := { name := "fnDistance", fn := fun _ => fun
  | [d1, d2] => { results := [.lit (.bool true)], args := [d1, d2] }
  | _ => none }
def fnDistanceRow : OpenClaim := { program := "ytopecknfnhocpaa", sum := "2ace61e60a252dc3516fa879697a383ec4e98882d5129a6227ad3e05cce47e1c", func := "loop.example/g00692/laws.FnDistance", spec := "fnDistance", unfollowed := true, recurses := true, apart := false }
def FnDistanceSaid : Prop := fnDistanceRow.holds Try.pinned (OpenSpec.ofChange fnDistanceSpec)

/-- ITS FALSE NEIGHBOUR: 'it returns false'. Refute it at one input. -/
def fnDistanceWrong : ChangeSpec := { name := "fnDistance", fn := fun _ => fun
  | [d1, d2] => { results := [.lit (.bool false)], args := [d1, d2] }
  | _ => none }
def FnDistanceWrongFalsely : Prop := fnDistanceRow.holds Try.pinned (OpenSpec.ofChange fnDistanceWrong)

/-- 'laws.FnExactLogOf': WHATEVER THE INPUT: true; the input reads as it did. -/
def fnExactLogOfSpec : ChangeSpec := { name := "fnExactLogOf", fn := fun _ => fun
  | [d1, d2] => { results := [.lit (.bool true)], args := [d1, d2] }
  | _ => none }
def fnExactLogOfRow : OpenClaim := { program := "ytopecknfnhocpaa", sum := "2ace61e60a252dc3516fa879697a383ec4e98882d5129a6227ad3e05cce47e1c", func := "loop.example/g00692/laws.FnExactLogOf", spec := "fnExactLogOf", apart := false }
def FnExactLogOfSaid : Prop := fnExactLogOfRow.holds Try.pinned (OpenSpec.ofChange fnExactLogOfSpec)

/-- ITS FALSE NEIGHBOUR: 'it returns false'. Refute it at one input. -/
def fnExactLogOfWrong : ChangeSpec := { name := "fnExactLogOf", fn := fun _ => fun
  | [d1, d2] => { results := [.lit (.bool false)], args := [d1, d2] }
  | _ => none }
def FnExactLogOfWrongFalsely : Prop := fnExactLogOfRow.holds Try.pinned (OpenSpec.ofChange fnExactLogOfWrong)

/-- 'laws.FnBuffer': WHATEVER THE INPUT: true; the input reads as it did. -/
def fnBufferSpec : ChangeSpec := { name := "fnBuffer", fn := fun _ => fun
  | [d1, d2] => { results := [.lit (.bool true)], args := [d1, d2] }
  | _ => none }
def fnBufferRow : OpenClaim := { program := "ytopecknfnhocpaa", sum := "2ace61e60a252dc3516fa879697a383ec4e98882d5129a6227ad3e05cce47e1c", func := "loop.example/g00692/laws.FnBuffer", spec := "fnBuffer", unfollowed := true, recurses := true, apart := false }
def FnBufferSaid : Prop := fnBufferRow.holds Try.pinned (OpenSpec.ofChange fnBufferSpec)

/-- ITS FALSE NEIGHBOUR: 'it returns false'. Refute it at one input. -/
def fnBufferWrong : ChangeSpec := { name := "fnBuffer", fn := fun _ => fun
  | [d1, d2] => { results := [.lit (.bool false)], args := [d1, d2] }
  | _ => none }
def FnBufferWrongFalsely : Prop := fnBufferRow.holds Try.pinned (OpenSpec.ofChange fnBufferWrong)

/-- 'laws.FnExactPutRune': WHATEVER THE INPUT: true; the input reads as it did. -/
def fnExactPutRuneSpec : ChangeSpec := { name := "fnExactPutRune", fn := fun _ => fun
  | [d1, d2] => { results := [.lit (.bool true)], args := [d1, d2] }
  | _ => none }
def fnExactPutRuneRow : OpenClaim := { program := "ytopecknfnhocpaa", sum := "2ace61e60a252dc3516fa879697a383ec4e98882d5129a6227ad3e05cce47e1c", func := "loop.example/g00692/laws.FnExactPutRune", spec := "fnExactPutRune", unfollowed := true, recurses := true, apart := false }
def FnExactPutRuneSaid : Prop := fnExactPutRuneRow.holds Try.pinned (OpenSpec.ofChange fnExactPutRuneSpec)

/-- ITS FALSE NEIGHBOUR: 'it returns false'. Refute it at one input. -/
def fnExactPutRuneWrong : ChangeSpec := { name := "fnExactPutRune", fn := fun _ => fun
  | [d1, d2] => { results := [.lit (.bool false)], args := [d1, d2] }
  | _ => none }
def FnExactPutRuneWrongFalsely : Prop := fnExactPutRuneRow.holds Try.pinned (OpenSpec.ofChange fnExactPutRuneWrong)

/-- 'laws.FnExactPutRunes': WHATEVER THE INPUT: true; the input reads as it did. -/
def fnExactPutRunesSpec : ChangeSpec := { name := "fnExactPutRunes", fn := fun _ => fun
  | [d1, d2] => { results := [.lit (.bool true)], args := [d1, d2] }
  | _ => none }
def fnExactPutRunesRow : OpenClaim := { program := "ytopecknfnhocpaa", sum := "2ace61e60a252dc3516fa879697a383ec4e98882d5129a6227ad3e05cce47e1c", func := "loop.example/g00692/laws.FnExactPutRunes", spec := "fnExactPutRunes", unfollowed := true, recurses := true, apart := false }
def FnExactPutRunesSaid : Prop := fnExactPutRunesRow.holds Try.pinned (OpenSpec.ofChange fnExactPutRunesSpec)

/-- ITS FALSE NEIGHBOUR: 'it returns false'. Refute it at one input. -/
def fnExactPutRunesWrong : ChangeSpec := { name := "fnExactPutRunes", fn := fun _ => fun
  | [d1, d2] => { results := [.lit (.bool false)], args := [d1, d2] }
  | _ => none }
def FnExactPutRunesWrongFalsely : Prop := fnExactPutRunesRow.holds Try.pinned (OpenSpec.ofChange fnExactPutRunesWrong)

/- THE SECOND FORM. 'bulk': how many values and letters a reading holds, each counted each time it is reached (what is shared counts as often as it is met; a slice's spare places count too). A statement '..UptoSaid' is the law's where the arguments, and the package variables that the reading takes, are together of bulk at most 1048576: NARROWER than '..Said'. Prove '..Said' where nothing that the law and all that it calls make is longer than what came in: it says more and counts as full. Else prove '..UptoSaid'. A law counts once. -/
mutual
def uptoBulk {H : Type} : DataW H → Nat
  | .lit (.string bytes) => bytes.length + 1
  | .lit _ => 1
  | .nil => 1
  | .ptr d => uptoBulk d + 1
  | .slice elems spare => uptoBulkAll elems + uptoBulkAll spare + 1
  | .agg parts => uptoBulkAll parts + 1
  | .iface _ d => uptoBulk d + 1
  | .map entries => uptoBulkEntries entries + 1
  | .held _ => 1
def uptoBulkAll {H : Type} : List (DataW H) → Nat
  | [] => 0
  | d :: r => uptoBulk d + uptoBulkAll r
def uptoBulkEntries {H : Type} : List (Lit × DataW H) → Nat
  | [] => 0
  | x :: r => uptoBulkEntry x + uptoBulkEntries r
def uptoBulkEntry {H : Type} : Lit × DataW H → Nat
  | (.string bytes, d) => bytes.length + uptoBulk d + 1
  | (_, d) => uptoBulk d + 1
 end
def uptoSmall : (H : Type) → List (DataW H) → Bool := fun _ ds => decide (uptoBulkAll ds ≤ 1048576)
def OpenSpec.upto (s : _root_.Go.ChangeSpec) : _root_.Go.OpenSpec := { _root_.Go.OpenSpec.ofChange s with cond := some uptoSmall }

/-- 'laws.FnExactCommonOf', WHERE WHAT IT READS IS OF BULK AT MOST 1048576: true; the input reads as it did. -/
def fnExactCommonOfUptoRow : OpenClaim := { program := "ytopecknfnhocpaa", sum := "2ace61e60a252dc3516fa879697a383ec4e98882d5129a6227ad3e05cce47e1c", func := "loop.example/g00692/laws.FnExactCommonOf", spec := "fnExactCommonOf", unfollowed := true, recurses := true, apart := false, narrowed := true }
def FnExactCommonOfUptoSaid : Prop := fnExactCommonOfUptoRow.holds Try.pinned (OpenSpec.upto fnExactCommonOfSpec)

/-- 'laws.FnExactTakeBuf', WHERE WHAT IT READS IS OF BULK AT MOST 1048576: true; the input reads as it did. -/
def fnExactTakeBufUptoRow : OpenClaim := { program := "ytopecknfnhocpaa", sum := "2ace61e60a252dc3516fa879697a383ec4e98882d5129a6227ad3e05cce47e1c", func := "loop.example/g00692/laws.FnExactTakeBuf", spec := "fnExactTakeBuf", unfollowed := true, recurses := true, apart := false, narrowed := true }
def FnExactTakeBufUptoSaid : Prop := fnExactTakeBufUptoRow.holds Try.pinned (OpenSpec.upto fnExactTakeBufSpec)

/-- 'laws.FnExactTurnDiff', WHERE WHAT IT READS IS OF BULK AT MOST 1048576: true; the input reads as it did. -/
def fnExactTurnDiffUptoRow : OpenClaim := { program := "ytopecknfnhocpaa", sum := "2ace61e60a252dc3516fa879697a383ec4e98882d5129a6227ad3e05cce47e1c", func := "loop.example/g00692/laws.FnExactTurnDiff", spec := "fnExactTurnDiff", unfollowed := true, recurses := true, apart := false, narrowed := true }
def FnExactTurnDiffUptoSaid : Prop := fnExactTurnDiffUptoRow.holds Try.pinned (OpenSpec.upto fnExactTurnDiffSpec)

/-- 'laws.FnExactDiffOf', WHERE WHAT IT READS IS OF BULK AT MOST 1048576: true; the input reads as it did. -/
def fnExactDiffOfUptoRow : OpenClaim := { program := "ytopecknfnhocpaa", sum := "2ace61e60a252dc3516fa879697a383ec4e98882d5129a6227ad3e05cce47e1c", func := "loop.example/g00692/laws.FnExactDiffOf", spec := "fnExactDiffOf", unfollowed := true, recurses := true, apart := false, narrowed := true }
def FnExactDiffOfUptoSaid : Prop := fnExactDiffOfUptoRow.holds Try.pinned (OpenSpec.upto fnExactDiffOfSpec)

/-- 'laws.FnExactApplyDiff', WHERE WHAT IT READS IS OF BULK AT MOST 1048576: true; the input reads as it did. -/
def fnExactApplyDiffUptoRow : OpenClaim := { program := "ytopecknfnhocpaa", sum := "2ace61e60a252dc3516fa879697a383ec4e98882d5129a6227ad3e05cce47e1c", func := "loop.example/g00692/laws.FnExactApplyDiff", spec := "fnExactApplyDiff", unfollowed := true, recurses := true, apart := false, narrowed := true }
def FnExactApplyDiffUptoSaid : Prop := fnExactApplyDiffUptoRow.holds Try.pinned (OpenSpec.upto fnExactApplyDiffSpec)

/-- 'laws.FnExactScreenText', WHERE WHAT IT READS IS OF BULK AT MOST 1048576: true; the input reads as it did. -/
def fnExactScreenTextUptoRow : OpenClaim := { program := "ytopecknfnhocpaa", sum := "2ace61e60a252dc3516fa879697a383ec4e98882d5129a6227ad3e05cce47e1c", func := "loop.example/g00692/laws.FnExactScreenText", spec := "fnExactScreenText", unfollowed := true, recurses := true, apart := false, narrowed := true }
def FnExactScreenTextUptoSaid : Prop := fnExactScreenTextUptoRow.holds Try.pinned (OpenSpec.upto fnExactScreenTextSpec)

/-- 'laws.FnExactPutBuf', WHERE WHAT IT READS IS OF BULK AT MOST 1048576: true; the input reads as it did. -/
def fnExactPutBufUptoRow : OpenClaim := { program := "ytopecknfnhocpaa", sum := "2ace61e60a252dc3516fa879697a383ec4e98882d5129a6227ad3e05cce47e1c", func := "loop.example/g00692/laws.FnExactPutBuf", spec := "fnExactPutBuf", unfollowed := true, recurses := true, apart := false, narrowed := true }
def FnExactPutBufUptoSaid : Prop := fnExactPutBufUptoRow.holds Try.pinned (OpenSpec.upto fnExactPutBufSpec)

/-- 'laws.FnDistance', WHERE WHAT IT READS IS OF BULK AT MOST 1048576: true; the input reads as it did. -/
def fnDistanceUptoRow : OpenClaim := { program := "ytopecknfnhocpaa", sum := "2ace61e60a252dc3516fa879697a383ec4e98882d5129a6227ad3e05cce47e1c", func := "loop.example/g00692/laws.FnDistance", spec := "fnDistance", unfollowed := true, recurses := true, apart := false, narrowed := true }
def FnDistanceUptoSaid : Prop := fnDistanceUptoRow.holds Try.pinned (OpenSpec.upto fnDistanceSpec)

/-- 'laws.FnExactLogOf', WHERE WHAT IT READS IS OF BULK AT MOST 1048576: true; the input reads as it did. -/
def fnExactLogOfUptoRow : OpenClaim := { program := "ytopecknfnhocpaa", sum := "2ace61e60a252dc3516fa879697a383ec4e98882d5129a6227ad3e05cce47e1c", func := "loop.example/g00692/laws.FnExactLogOf", spec := "fnExactLogOf", apart := false, narrowed := true }
def FnExactLogOfUptoSaid : Prop := fnExactLogOfUptoRow.holds Try.pinned (OpenSpec.upto fnExactLogOfSpec)

/-- 'laws.FnBuffer', WHERE WHAT IT READS IS OF BULK AT MOST 1048576: true; the input reads as it did. -/
def fnBufferUptoRow : OpenClaim := { program := "ytopecknfnhocpaa", sum := "2ace61e60a252dc3516fa879697a383ec4e98882d5129a6227ad3e05cce47e1c", func := "loop.example/g00692/laws.FnBuffer", spec := "fnBuffer", unfollowed := true, recurses := true, apart := false, narrowed := true }
def FnBufferUptoSaid : Prop := fnBufferUptoRow.holds Try.pinned (OpenSpec.upto fnBufferSpec)

/-- 'laws.FnExactPutRune', WHERE WHAT IT READS IS OF BULK AT MOST 1048576: true; the input reads as it did. -/
def fnExactPutRuneUptoRow : OpenClaim := { program := "ytopecknfnhocpaa", sum := "2ace61e60a252dc3516fa879697a383ec4e98882d5129a6227ad3e05cce47e1c", func := "loop.example/g00692/laws.FnExactPutRune", spec := "fnExactPutRune", unfollowed := true, recurses := true, apart := false, narrowed := true }
def FnExactPutRuneUptoSaid : Prop := fnExactPutRuneUptoRow.holds Try.pinned (OpenSpec.upto fnExactPutRuneSpec)

/-- 'laws.FnExactPutRunes', WHERE WHAT IT READS IS OF BULK AT MOST 1048576: true; the input reads as it did. -/
def fnExactPutRunesUptoRow : OpenClaim := { program := "ytopecknfnhocpaa", sum := "2ace61e60a252dc3516fa879697a383ec4e98882d5129a6227ad3e05cce47e1c", func := "loop.example/g00692/laws.FnExactPutRunes", spec := "fnExactPutRunes", unfollowed := true, recurses := true, apart := false, narrowed := true }
def FnExactPutRunesUptoSaid : Prop := fnExactPutRunesUptoRow.holds Try.pinned (OpenSpec.upto fnExactPutRunesSpec)

end Rows
end Go.Proofs.Ytopecknfnhocpaa
