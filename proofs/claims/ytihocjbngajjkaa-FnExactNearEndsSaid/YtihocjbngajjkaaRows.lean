/-
  No cell of these rows narrows 'for every input' (looked for: loops, veiled, ifaces, maps, wideKeys, modest, calm, conditions, laid).
  DERIVED. THE GIVEN ROWS OF THIS SEAT. 6 by the template 'for every input the law returns true; each argument reads behind the call as it read before'; 0 by the template 'total and deterministic' (their statements: YtihocjbngajjkaaTotals.lean).
  GIVEN WITH THE SEED: the statements are not yours to turn. If you find one false, say at which input.
  Laid BY PROGRAM, IN A SANDBOX (cutbox-rows.mjs): the forced cells as the released guide's own fill.sh prints them over the translation c471acb8ac2bde16… (all of the seat's roots in one cut). By AI agents, Wed Nov 11 2026. No macro, syntax, notation, axiom, sorry.
-/
import Derived.Test.YtihocjbngajjkaaChecked
import GoSem.Claim
import GoSem.ClaimJoined
import GoSem.ClaimMapViews
import Derived.JoinedTies
import Derived.KernelRfl
namespace Go.Proofs.Ytihocjbngajjkaa
/- THE CELL 'sum', in the pinned program and in every row, IS THE sha256 OF THE DUMP (.gsa) THAT YtihocjbngajjkaaProg.lean LOADS. Nothing in Lean hashes anything: it is a label: what it is worth is what the hold of that sum in a sandbox is worth. -/
noncomputable def Try.pinned : Pinned := { name := "ytihocjbngajjkaa", sum := "c471acb8ac2bde1691a1e9c1879d1a1955afc0aac285dea22c75554152c0cd4e", checked := Try.checked }
namespace Rows
def none {H : Type} : Left H := { results := [], args := [] }

/-- 'laws.FnExactGoodScreen': WHATEVER THE INPUT: true; the input reads as it did. -/
def fnExactGoodScreenSpec : ChangeSpec := { name := "fnExactGoodScreen", fn := fun _ => fun
  | [d] => { results := [.lit (.bool true)], args := [d] }
  | _ => none }
def fnExactGoodScreenRow : OpenClaim := { program := "ytihocjbngajjkaa", sum := "c471acb8ac2bde1691a1e9c1879d1a1955afc0aac285dea22c75554152c0cd4e", func := "loop.example/g00692/laws.FnExactGoodScreen", spec := "fnExactGoodScreen", unfollowed := true, recurses := true, apart := false }
def FnExactGoodScreenSaid : Prop := fnExactGoodScreenRow.holds Try.pinned (OpenSpec.ofChange fnExactGoodScreenSpec)

/-- ITS FALSE NEIGHBOUR: 'it returns false'. Refute it at one input. -/
def fnExactGoodScreenWrong : ChangeSpec := { name := "fnExactGoodScreen", fn := fun _ => fun
  | [d] => { results := [.lit (.bool false)], args := [d] }
  | _ => none }
def FnExactGoodScreenWrongFalsely : Prop := fnExactGoodScreenRow.holds Try.pinned (OpenSpec.ofChange fnExactGoodScreenWrong)

/-- 'laws.FnExactDistanceOf': WHATEVER THE INPUT: true; the input reads as it did. -/
def fnExactDistanceOfSpec : ChangeSpec := { name := "fnExactDistanceOf", fn := fun _ => fun
  | [d1, d2] => { results := [.lit (.bool true)], args := [d1, d2] }
  | _ => none }
def fnExactDistanceOfRow : OpenClaim := { program := "ytihocjbngajjkaa", sum := "c471acb8ac2bde1691a1e9c1879d1a1955afc0aac285dea22c75554152c0cd4e", func := "loop.example/g00692/laws.FnExactDistanceOf", spec := "fnExactDistanceOf", unfollowed := true, recurses := true, apart := false }
def FnExactDistanceOfSaid : Prop := fnExactDistanceOfRow.holds Try.pinned (OpenSpec.ofChange fnExactDistanceOfSpec)

/-- ITS FALSE NEIGHBOUR: 'it returns false'. Refute it at one input. -/
def fnExactDistanceOfWrong : ChangeSpec := { name := "fnExactDistanceOf", fn := fun _ => fun
  | [d1, d2] => { results := [.lit (.bool false)], args := [d1, d2] }
  | _ => none }
def FnExactDistanceOfWrongFalsely : Prop := fnExactDistanceOfRow.holds Try.pinned (OpenSpec.ofChange fnExactDistanceOfWrong)

/-- 'laws.FnExactNewScreen': WHATEVER THE INPUT: true; the input reads as it did. -/
def fnExactNewScreenSpec : ChangeSpec := { name := "fnExactNewScreen", fn := fun _ => fun
  | [d1, d2] => { results := [.lit (.bool true)], args := [d1, d2] }
  | _ => none }
def fnExactNewScreenRow : OpenClaim := { program := "ytihocjbngajjkaa", sum := "c471acb8ac2bde1691a1e9c1879d1a1955afc0aac285dea22c75554152c0cd4e", func := "loop.example/g00692/laws.FnExactNewScreen", spec := "fnExactNewScreen", apart := false }
def FnExactNewScreenSaid : Prop := fnExactNewScreenRow.holds Try.pinned (OpenSpec.ofChange fnExactNewScreenSpec)

/-- ITS FALSE NEIGHBOUR: 'it returns false'. Refute it at one input. -/
def fnExactNewScreenWrong : ChangeSpec := { name := "fnExactNewScreen", fn := fun _ => fun
  | [d1, d2] => { results := [.lit (.bool false)], args := [d1, d2] }
  | _ => none }
def FnExactNewScreenWrongFalsely : Prop := fnExactNewScreenRow.holds Try.pinned (OpenSpec.ofChange fnExactNewScreenWrong)

/-- 'laws.FnExactNearEnds': WHATEVER THE INPUT: true; the input reads as it did. -/
def fnExactNearEndsSpec : ChangeSpec := { name := "fnExactNearEnds", fn := fun _ => fun
  | [d1, d2, d3] => { results := [.lit (.bool true)], args := [d1, d2, d3] }
  | _ => none }
def fnExactNearEndsRow : OpenClaim := { program := "ytihocjbngajjkaa", sum := "c471acb8ac2bde1691a1e9c1879d1a1955afc0aac285dea22c75554152c0cd4e", func := "loop.example/g00692/laws.FnExactNearEnds", spec := "fnExactNearEnds", unfollowed := true, recurses := true, apart := false }
def FnExactNearEndsSaid : Prop := fnExactNearEndsRow.holds Try.pinned (OpenSpec.ofChange fnExactNearEndsSpec)

/-- ITS FALSE NEIGHBOUR: 'it returns false'. Refute it at one input. -/
def fnExactNearEndsWrong : ChangeSpec := { name := "fnExactNearEnds", fn := fun _ => fun
  | [d1, d2, d3] => { results := [.lit (.bool false)], args := [d1, d2, d3] }
  | _ => none }
def FnExactNearEndsWrongFalsely : Prop := fnExactNearEndsRow.holds Try.pinned (OpenSpec.ofChange fnExactNearEndsWrong)

/-- 'laws.FnExactShowsAt': WHATEVER THE INPUT: true; the input reads as it did. -/
def fnExactShowsAtSpec : ChangeSpec := { name := "fnExactShowsAt", fn := fun _ => fun
  | [d1, d2] => { results := [.lit (.bool true)], args := [d1, d2] }
  | _ => none }
def fnExactShowsAtRow : OpenClaim := { program := "ytihocjbngajjkaa", sum := "c471acb8ac2bde1691a1e9c1879d1a1955afc0aac285dea22c75554152c0cd4e", func := "loop.example/g00692/laws.FnExactShowsAt", spec := "fnExactShowsAt", unfollowed := true, recurses := true, apart := false }
def FnExactShowsAtSaid : Prop := fnExactShowsAtRow.holds Try.pinned (OpenSpec.ofChange fnExactShowsAtSpec)

/-- ITS FALSE NEIGHBOUR: 'it returns false'. Refute it at one input. -/
def fnExactShowsAtWrong : ChangeSpec := { name := "fnExactShowsAt", fn := fun _ => fun
  | [d1, d2] => { results := [.lit (.bool false)], args := [d1, d2] }
  | _ => none }
def FnExactShowsAtWrongFalsely : Prop := fnExactShowsAtRow.holds Try.pinned (OpenSpec.ofChange fnExactShowsAtWrong)

/-- 'laws.FnExactRowOf': WHATEVER THE INPUT: true; the input reads as it did. -/
def fnExactRowOfSpec : ChangeSpec := { name := "fnExactRowOf", fn := fun _ => fun
  | [d1, d2] => { results := [.lit (.bool true)], args := [d1, d2] }
  | _ => none }
def fnExactRowOfRow : OpenClaim := { program := "ytihocjbngajjkaa", sum := "c471acb8ac2bde1691a1e9c1879d1a1955afc0aac285dea22c75554152c0cd4e", func := "loop.example/g00692/laws.FnExactRowOf", spec := "fnExactRowOf", unfollowed := true, recurses := true, apart := false }
def FnExactRowOfSaid : Prop := fnExactRowOfRow.holds Try.pinned (OpenSpec.ofChange fnExactRowOfSpec)

/-- ITS FALSE NEIGHBOUR: 'it returns false'. Refute it at one input. -/
def fnExactRowOfWrong : ChangeSpec := { name := "fnExactRowOf", fn := fun _ => fun
  | [d1, d2] => { results := [.lit (.bool false)], args := [d1, d2] }
  | _ => none }
def FnExactRowOfWrongFalsely : Prop := fnExactRowOfRow.holds Try.pinned (OpenSpec.ofChange fnExactRowOfWrong)

/- THE SECOND FORM. 'bulk': how many values and letters a reading holds, each counted each time it is reached (what is shared counts as often as it is met; a slice's spare places count too). A statement '..UptoSaid' is the law's where the arguments, and the package variables that the reading takes, are together of bulk at most 1048576: NARROWER than '..Said'. Prove '..Said' where nothing that the law and all that it calls make is longer than what came in: it says more and counts as full. Else prove '..UptoSaid'. A law counts once. -/
mutual
def uptoBulk {H : Type} : DataW H → Nat
  | .lit (.string bytes) => bytes.length + 1
  | .lit _ => 1
  | .nil => 1
  | .ptr d => uptoBulk d + 1
  | .slice elems spare => uptoBulkAll elems + uptoBulkAll spare + 1
  | .agg parts => uptoBulkAll parts + 1
  | .iface _ d => uptoBulk d + 1
  | .map entries => uptoBulkEntries entries + 1
  | .held _ => 1
def uptoBulkAll {H : Type} : List (DataW H) → Nat
  | [] => 0
  | d :: r => uptoBulk d + uptoBulkAll r
def uptoBulkEntries {H : Type} : List (Lit × DataW H) → Nat
  | [] => 0
  | x :: r => uptoBulkEntry x + uptoBulkEntries r
def uptoBulkEntry {H : Type} : Lit × DataW H → Nat
  | (.string bytes, d) => bytes.length + uptoBulk d + 1
  | (_, d) => uptoBulk d + 1
 end
def uptoSmall : (H : Type) → List (DataW H) → Bool := fun _ ds => decide (uptoBulkAll ds ≤ 1048576)
def OpenSpec.upto (s : _root_.Go.ChangeSpec) : _root_.Go.OpenSpec := { _root_.Go.OpenSpec.ofChange s with cond := some uptoSmall }

/-- 'laws.FnExactGoodScreen', WHERE WHAT IT READS IS OF BULK AT MOST 1048576: true; the input reads as it did. -/
def fnExactGoodScreenUptoRow : OpenClaim := { program := "ytihocjbngajjkaa", sum := "c471acb8ac2bde1691a1e9c1879d1a1955afc0aac285dea22c75554152c0cd4e", func := "loop.example/g00692/laws.FnExactGoodScreen", spec := "fnExactGoodScreen", unfollowed := true, recurses := true, apart := false, narrowed := true }
def FnExactGoodScreenUptoSaid : Prop := fnExactGoodScreenUptoRow.holds Try.pinned (OpenSpec.upto fnExactGoodScreenSpec)

/-- 'laws.FnExactDistanceOf', WHERE WHAT IT READS IS OF BULK AT MOST 1048576: true; the input reads as it did. -/
def fnExactDistanceOfUptoRow : OpenClaim := { program := "ytihocjbngajjkaa", sum := "c471acb8ac2bde1691a1e9c1879d1a1955afc0aac285dea22c75554152c0cd4e", func := "loop.example/g00692/laws.FnExactDistanceOf", spec := "fnExactDistanceOf", unfollowed := true, recurses := true, apart := false, narrowed := true }
def FnExactDistanceOfUptoSaid : Prop := fnExactDistanceOfUptoRow.holds Try.pinned (OpenSpec.upto fnExactDistanceOfSpec)

/-- 'laws.FnExactNewScreen', WHERE WHAT IT READS IS OF BULK AT MOST 1048576: true; the input reads as it did. -/
def fnExactNewScreenUptoRow : OpenClaim := { program := "ytihocjbngajjkaa", sum := "c471acb8ac2bde1691a1e9c1879d1a1955afc0aac285dea22c75554152c0cd4e", func := "loop.example/g00692/laws.FnExactNewScreen", spec := "fnExactNewScreen", apart := false, narrowed := true }
def FnExactNewScreenUptoSaid : Prop := fnExactNewScreenUptoRow.holds Try.pinned (OpenSpec.upto fnExactNewScreenSpec)

/-- 'laws.FnExactNearEnds', WHERE WHAT IT READS IS OF BULK AT MOST 1048576: true; the input reads as it did. -/
def fnExactNearEndsUptoRow : OpenClaim := { program := "ytihocjbngajjkaa", sum := "c471acb8ac2bde1691a1e9c1879d1a1955afc0aac285dea22c75554152c0cd4e", func := "loop.example/g00692/laws.FnExactNearEnds", spec := "fnExactNearEnds", unfollowed := true, recurses := true, apart := false, narrowed := true }
def FnExactNearEndsUptoSaid : Prop := fnExactNearEndsUptoRow.holds Try.pinned (OpenSpec.upto fnExactNearEndsSpec)

/-- 'laws.FnExactShowsAt', WHERE WHAT IT READS IS OF BULK AT MOST 1048576: true; the input reads as it did. -/
def fnExactShowsAtUptoRow : OpenClaim := { program := "ytihocjbngajjkaa", sum := "c471acb8ac2bde1691a1e9c1879d1a1955afc0aac285dea22c75554152c0cd4e", func := "loop.example/g00692/laws.FnExactShowsAt", spec := "fnExactShowsAt", unfollowed := true, recurses := true, apart := false, narrowed := true }
def FnExactShowsAtUptoSaid : Prop := fnExactShowsAtUptoRow.holds Try.pinned (OpenSpec.upto fnExactShowsAtSpec)

/-- 'laws.FnExactRowOf', WHERE WHAT IT READS IS OF BULK AT MOST 1048576: true; the input reads as it did. -/
def fnExactRowOfUptoRow : OpenClaim := { program := "ytihocjbngajjkaa", sum := "c471acb8ac2bde1691a1e9c1879d1a1955afc0aac285dea22c75554152c0cd4e", func := "loop.example/g00692/laws.FnExactRowOf", spec := "fnExactRowOf", unfollowed := true, recurses := true, apart := false, narrowed := true }
def FnExactRowOfUptoSaid : Prop := fnExactRowOfUptoRow.holds Try.pinned (OpenSpec.upto fnExactRowOfSpec)

end Rows
end Go.Proofs.Ytihocjbngajjkaa
