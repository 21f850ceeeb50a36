/- A logic of what is known of memory, over the kit's weakest preconditions: one part. No conditions: lemmas. -/
import Derived.Test.YtbeolahmnoeicaaGreatGQ
set_option autoImplicit false
set_option relaxedAutoImplicit false
set_option linter.unusedVariables false
set_option linter.unusedSimpArgs false
namespace Go.Proofs.GL
open Go
def rdS? (S : ByteArray) (i : Int) : Option Int := if 0 ≤ i then (S[i.toNat]?).map (fun b => (b.toNat : Int)) else none
def cutS? (S : ByteArray) (L H : Int) : Option ByteArray := if 0 ≤ L ∧ L ≤ H ∧ H ≤ S.size then some (S.extract L.toNat H.toNat) else none
section
variable {P : Program} {ro : Bool} {s : St} {Kl : List Value → St → Prop} {l : List Value} {d : Option Tmp} {ty : TypeId} {pos : String} {af : Array Edge} {gd : Option (Nat × Bool)}
end
end Go.Proofs.GL

