/- A logic of what is known of memory, over the kit's weakest preconditions: one part. No conditions: lemmas. -/
import Derived.Test.YtbeolahmnoeicaaGreatDoorGU
set_option linter.unusedVariables false
set_option linter.unusedSimpArgs false
namespace Go.Proofs.GL
open Go
section
variable {α : Type} {P : Program} {ro : Bool} {s sb : St} {Kl : List Value → St → Prop} {l : List Value} {d : Option Tmp} {ty : TypeId} {pos : String} {af : Array Edge} {gd : Option (Nat × Bool)}
end
def u8First : List Int := List.replicate 128 240 ++ List.replicate 66 241 ++ List.replicate 30 2 ++ [19, 3, 3, 3, 3, 3, 3, 3, 3, 3, 3, 3, 3, 35, 3, 3, 52, 4, 4, 4, 68] ++ List.replicate 11 241
def u8Accept : List (Int × Int) := [(128, 191), (160, 191), (128, 159), (144, 191), (128, 143)] ++ List.replicate 11 (0, 0)
end Go.Proofs.GL

