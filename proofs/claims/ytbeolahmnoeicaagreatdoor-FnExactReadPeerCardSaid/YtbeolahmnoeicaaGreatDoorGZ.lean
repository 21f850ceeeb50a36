/- A logic of what is known of memory, over the kit's weakest preconditions: one part. No conditions: lemmas. -/
import Derived.Test.YtbeolahmnoeicaaGreatDoorGY
set_option autoImplicit false
set_option relaxedAutoImplicit false
set_option linter.unusedVariables false
set_option linter.unusedSimpArgs false
namespace Go.Proofs.GL
open Go
section
variable {P : Program} {l : List Value} {s : St} {d : Option Tmp} {ty : TypeId} {pos : String} {af : Array Edge} {gd : Option (Nat × Bool)} {Kl : List Value → St → Prop}
end
class Ow.Bd {α : Type} {K : Kd α} (O : Ow K) : Prop where
 bd : ∀ {sb s F cs x}, O.own sb s F cs x → K.rep sb cs x
instance {α : Type} {K : Kd α} : (Ow.lent K).Bd := ⟨fun h => h⟩
instance {α : Type} {K : Kd α} (hf : K.Flat) : (Ow.flat hf).Bd := ⟨fun h => hf _ _ _ _ h⟩
instance {α β : Type} {K : Kd α} {L : Kd β} (O : Ow K) (O' : Ow L) [O.Bd] [O'.Bd] : (Ow.pair O O').Bd := ⟨by
 rintro sb s F cs x ⟨c1, c2, h, F1, F2, _, _, _, h1, h2⟩; exact ⟨c1, c2, h, Ow.Bd.bd h1, Ow.Bd.bd h2⟩⟩
end Go.Proofs.GL

