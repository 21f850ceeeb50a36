/- A logic of what is known of memory, over the kit's weakest preconditions: one part. No conditions: lemmas. -/
import Derived.Test.YtbeolahmnoeicaaGreatDoorGG
set_option linter.unusedVariables false
set_option linter.unusedSimpArgs false
namespace Go.Proofs.GL
open Go
section
variable {α β : Type} {sb s0 s : St} {F0 : Fp} {cs : List Ck}
end
section
variable {P : Program} {w0 : World} {o0 : Nat → Bool} {ops : Array Oper} {Q : Exit → List Value → St → Prop} {l : List Value} {s : St}
end
end Go.Proofs.GL
namespace Go.Proofs.GL
open Go
theorem Hp.drop {sb s0 s : St} {F0 : Fp} {cs : List Ck} (h : Hp sb s0 F0 s cs) (k : Nat) (hl : Nat.blt k cs.length = true) : Hp sb s0 F0 s (setC cs k Ck.emp) := by
 obtain ⟨Fi, g1, g2, g3⟩ := h.upd k (Nat.le_of_ble_eq_true hl)
 exact g3 s _ no (Fr.refl _ _) (fun _ h => h.elim) trivial
end Go.Proofs.GL
namespace Go.Proofs.GL
open Go
section
variable {P : Program} {ro : Bool} {s : St} {Kl : List Value → St → Prop} {l : List Value} {d : Option Tmp} {ty : TypeId} {pos : String} {af : Array Edge} {gd : Option (Nat × Bool)}
end
section
variable {P : Program} {sb s0 s : St} {F0 : Fp} {cs : List Ck} {Kl : List Value → St → Prop} {l : List Value} {d : Option Tmp} {ty : TypeId} {pos : String} {af : Array Edge} {gd : Option (Nat × Bool)}
end
end Go.Proofs.GL

