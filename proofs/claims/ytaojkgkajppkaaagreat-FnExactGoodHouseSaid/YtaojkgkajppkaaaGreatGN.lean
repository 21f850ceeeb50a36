/- A logic of what is known of memory, over the kit's weakest preconditions: one part. No conditions: lemmas. -/
import Derived.Test.YtaojkgkajppkaaaGreatGK
set_option autoImplicit false
set_option relaxedAutoImplicit false
set_option linter.unusedVariables false
set_option linter.unusedSimpArgs false
namespace Go.Proofs.GL
open Go
section
variable {α : Type}
variable {P : Program} {sb s0 s : St} {F0 : Fp} {cs : List Ck}
theorem Hp.weak {cs' : List Ck} (h : Hp sb s0 F0 s cs) (hw : ∀ k, ym cs' k = ym cs k ∨ ym cs' k = Ck.emp) : Hp sb s0 F0 s cs' := by
  obtain ⟨F, h1, h2, h3⟩ := h.ck
  refine ⟨h.fr, h.bs, F, fun k => ?_, h2, h3⟩
  rcases hw k with e | e
  · rw [e]; exact h1 k
  · rw [e]; exact trivial
section
variable {Kl : List Value → St → Prop} {l : List Value} {d : Option Tmp} {ty : TypeId} {pos : String} {af : Array Edge} {gd : Option (Nat × Bool)}
end
end
end Go.Proofs.GL

