/- A logic of what is known of memory, over the kit's weakest preconditions: one part. No conditions: lemmas. -/
import Derived.Test.YtbeolahmnoeicaaGreatDoorGK
set_option autoImplicit false
set_option relaxedAutoImplicit false
set_option linter.unusedVariables false
set_option linter.unusedSimpArgs false
namespace Go.Proofs.GL
open Go
section
variable {α : Type}
def Ck.es {K : Kd α} (O : Ow K) (css : List (List Value)) (xs : List α) : Ck where
 P sb s F := ∃ FE : Nat → Fp, (∀ (i : Nat) c x, css[i]? = some c → xs[i]? = some x → O.own sb s (FE i) c x) ∧ (∀ i j, i ≠ j → Dj (FE i) (FE j)) ∧ ∀ i b, FE i b → F b
 fr := fun ⟨FE, h1, h2, h3⟩ he hG => ⟨FE, fun i c x hc hx => O.fr (h1 i c x hc hx) he fun b hb => hG b (h3 i b hb), h2, h3⟩
 up := fun ⟨FE, h1, h2, h3⟩ hb => ⟨FE, fun i c x hc hx => O.up (h1 i c x hc hx) hb, h2, h3⟩
 le := fun ⟨FE, h1, h2, h3⟩ hl => ⟨FE, h1, h2, fun i b hb => hl b (h3 i b hb)⟩
variable {P : Program} {sb s0 s : St} {F0 : Fp} {cs : List Ck}
theorem Hp.weak {cs' : List Ck} (h : Hp sb s0 F0 s cs) (hw : ∀ k, getC cs' k = getC cs k ∨ getC cs' k = Ck.emp) : Hp sb s0 F0 s cs' := by
 obtain ⟨F, h1, h2, h3⟩ := h.ck
 refine ⟨h.fr, h.bs, F, fun k => ?_, h2, h3⟩
 rcases hw k with e | e
 ·rw [e]; exact h1 k
 ·rw [e]; exact trivial
section
variable {Kl : List Value → St → Prop} {l : List Value} {d : Option Tmp} {ty : TypeId} {pos : String} {af : Array Edge} {gd : Option (Nat × Bool)}
end
end
end Go.Proofs.GL

