/- A logic of what is known of memory, over the kit's weakest preconditions: one part. No conditions: lemmas. -/
import Derived.Test.YtaojkgkajppkaaaGS
set_option autoImplicit false
set_option relaxedAutoImplicit false
set_option linter.unusedVariables false
set_option linter.unusedSimpArgs false
namespace Go.Proofs.GL
open Go
section
variable {sb s0 s : St} {F0 : Fp} {cs : List Ck}
theorem Hp.upNo {sb' : St} (h : Hp sb s0 F0 s cs) (u : Up no sb sb' s) : Up F0 sb sb' s0 := ⟨u.g, u.o, fun b y hy => by
  rcases u.new b y hy with h1 | h1 | h1
  · exact .inl h1
  · exact h1.elim
  · right; right
    cases e : s0.dom b with
    | false => rfl
    | true => have := h.fr.dom b e; rw [h1] at this; cases this⟩
end
end Go.Proofs.GL

