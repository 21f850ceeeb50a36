/- A logic of what is known of memory, over the kit's weakest preconditions: part GU. No conditions: lemmas. -/
import Derived.Test.YtkieinlcpkpcjaaGS
/-! The ground that may be read has grown behind a call. -/
set_option autoImplicit false
set_option relaxedAutoImplicit false
set_option linter.unusedVariables false
set_option linter.unusedSimpArgs false
namespace Go.Proofs.GL
open Go
section
variable {sb s0 s : St} {F0 : Fp} {cs : List Ck}
theorem Hp.upNo {sb' : St} (h : Hp sb s0 F0 s cs) (u : Up no sb sb' s) : Up F0 sb sb' s0 := ⟨u.g, u.o, fun b y hy => by
  rcases u.new b y hy with h1 | h1 | h1
  · exact .inl h1
  · exact h1.elim
  · right; right
    cases e : s0.dom b with
    | false => rfl
    | true => have := h.fr.dom b e; rw [h1] at this; cases this⟩
theorem Hp.takeU (h : Hp sb s0 F0 s cs) (is : List Nat) (hn : is.Nodup) :
    ∃ F1 : Fp, Hp sb s F1 s (selC cs is) ∧ (∀ sb', Up F1 sb sb' s → Up F0 sb sb' s0) ∧ ∀ sb' s' ds, Up F1 sb sb' s → Hp sb' s F1 s' ds → Hp sb' s0 F0 s' (addC (rmC cs is) ds) := by
  obtain ⟨F1, hA, hC, hB⟩ := h.takeC is hn
  refine ⟨F1, hA, fun sb' u => ⟨u.g, u.o, fun b y hy => ?_⟩, hB⟩
  rcases u.new b y hy with h1 | h1 | h1
  · exact .inl h1
  · exact .inr (hC b h1)
  · right; right
    cases e : s0.dom b with
    | false => rfl
    | true => have := h.fr.dom b e; rw [h1] at this; cases this
end
theorem addrInj {a b c d : Nat} (h : (some ⟨a, b, none⟩ : Option Addr) = some ⟨c, d, none⟩) : a = c ∧ b = d := by cases h; exact ⟨rfl, rfl⟩
end Go.Proofs.GL
