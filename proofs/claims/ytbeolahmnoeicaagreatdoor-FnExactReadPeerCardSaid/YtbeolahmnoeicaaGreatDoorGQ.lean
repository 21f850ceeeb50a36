/- A logic of what is known of memory, over the kit's weakest preconditions: one part. No conditions: lemmas. -/
import Derived.Test.YtbeolahmnoeicaaGreatDoorGM
set_option autoImplicit false
set_option relaxedAutoImplicit false
set_option linter.unusedVariables false
set_option linter.unusedSimpArgs false
namespace Go.Proofs.GL
open Go
def EqC (P : Program) (t : TypeId) (x y : Value) (b : Bool) : Prop := (∀ (ro : Bool) (s : St) (K : Bool → St → Prop), K false s → GOk P ro (isAgg t) s K) ∧ ∀ (d : Nat) (ro : Bool) (s : St) (K : Bool → St → Prop), K b s → GOk P ro (Op.equalIn (d + 1) t x y) s K
theorem EqC.int {P : Program} {t : TypeId} {k k' : IntKind} {n m : Int} (h : P.underlying t = some (.int k')) : EqC P t (.int k n) (.int k m) (n == m) :=
 ⟨fun ro s K hK => by unfold isAgg; rw [y5, yb h]; exact hK, fun d ro s K hK => by
  unfold Op.equalIn
  simp only [y5, yb h, if_true]
  exact hK⟩
theorem EqC.bool {P : Program} {t : TypeId} {n m : Bool} (h : P.underlying t = some .bool) : EqC P t (.bool n) (.bool m) (n == m) :=
 ⟨fun ro s K hK => by unfold isAgg; rw [y5, yb h]; exact hK, fun d ro s K hK => by
  unfold Op.equalIn
  simp only [y5, yb h]
  exact hK⟩
theorem EqC.text {P : Program} {t : TypeId} {n m : ByteArray} (h : P.underlying t = some .string) : EqC P t (.string n) (.string m) (n == m) :=
 ⟨fun ro s K hK => by unfold isAgg; rw [y5, yb h]; exact hK, fun d ro s K hK => by
  unfold Op.equalIn
  simp only [y5, yb h]
  exact hK⟩
def EqFs (P : Program) (xs ys : Array Value) : List Field → Bool → Prop
 | [], b => b = true
 | f :: fs, b => (f.name == "_") = false ∧ ∃ x y b1 b2, xs[f.offset]? = some x ∧ ys[f.offset]? = some y ∧ EqC P f.type x y b1 ∧ EqFs P xs ys fs b2 ∧ b = (b1 && b2)
theorem EqFs.cons {P : Program} {xs ys : Array Value} {f : Field} {fs : List Field} {x y : Value} {b1 b2 : Bool} (hn : (f.name == "_") = false) (hx : xs[f.offset]? = some x) (hy : ys[f.offset]? = some y) (h : EqC P f.type x y b1) (h2 : EqFs P xs ys fs b2) : EqFs P xs ys (f :: fs) (b1 && b2) := ⟨hn, x, y, b1, b2, hx, hy, h, h2, rfl⟩
section
variable {P : Program} {ro : Bool} {s : St} {Kl : List Value → St → Prop} {l : List Value} {d : Option Tmp} {ty : TypeId} {pos : String} {af : Array Edge} {gd : Option (Nat × Bool)}
end
end Go.Proofs.GL

