/- A logic of what is known of memory, over the kit's weakest preconditions: one part. No conditions: lemmas. -/
import Derived.Test.YtbeolahmnoeicaaGreatDoorGM
set_option autoImplicit false
set_option relaxedAutoImplicit false
set_option linter.unusedVariables false
set_option linter.unusedSimpArgs false
namespace Go.Proofs.GL
open Go
def EqC (P : Program) (t : TypeId) (x y : Value) (b : Bool) : Prop := (∀ (ro : Bool) (s : St) (K : Bool → St → Prop), K false s → GOk P ro (isAgg t) s K) ∧ ∀ (d : Nat) (ro : Bool) (s : St) (K : Bool → St → Prop), K b s → GOk P ro (Op.equalIn (d + 1) t x y) s K
theorem EqC.int {P : Program} {t : TypeId} {k k' : IntKind} {n m : Int} (h : P.underlying t = some (.int k')) : EqC P t (.int k n) (.int k m) (n == m) :=
 ⟨fun ro s K hK => by unfold isAgg; rw [ye, yn h]; exact hK, fun d ro s K hK => by
  unfold Op.equalIn
  simp only [ye, yn h, if_true]
  exact hK⟩
theorem EqC.bool {P : Program} {t : TypeId} {n m : Bool} (h : P.underlying t = some .bool) : EqC P t (.bool n) (.bool m) (n == m) :=
 ⟨fun ro s K hK => by unfold isAgg; rw [ye, yn h]; exact hK, fun d ro s K hK => by
  unfold Op.equalIn
  simp only [ye, yn h]
  exact hK⟩
theorem EqC.text {P : Program} {t : TypeId} {n m : ByteArray} (h : P.underlying t = some .string) : EqC P t (.string n) (.string m) (n == m) :=
 ⟨fun ro s K hK => by unfold isAgg; rw [ye, yn h]; exact hK, fun d ro s K hK => by
  unfold Op.equalIn
  simp only [ye, yn h]
  exact hK⟩
def EqFs (P : Program) (xs ys : Array Value) : List Field → Bool → Prop
 | [], b => b = true
 | f :: fs, b => (f.name == "_") = false ∧ ∃ x y b1 b2, xs[f.offset]? = some x ∧ ys[f.offset]? = some y ∧ EqC P f.type x y b1 ∧ EqFs P xs ys fs b2 ∧ b = (b1 && b2)
theorem EqFs.cons {P : Program} {xs ys : Array Value} {f : Field} {fs : List Field} {x y : Value} {b1 b2 : Bool} (hn : (f.name == "_") = false) (hx : xs[f.offset]? = some x) (hy : ys[f.offset]? = some y) (h : EqC P f.type x y b1) (h2 : EqFs P xs ys fs b2) : EqFs P xs ys (f :: fs) (b1 && b2) := ⟨hn, x, y, b1, b2, hx, hy, h, h2, rfl⟩
theorem GOk_part {P : Program} {ro : Bool} {s : St} {t : TypeId} {cs : Array Value} {o : Nat} {v : Value} {K : Value → St → Prop} (hA : ∀ K : Bool → St → Prop, K false s → GOk P ro (isAgg t) s K) (hv : cs[o]? = some v) (h : K v s) : GOk P ro (part t cs o) s K := by
 unfold part
 rw [ye]
 refine hA _ ?_
 rw [if_neg Bool.false_ne_true, hv]
 exact h
theorem GOk_eqS {P : Program} {ro : Bool} {s : St} {t : TypeId} {fs : Array Field} {xs ys : Array Value} {b : Bool} {K : Bool → St → Prop} (d : Nat) (ht : P.underlying t = some (.struct fs)) (hp : P.stoodInHeld t = false) (hf : EqFs P xs ys fs.toList b) (hK : K b s) : GOk P ro (Op.equalIn (d + 2) t (.agg xs) (.agg ys)) s K := by
 unfold Op.equalIn
 rw [ye, yn ht]
 simp only []
 rw [ye]
 show GOk P ro _ s _
 refine (?_ : GOk P ro (Sem.program Sem.pure) s _)
 show GOk P ro (if P.stoodInHeld t = true then _ else _) s K
 rw [hp, if_neg Bool.false_ne_true, ye, ← Array.forIn_toList]
 generalize fs.toList = l at hf
 clear ht
 induction l generalizing b with
 | nil =>
  have hf : b = true := hf
  subst hf
  exact hK
 | cons f l ih =>
  obtain ⟨hn, x, y, b1, b2, hx, hy, h1, h2, rfl⟩ := hf
  have hn' : f.name ≠ "_" := by simpa using hn
  rw [List.forIn_cons, ye, if_pos hn', ye]
  refine GOk_part (fun K hK => h1.1 _ _ _ hK) hx ?_
  rw [ye]
  refine GOk_part (fun K hK => h1.1 _ _ _ hK) hy ?_
  rw [ye]
  refine h1.2 d _ _ _ ?_
  cases b1 with
  | false => exact hK
  | true =>
   rw [Bool.true_and] at hK
   exact ih hK h2
section
variable {P : Program} {ro : Bool} {s : St} {Kl : List Value → St → Prop} {l : List Value} {d : Option Tmp} {ty : TypeId} {pos : String} {af : Array Edge} {gd : Option (Nat × Bool)}
theorem GOk_guardS {op : BinOp} {t : TypeId} {x y : Operand} {xs ys : Array Value} {K : Unit → St → Prop} (hg : P.eqGuardType P.depth t = false) (hK : K () s) : GOk P ro (eqGuard op t x y (.agg xs) (.agg ys)) s K := by
 unfold eqGuard
 cases op <;> first | exact hK | skip
 all_goals
  show GOk P ro (Sem.program fun p => _) s K
  show GOk P ro (if (!P.eqGuardType P.depth t) = true then _ else _) s K
  rw [hg]
  exact hK
theorem o_eqS {xt yt : TypeId} {fs : Array Field} {x y : Operand} {xs ys : Array Value} {b : Bool} (hx : evL l x = .agg xs) (hy : evL l y = .agg ys) (ht : P.underlying xt = some (.struct fs)) (hp : P.stoodInHeld xt = false) (hg : P.eqGuardType P.depth xt = false) (hf : EqFs P xs ys fs.toList b) (h : Kl (yy l d (.bool b)) s) : HO P ro ⟨d, .binOp .eql xt x y yt, ty, pos, af, gd⟩ l s Kl := by
 unfold HO execOp
 simp only [hx, hy, binOp, ye]
 refine GOk_guardS hg ?_
 exact GOk_eqS 9998 ht hp hf h
end
end Go.Proofs.GL

