/- A logic of what is known of memory, over the kit's weakest preconditions: one part. No conditions: lemmas. -/
import Derived.Test.YtbeolahmnoeicaaGreatGF
set_option linter.unusedVariables false
set_option linter.unusedSimpArgs false
namespace Go.Proofs.GL
open Go
section
variable {α β : Type} {sb s0 s : St} {F0 : Fp} {cs : List Ck}
variable {P : Program} {ro : Bool} {Kl : List Value → St → Prop} {l : List Value} {d : Option Tmp} {ty : TypeId} {pos : String} {af : Array Edge} {gd : Option (Nat × Bool)}
theorem o_eqN {xt yt e : TypeId} {x y : Operand} {A : Option Addr} {n c n' c' : Nat} (hx : evL l x = .slice A n c) (hy : evL l y = .slice none n' c') (hu : P.underlying xt = some (.slice e)) (h : Kl (yv l d (.bool A.isNone)) s) : HO P ro ⟨d, .binOp .eql xt x y yt, ty, pos, af, gd⟩ l s Kl := by
 unfold HO execOp
 simp only [hx, hy, eqGuard, binOp, ye, GOk_eqN hu, ym]
 exact h
def shrK? (k : IntKind) (x y : Int) : Option Int := if 0 ≤ y then some (x.fdiv (2 ^ (min y.toNat k.bits))) else none
theorem o_shrK {k : IntKind} {xt yt : TypeId} {x y : Operand} {yk : IntKind} {n m q : Int} (hx : evL l x = .int k n) (hy : evL l y = .int yk m) (hq : shrK? k n m = some q) (h : Kl (yv l d (.int k q)) s) : HO P ro ⟨d, .binOp .shr xt x y yt, ty, pos, af, gd⟩ l s Kl := by
 unfold shrK? at hq
 split at hq
 ·rename_i h0
  obtain rfl := Option.some.inj hq
  unfold HO execOp
  simp only [hx, hy, eqGuard, binOp, Op.shift, ye, ym, if_neg (show ¬ m < 0 by omega)]
  exact h
 ·cases hq
end
end Go.Proofs.GL
namespace Go.Proofs.GL
open Go
theorem sliceLen {A : Option Addr} {n m c : Nat} (h : m = n) : Value.slice A n c = Value.slice A m c := by rw [h]
end Go.Proofs.GL

