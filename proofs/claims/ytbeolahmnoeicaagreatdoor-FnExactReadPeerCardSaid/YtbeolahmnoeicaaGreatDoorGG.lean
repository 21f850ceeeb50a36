/- A logic of what is known of memory, over the kit's weakest preconditions: one part. No conditions: lemmas. -/
import Derived.Test.YtbeolahmnoeicaaGreatDoorGF
set_option linter.unusedVariables false
set_option linter.unusedSimpArgs false
namespace Go.Proofs.GL
open Go
section
variable {α β : Type} {sb s0 s : St} {F0 : Fp} {cs : List Ck}
variable {P : Program} {ro : Bool} {Kl : List Value → St → Prop} {l : List Value} {d : Option Tmp} {ty : TypeId} {pos : String} {af : Array Edge} {gd : Option (Nat × Bool)}
def shrK? (k : IntKind) (x y : Int) : Option Int := if 0 ≤ y then some (x.fdiv (2 ^ (min y.toNat k.bits))) else none
def shlK? (k : IntKind) (x y : Int) : Option Int := if 0 ≤ y then some (k.wrap (x * 2 ^ (min y.toNat k.bits))) else none
theorem o_shrK {k : IntKind} {xt yt : TypeId} {x y : Operand} {yk : IntKind} {n m q : Int} (hx : evL l x = .int k n) (hy : evL l y = .int yk m) (hq : shrK? k n m = some q) (h : Kl (yh l d (.int k q)) s) : HO P ro ⟨d, .binOp .shr xt x y yt, ty, pos, af, gd⟩ l s Kl := by
 unfold shrK? at hq
 split at hq
 ·rename_i h0
  obtain rfl := Option.some.inj hq
  unfold HO execOp
  simp only [hx, hy, eqGuard, binOp, Op.shift, y5, y8, if_neg (show ¬ m < 0 by omega)]
  exact h
 ·cases hq
theorem o_shlK {k : IntKind} {xt yt : TypeId} {x y : Operand} {yk : IntKind} {n m q : Int} (hx : evL l x = .int k n) (hy : evL l y = .int yk m) (hq : shlK? k n m = some q) (h : Kl (yh l d (.int k q)) s) : HO P ro ⟨d, .binOp .shl xt x y yt, ty, pos, af, gd⟩ l s Kl := by
 unfold shlK? at hq
 split at hq
 ·rename_i h0
  obtain rfl := Option.some.inj hq
  unfold HO execOp
  simp only [hx, hy, eqGuard, binOp, Op.shift, y5, y8, if_neg (show ¬ m < 0 by omega)]
  exact h
 ·cases hq
end
end Go.Proofs.GL
namespace Go.Proofs.GL
open Go
theorem sliceLen {A : Option Addr} {n m c : Nat} (h : m = n) : Value.slice A n c = Value.slice A m c := by rw [h]
end Go.Proofs.GL

