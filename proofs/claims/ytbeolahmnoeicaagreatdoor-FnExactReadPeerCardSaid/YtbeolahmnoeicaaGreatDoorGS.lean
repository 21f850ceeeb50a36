/- A logic of what is known of memory, over the kit's weakest preconditions: one part. No conditions: lemmas. -/
import Derived.Test.YtbeolahmnoeicaaGreatDoorGQ
set_option autoImplicit false
set_option relaxedAutoImplicit false
set_option linter.unusedVariables false
set_option linter.unusedSimpArgs false
namespace Go.Proofs.GL
open Go
def rdS? (S : ByteArray) (i : Int) : Option Int := if 0 ≤ i then (S[i.toNat]?).map (fun b => (b.toNat : Int)) else none
def cutS? (S : ByteArray) (L H : Int) : Option ByteArray := if 0 ≤ L ∧ L ≤ H ∧ H ≤ S.size then some (S.extract L.toNat H.toNat) else none
section
variable {P : Program} {ro : Bool} {s : St} {Kl : List Value → St → Prop} {l : List Value} {d : Option Tmp} {ty : TypeId} {pos : String} {af : Array Edge} {gd : Option (Nat × Bool)}
theorem o_idxS {x ix : Operand} {t : TypeId} {S : ByteArray} {k : IntKind} {i u : Int} (hx : evL l x = .string S) (hi : evL l ix = .int k i) (ht : P.underlying t = some .string) (hr : rdS? S i = some u) (h : Kl (yh l d (.int .u8 u)) s) : HO P ro ⟨d, .index t x ix, ty, pos, af, gd⟩ l s Kl := by
 unfold rdS? at hr
 split at hr
 case isFalse => cases hr
 rename_i h0
 obtain ⟨b, hb, rfl⟩ := Option.map_eq_some_iff.1 hr
 unfold HO execOp
 simp only [hx, hi, Instr.index, asIntOf, y5, y8, yb ht, h0, if_true, hb]
 exact h
theorem o_cutS {x : Operand} {lo hi : Option Operand} {t : TypeId} {S T : ByteArray} {kl kh : IntKind} {L H : Int} (hx : evL l x = .string S) (hlo : (lo.map (evL l)).getD (.int kl 0) = .int kl L) (hhi : (hi.map (evL l)).getD (.int kh S.size) = .int kh H) (ht : P.underlying t = some .string) (hc : cutS? S L H = some T) (h : Kl (yh l d (.string T)) s) : HO P ro ⟨d, .slice t x lo hi none, ty, pos, af, gd⟩ l s Kl := by
 unfold cutS? at hc
 split at hc
 case isFalse => cases hc
 rename_i h0
 obtain ⟨h0, h1, h2⟩ := h0
 obtain rfl := Option.some.inj hc
 have hb : ∀ (y : Nat) (code : BoundsCode) (k : IntKind) (n : Int) (KK : Nat → St → Prop), 0 ≤ n → n ≤ y → KK n.toNat s → GOk P ro (Instr.sliceBound (.int k n) y code) s KK := fun y code k n KK g0 g1 hk => by
  unfold Instr.sliceBound
  simp only [y5, asIntOf, y8]
  rw [if_pos ⟨g0, g1⟩]
  exact hk
 have hbounds : ∀ KK : Nat × Nat × Nat → St → Prop, KK (L.toNat, H.toNat, S.size) s → GOk P ro (Instr.sliceBounds false S.size S.size (lo.map (evL l)) (hi.map (evL l)) none) s KK := fun KK hk => by
  unfold Instr.sliceBounds
  cases hi with
  | none =>
   have eH : (S.size : Int) = H := by injection hhi
   have eH' : S.size = H.toNat := by omega
   cases lo with
   | none =>
    have : (0 : Int) = L := by injection hlo
    subst this
    rw [← eH'] at hk
    simp only [Option.map_none, y5, y8]
    exact hk
   | some ol =>
    have e : evL l ol = .int kl L := hlo
    rw [← eH'] at hk
    simp only [Option.map_none, Option.map_some, y5, y8, Option.isSome_none, Bool.false_eq_true, if_false, e]
    exact hb _ _ _ _ _ h0 (by omega) hk
  | some oh =>
   have e1 : evL l oh = .int kh H := hhi
   cases lo with
   | none =>
    have : (0 : Int) = L := by injection hlo
    subst this
    simp only [Option.map_none, Option.map_some, y5, y8, Option.isSome_none, Bool.false_eq_true, if_false, e1]
    exact hb _ _ _ _ _ (by omega) h2 hk
   | some ol =>
    have e : evL l ol = .int kl L := hlo
    simp only [Option.map_none, Option.map_some, y5, y8, Option.isSome_none, Bool.false_eq_true, if_false, e1, e]
    exact hb _ _ _ _ _ (by omega) h2 (hb _ _ _ _ _ h0 (by omega) hk)
 unfold HO execOp
 have hna : ∀ n e', P.underlying t ≠ some (.array n e') := fun n e' h' => by rw [ht] at h'; cases h'
 simp only [hx, Instr.sliceAt, y5, yb ht, Option.map_none, Instr.slice, Option.isSome_none, Bool.false_eq_true, if_false]
 first
  | exact hbounds _ h
  | (refine (y8 _ _).2 ?_; exact hbounds _ h)
end
end Go.Proofs.GL

