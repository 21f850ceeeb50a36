/- A logic of what is known of memory, over the kit's weakest preconditions: one part. No conditions: lemmas. -/
import Derived.Test.YtbeolahmnoeicaaGreatDoorGV
set_option autoImplicit false
set_option relaxedAutoImplicit false
set_option linter.unusedVariables false
set_option linter.unusedSimpArgs false
namespace Go.Proofs.GL
open Go
abbrev Ck.it (b : Nat) (S : ByteArray) (p : Int) : Ck := Ck.ox b (.stringIter S p.toNat)
def itGo (S : ByteArray) (p : Int) : Bool := decide (p.toNat < S.size)
def itRune (S : ByteArray) (p : Int) : Int := (Utf8.decode S p.toNat).1
def itNext (S : ByteArray) (p : Int) : Int := ((p.toNat + (Utf8.decode S p.toNat).2 : Nat) : Int)
section
variable {sb s0 s : St} {F0 : Fp} {cs : List Ck} {P : Program} {Kl : List Value → St → Prop} {l : List Value} {d : Option Tmp} {ty : TypeId} {pos : String} {af : Array Edge} {gd : Option (Nat × Bool)}
theorem o_rangeS {t : TypeId} {x : Operand} {S : ByteArray} (hH : Hp sb s0 F0 s cs) (hx : evL l x = .string S) (ht : P.underlying t = some .string)
  (h : ∀ b s', Hp sb s0 F0 s' (addC cs [Ck.it b S 0]) → Kl (yh l d (.pointer (some ⟨b, 0, none⟩))) s') : HO P false ⟨d, .range t x, ty, pos, af, gd⟩ l s Kl := by
 unfold HO execOp
 simp only [hx, Instr.range, y5, yb ht, newObj, y8]
 exact ⟨rfl, none, fun b hb => h b _ (hH.newX hb _)⟩
theorem o_nextT {m : Operand} {b : Nat} {S : ByteArray} {p : Int} (hH : Hp sb s0 F0 s cs) (k : Nat) (hl : Nat.blt k cs.length = true) (hk : getC cs k = Ck.it b S p) (hm : evL l m = .pointer (some ⟨b, 0, none⟩)) (hg : itGo S p = true)
  (h : ∀ s', Hp sb s0 F0 s' (setC cs k (Ck.it b S (itNext S p))) → Kl (yh l d (.tuple #[.bool true, .int .i64 (p.toNat : Int), .int .i32 (itRune S p)])) s') : HO P false ⟨d, .next m true, ty, pos, af, gd⟩ l s Kl := by
 obtain ⟨Fi, g1, g2, g3⟩ := hH.upd k (Nat.le_of_ble_eq_true hl)
 rw [hk] at g1
 unfold HO execOp
 simp only [hm, Instr.next, y5]
 refine GOk_getObj g1.1 ?_
 unfold itGo at hg
 have hg := of_decide_eq_true hg
 simp only [hg, if_true]
 refine (y5 _ _ _ _).2 ⟨rfl, by rw [g1.1]; rfl, rfl, ?_⟩
 refine (y8 _ _).2 ?_
 exact h _ (g3 _ _ Fi ((Fr.setX _).weak fun q hq => hq ▸ g1.2) (fun _ h => .inl h) ⟨by unfold itNext; rw [Int.toNat_natCast]; simp [St.setX], g1.2⟩)
theorem o_nextF {m : Operand} {b : Nat} {S : ByteArray} {p : Int} (hH : Hp sb s0 F0 s cs) (k : Nat) (hk : getC cs k = Ck.it b S p) (hm : evL l m = .pointer (some ⟨b, 0, none⟩)) (hg : itGo S p = false)
  (h : Kl (yh l d (.tuple #[.bool false])) s) : HO P false ⟨d, .next m true, ty, pos, af, gd⟩ l s Kl := by
 obtain ⟨Fi, g1⟩ := hH.ckP k
 rw [hk] at g1
 unfold HO execOp
 simp only [hm, Instr.next, y5]
 refine GOk_getObj g1.1 ?_
 unfold itGo at hg
 have hg := of_decide_eq_false hg
 simp only [hg, if_false]
 exact (y8 _ _).2 h
end
end Go.Proofs.GL

