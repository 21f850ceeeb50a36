/- A logic of what is known of memory, over the kit's weakest preconditions: one part. No conditions: lemmas. -/
import Derived.Test.YtbeolahmnoeicaaGreatGN
set_option autoImplicit false
set_option relaxedAutoImplicit false
set_option linter.unusedVariables false
set_option linter.unusedSimpArgs false
namespace Go.Proofs.GL
open Go
def Ck.ox (b : Nat) (o : Obj) : Ck := ⟨fun _ s F => s.x b = some o ∧ F b, fun h he hG => ⟨he.x b _ (hG b h.2) h.1, h.2⟩, fun h _ => h, fun h hl => ⟨h.1, hl b h.2⟩⟩
instance (b : Nat) (o : Obj) : (Ck.ox b o).Free := ⟨fun h => h⟩
theorem dom_setX (s : St) (b : Nat) (o : Obj) {k : Nat} (h : s.dom k = true) : (s.setX b o).dom k = true := by
 by_cases e : k = b
 ·subst e; simp [St.dom, St.setX]
 ·simpa [St.dom, St.setX, e] using h
theorem Fr.setX {s : St} {b : Nat} (o : Obj) : Fr (fun k => k = b) s (s.setX b o) :=
 ⟨⟨fun _ _ _ h => h, fun _ _ _ h => h, fun k y hk h => by simpa [St.setX, show ¬ k = b from hk] using h, fun _ => rfl⟩, fun k hk => dom_setX s b o hk⟩
theorem Fr.newX {s : St} {b : Nat} (hf : s.fresh b) (o : Obj) : Fr no s (s.setX b o) :=
 ⟨⟨fun _ _ _ h => h, fun _ _ _ h => h, fun k y _ h => by
  have : k ≠ b := by rintro rfl; rw [hf.2.2.2] at h; cases h
  simpa [St.setX, this] using h, fun _ => rfl⟩, fun k hk => dom_setX s b o hk⟩
section
variable {sb s0 s : St} {F0 : Fp} {cs : List Ck}
theorem Hp.newX (h : Hp sb s0 F0 s cs) {b : Nat} (hb : s.fresh b) (o : Obj) : Hp sb s0 F0 (s.setX b o) (addC cs [Ck.ox b o]) :=
 h.new (F' := fun k => k = b) (Fr.newX hb _) (fun k hk => by subst hk; exact ⟨hb, by simp [St.dom, St.setX]⟩) ⟨by simp [St.setX], rfl⟩
theorem Gro.off {t : St} {b : Nat} (h : Gro t s) (hb : s.dom b = false) : t.dom b = false := by
 cases e : t.dom b with
 | false => rfl
 | true => rw [h.keep.dom b e] at hb; cases hb
theorem Gro.putX {t : St} {b : Nat} (h : Gro t s) (hb : t.dom b = false) (o : Obj) : Gro t (s.setX b o) :=
 ⟨fun k i v hk => h.mono k i v hk, ⟨fun k y hn => (hn trivial).elim, fun k y hE hk => h.keep.t k y hE hk, fun k y hk => by
  have : k ≠ b := by rintro rfl; simp [St.dom, hk] at hb
  simpa [St.setX, this] using h.keep.x k y hk, fun k => h.keep.g k, fun k hk => dom_setX s b o (h.keep.dom k hk)⟩⟩
variable {P : Program} {ro : Bool} {Kl : List Value → St → Prop} {l : List Value} {d : Option Tmp} {ty : TypeId} {pos : String} {af : Array Edge} {gd : Option (Nat × Bool)}
theorem GOk_key {e : Bool} {n : Nat} {kt : TypeId} {kb : Bool} {K : Unit → St → Prop} (hkt : P.underlying kt = some .bool) : GOk P ro (Instr.checkKey e (n + 1) kt (.bool kb)) s K ↔ K () s := by
 unfold Instr.checkKey
 rw [ye, yq hkt]
 exact Iff.rfl
theorem GOk_find {kt : TypeId} {k : Value} {es : List MapEntry} {r : Option (Nat × Value)} {K : Option (Nat × Value) → St → Prop} (hkt : P.underlying kt = some .bool) (hr : Instr.findNow .bool k es 0 = some r) : GOk P ro (Instr.findKey kt k es) s K ↔ K r s := by
 unfold Instr.findKey
 rw [ye, yq hkt, hr]
 exact Iff.rfl
theorem GOk_getObj {r : Nat} {o : Obj} {K : Obj → St → Prop} (h : s.x r = some o) (hk : K o s) : GOk P ro (getObj r) s K := ⟨o, h, hk⟩
theorem o_mapH {t : TypeId} (hH : Hp sb s0 F0 s cs) (h : ∀ b s', Hp sb s0 F0 s' (addC cs [Ck.ox b (.map #[] 0)]) → Gro s s' → s.dom b = false → Kl (yv l d (.map (some b))) s') : HO P false ⟨d, .makeMap t none, ty, pos, af, gd⟩ l s Kl := by
 unfold HO execOp
 simp only [Instr.makeMap, ye, newObj, ym, Option.map_none]
 exact ⟨rfl, none, fun b hb => h b _ (hH.newX hb _) (Fr.newX hb _).gro (fresh_dom hb)⟩
theorem o_insH {t kt et : TypeId} {m x y : Operand} {b : Nat} {kb : Bool} {v : Value} (hH : Hp sb s0 F0 s cs) (k : Nat) (hl : Nat.blt k cs.length = true) (hk : yy cs k = Ck.ox b (.map #[] 0)) (hm : evL l m = .map (some b)) (hx : evL l x = .bool kb) (hy : evL l y = v) (ht : P.underlying t = some (.map kt et)) (hkt : P.underlying kt = some .bool)
  (h : ∀ s', Hp sb s0 F0 s' (setC cs k (Ck.ox b (.map #[⟨.bool kb, v, 0⟩] 1))) → (∀ z, Gro z s → z.dom b = false → Gro z s') → Kl (yv l d undef) s') : HO P false ⟨d, .insert t m x y, ty, pos, af, gd⟩ l s Kl := by
 obtain ⟨Fi, g1, g2, g3⟩ := hH.upd k (Nat.le_of_ble_eq_true hl)
 rw [hk] at g1
 unfold HO execOp
 simp only [hm, hx, hy, Instr.mapUpdate, ye, yq ht]
 refine GOk_getObj g1.1 ?_
 refine (ye _ _ _ _).2 ((GOk_key (n := 9999) hkt).2 ?_)
 refine (ye _ _ _ _).2 ((GOk_find (r := none) hkt rfl).2 ?_)
 refine ⟨rfl, by rw [g1.1]; rfl, rfl, show false = false ∧ Kl (yv l d undef) (s.setX b (.map #[⟨.bool kb, v, 0⟩] 1)) from ⟨rfl, h _ (g3 _ _ Fi ((Fr.setX _).weak fun q hq => hq ▸ g1.2) (fun _ h => .inl h) ⟨by simp [St.setX], g1.2⟩) fun z hz hb => hz.putX hb _⟩⟩
theorem o_lkH {t kt et : TypeId} {m x : Operand} {b : Nat} {kb : Bool} {v z : Value} {clk n by_ : Nat} (hH : Hp sb s0 F0 s cs) (k : Nat) (hk : yy cs k = Ck.ox b (.map #[⟨.bool true, v, 0⟩] clk)) (hm : evL l m = .map (some b)) (hx : evL l x = .bool kb) (ht : P.underlying t = some (.map kt et)) (hkt : P.underlying kt = some .bool) (hz : TI P et z n by_)
  (h : Kl (yv l d (if kb = true then v else z)) s) : HO P false ⟨d, .lookup t m x false, ty, pos, af, gd⟩ l s Kl := by
 obtain ⟨Fi, g1⟩ := hH.ckP k
 rw [hk] at g1
 unfold HO execOp
 simp only [hm, hx, Instr.lookup, ye, yq ht]
 refine GOk_getObj g1.1 ?_
 refine (ye _ _ _ _).2 ((ym _ _).2 ?_)
 refine (ye _ _ _ _).2 ((GOk_key (n := 9999) hkt).2 ?_)
 cases kb
 ·refine (ye _ _ _ _).2 ((GOk_find (r := none) hkt rfl).2 ?_)
  refine (ye _ _ _ _).2 ((GOk_zeroValue hz _).2 ?_)
  exact h
 ·refine (ye _ _ _ _).2 ((GOk_find (r := some (0, v)) hkt rfl).2 ?_)
  exact h
theorem o_lkI {t kt et : TypeId} {m x : Operand} {b : Nat} {kb : Bool} {ki : IntKind} {vi zi : Int} {clk n by_ : Nat} (hH : Hp sb s0 F0 s cs) (k : Nat) (hk : yy cs k = Ck.ox b (.map #[⟨.bool true, .int ki vi, 0⟩] clk)) (hm : evL l m = .map (some b)) (hx : evL l x = .bool kb) (ht : P.underlying t = some (.map kt et)) (hkt : P.underlying kt = some .bool) (hz : TI P et (.int ki zi) n by_)
  (h : Kl (yv l d (.int ki (if kb = true then vi else zi))) s) : HO P false ⟨d, .lookup t m x false, ty, pos, af, gd⟩ l s Kl :=
 o_lkH hH k hk hm hx ht hkt hz (by cases kb <;> exact h)
end
end Go.Proofs.GL

