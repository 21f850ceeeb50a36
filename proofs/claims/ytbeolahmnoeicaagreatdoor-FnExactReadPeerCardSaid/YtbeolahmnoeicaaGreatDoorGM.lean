/- A logic of what is known of memory, over the kit's weakest preconditions: one part. No conditions: lemmas. -/
import Derived.Test.YtbeolahmnoeicaaGreatDoorGN
set_option autoImplicit false
set_option relaxedAutoImplicit false
set_option linter.unusedVariables false
set_option linter.unusedSimpArgs false
namespace Go.Proofs.GL
open Go
def Ck.ox (b : Nat) (o : Obj) : Ck := ⟨fun _ s F => s.x b = some o ∧ F b, fun h he hG => ⟨he.x b _ (hG b h.2) h.1, h.2⟩, fun h _ => h, fun h hl => ⟨h.1, hl b h.2⟩⟩
instance (b : Nat) (o : Obj) : (Ck.ox b o).Free := ⟨fun h => h⟩
theorem dom_setX (s : St) (b : Nat) (o : Obj) {k : Nat} (h : s.dom k = true) : (s.setX b o).dom k = true := by
 by_cases e : k = b
 ·subst e; simp [St.dom, St.setX]
 ·simpa [St.dom, St.setX, e] using h
theorem Fr.setX {s : St} {b : Nat} (o : Obj) : Fr (fun k => k = b) s (s.setX b o) :=
 ⟨⟨fun _ _ _ h => h, fun _ _ _ h => h, fun k y hk h => by simpa [St.setX, show ¬ k = b from hk] using h, fun _ => rfl⟩, fun k hk => dom_setX s b o hk⟩
theorem Fr.newX {s : St} {b : Nat} (hf : s.fresh b) (o : Obj) : Fr no s (s.setX b o) :=
 ⟨⟨fun _ _ _ h => h, fun _ _ _ h => h, fun k y _ h => by
  have : k ≠ b := by rintro rfl; rw [hf.2.2.2] at h; cases h
  simpa [St.setX, this] using h, fun _ => rfl⟩, fun k hk => dom_setX s b o hk⟩
section
variable {sb s0 s : St} {F0 : Fp} {cs : List Ck}
theorem Hp.newX (h : Hp sb s0 F0 s cs) {b : Nat} (hb : s.fresh b) (o : Obj) : Hp sb s0 F0 (s.setX b o) (addC cs [Ck.ox b o]) :=
 h.new (F' := fun k => k = b) (Fr.newX hb _) (fun k hk => by subst hk; exact ⟨hb, by simp [St.dom, St.setX]⟩) ⟨by simp [St.setX], rfl⟩
theorem Gro.off {t : St} {b : Nat} (h : Gro t s) (hb : s.dom b = false) : t.dom b = false := by
 cases e : t.dom b with
 | false => rfl
 | true => rw [h.keep.dom b e] at hb; cases hb
variable {P : Program} {ro : Bool} {Kl : List Value → St → Prop} {l : List Value} {d : Option Tmp} {ty : TypeId} {pos : String} {af : Array Edge} {gd : Option (Nat × Bool)}
theorem GOk_getObj {r : Nat} {o : Obj} {K : Obj → St → Prop} (h : s.x r = some o) (hk : K o s) : GOk P ro (getObj r) s K := ⟨o, h, hk⟩
end
end Go.Proofs.GL

