/- A logic of what is known of memory, over the kit's weakest preconditions: one part. No conditions: lemmas. -/
import Derived.Test.YtbeolahmnoeicaaGreatGG
set_option linter.unusedVariables false
set_option linter.unusedSimpArgs false
namespace Go.Proofs.GL
open Go
section
variable {α β : Type} {sb s0 s : St} {F0 : Fp} {cs : List Ck}
theorem Ent.slL {K : Kd α} {O : Ow K} {e : TypeId} {A : Option Addr} {c n : Nat} {xs : List α} (h : xs.length = n) : Ent sb s [Ck.ol O e A c xs] (Ck.el (Ow.sl O e) [.slice A n c] xs) := by
 subst h
 exact Ent.sl
theorem st?_same {xs : List α} {i : Int} {u : α} (h : rd? xs i = some u) : st? xs i u = some xs := by
 obtain ⟨h0, h1, h2⟩ := rd?_some h
 unfold st?
 rw [if_pos ⟨h0, h1⟩]
 congr 1
 obtain ⟨hl, rfl⟩ := List.getElem?_eq_some_iff.1 h2
 exact List.set_getElem_self hl
theorem Hp.hasoh {K : Kd α} {O : Ow K} {e A c} {xs : List α} {i : Nat} {vs : List Value} {b o : Nat} (h : Hp sb s0 F0 s cs) (k : Nat) (hk : yy cs k = Ck.oh O e A c xs i vs) (hA : A = some ⟨b, o, none⟩) : ∀ j v, vs[j]? = some v → s.has ⟨b, o + i * K.sz + j, none⟩ v := fun j v hj => by
 obtain ⟨F, h1, _⟩ := h.ck
 have h1 := h1 k
 rw [hk] at h1
 subst hA
 obtain ⟨b', o', y, hA, a2, a3, a4, a5, a6, a7, a8, a9, rfl, _⟩ := h1
 injection hA with hA
 injection hA with hA hA2 _
 subst hA hA2
 exact ⟨rfl, .inl (.inr ⟨y, a2, getElem?_drop_take hj⟩)⟩
theorem iaddr_of {A : Option Addr} {b o : Nat} {K : Kd α} {xs : List α} {i : Int} {u : α} (hA : A = some ⟨b, o, none⟩) (hrd : rd? xs i = some u) : ∀ {c : Nat}
  {P : Program} {ro : Bool} {l : List Value} {d : Option Tmp} {ty : TypeId} {pos : String} {af : Array Edge} {gd : Option (Nat × Bool)} {x ix : Operand} {t e : TypeId} {z : Value} {by_ : Nat} {k : IntKind} {Kl : List Value → St → Prop} (s' : St),
   evL l x = .slice A xs.length c → evL l ix = .int k i → P.underlying t = some (.slice e) → TI P e z K.sz by_ → Kl (yv l d (.pointer (some ⟨b, o + i.toNat * K.sz, none⟩))) s' → HO P ro ⟨d, .indexAddr t x ix, ty, pos, af, gd⟩ l s' Kl := by
 obtain ⟨h0, h1, h2⟩ := rd?_some hrd
 intros
 rename_i hx hi hu ht h
 subst hA
 refine o_iaddr hx hi hu ht h0 h1 ?_
 rw [addp]
 exact h
end
section
variable {P : Program} {w0 : World} {o0 : Nat → Bool} {ops : Array Oper} {Q : Exit → List Value → St → Prop} {l : List Value} {s : St}
end
end Go.Proofs.GL
namespace Go.Proofs.GL
open Go
theorem Hp.drop {sb s0 s : St} {F0 : Fp} {cs : List Ck} (h : Hp sb s0 F0 s cs) (k : Nat) (hl : Nat.blt k cs.length = true) : Hp sb s0 F0 s (setC cs k Ck.emp) := by
 obtain ⟨Fi, g1, g2, g3⟩ := h.upd k (Nat.le_of_ble_eq_true hl)
 exact g3 s _ no (Fr.refl _ _) (fun _ h => h.elim) trivial
end Go.Proofs.GL
namespace Go.Proofs.GL
open Go
section
variable {P : Program} {ro : Bool} {s : St} {Kl : List Value → St → Prop} {l : List Value} {d : Option Tmp} {ty : TypeId} {pos : String} {af : Array Edge} {gd : Option (Nat × Bool)}
end
theorem Hp.down {sb sb' s0 s : St} {F0 : Fp} {cs : List Ck} [hf : AllFree cs] (h : Hp sb' s0 F0 s cs) (hb : Bs sb sb') : Hp sb s0 F0 s cs := by
 obtain ⟨F, h1, h2, h3⟩ := h.ck
 have hm : ∀ (ds : List Ck) (j : Nat), j < ds.length → yy ds j ∈ ds := by
  intro ds
  induction ds with
  | nil => intro j hj; simp at hj
  | cons d ds ih =>
   intro j hj
   cases j with
   | zero => simp [yy]
   | succ j => simp only [yy]; exact List.mem_cons_of_mem _ (ih j (by simpa using hj))
 refine ⟨h.fr, hb.trans h.bs, F, fun i => ?_, h2, fun i b hi => ?_⟩
 ·by_cases hl : i < cs.length
  ·exact hf.free _ (hm cs i hl) (h1 i)
  ·rw [getC_out _ _ (by omega)]; exact trivial
 ·have := h3 i b hi
  refine ⟨this.dom, this.g, ?_, this.new⟩
  cases e : sb.o b with
  | none => rfl
  | some y => have := hb.o b y e; rw [(h3 i b hi).sb] at this; cases this
section
variable {P : Program} {sb s0 s : St} {F0 : Fp} {cs : List Ck} {Kl : List Value → St → Prop} {l : List Value} {d : Option Tmp} {ty : TypeId} {pos : String} {af : Array Edge} {gd : Option (Nat × Bool)}
end
end Go.Proofs.GL

