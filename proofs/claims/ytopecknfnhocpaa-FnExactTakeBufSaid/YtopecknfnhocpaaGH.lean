/- A logic of what is known of memory, over the kit's weakest preconditions: part GH. No conditions: lemmas. -/
import Derived.Test.YtopecknfnhocpaaGG
set_option linter.unusedVariables false
set_option linter.unusedSimpArgs false
namespace Go.Proofs.GL
open Go
section
variable {α β : Type} {sb s0 s : St} {F0 : Fp} {cs : List Ck}
theorem Ent.slL {K : Kd α} {O : Ow K} {e : TypeId} {A : Option Addr} {c n : Nat} {xs : List α} (h : xs.length = n) : Ent sb s [Ck.ol O e A c xs] (Ck.el (Ow.sl O e) [.slice A n c] xs) := by
  subst h
  exact Ent.sl
theorem st?_same {xs : List α} {i : Int} {u : α} (h : rd? xs i = some u) : st? xs i u = some xs := by
  obtain ⟨h0, h1, h2⟩ := rd?_some h
  unfold st?
  rw [if_pos ⟨h0, h1⟩]
  congr 1
  obtain ⟨hl, rfl⟩ := List.getElem?_eq_some_iff.1 h2
  exact List.set_getElem_self hl
theorem Hp.hasoh {K : Kd α} {O : Ow K} {e A c} {xs : List α} {i : Nat} {vs : List Value} {b o : Nat} (h : Hp sb s0 F0 s cs) (k : Nat) (hk : getC cs k = Ck.oh O e A c xs i vs) (hA : A = some ⟨b, o, none⟩) : ∀ j v, vs[j]? = some v → s.has ⟨b, o + i * K.sz + j, none⟩ v := fun j v hj => by
  obtain ⟨F, h1, _⟩ := h.ck
  have h1 := h1 k
  rw [hk] at h1
  subst hA
  obtain ⟨b', o', y, hA, a2, a3, a4, a5, a6, a7, a8, a9, rfl, _⟩ := h1
  injection hA with hA
  injection hA with hA hA2 _
  subst hA hA2
  exact ⟨rfl, .inl (.inr ⟨y, a2, getElem?_drop_take hj⟩)⟩
/-- The address of an element of a list whose length is told. -/
theorem iaddr_of {A : Option Addr} {b o : Nat} {K : Kd α} {xs : List α} {i : Int} {u : α} (hA : A = some ⟨b, o, none⟩) (hrd : rd? xs i = some u) : ∀ {c : Nat}
    {P : Program} {ro : Bool} {l : List Value} {d : Option Tmp} {ty : TypeId} {pos : String} {af : Array Edge} {gd : Option (Nat × Bool)} {x ix : Operand} {t e : TypeId} {z : Value} {by_ : Nat} {k : IntKind} {Kl : List Value → St → Prop} (s' : St),
      evL l x = .slice A xs.length c → evL l ix = .int k i → P.underlying t = some (.slice e) → TI P e z K.sz by_ → Kl (putL l d (.pointer (some ⟨b, o + i.toNat * K.sz, none⟩))) s' → HO P ro ⟨d, .indexAddr t x ix, ty, pos, af, gd⟩ l s' Kl := by
  obtain ⟨h0, h1, h2⟩ := rd?_some hrd
  intros
  rename_i hx hi hu ht h
  subst hA
  refine o_iaddr hx hi hu ht h0 h1 ?_
  rw [addp]
  exact h
end
section
variable {P : Program} {w0 : World} {o0 : Nat → Bool} {ops : Array Oper} {Q : Exit → List Value → St → Prop} {l : List Value} {s : St}
/-- Two operations, in either order. -/
theorem HK_two {R : St → Prop} {k : Nat} {L : Array Bool} {n : Nat} (i j : Nat) {oi oj : Oper} (hr : Region.ready .any ops L = [i, j]) (hi : opOf ops.toList i = some oi) (hj : opOf ops.toList j = some oj) (hR : L.getD k false = false → R s) (hwi : wantL ops oi l = true) (hwj : wantL ops oj l = true)
    (h1 : HO P false oi l s fun l' s' => HK P w0 o0 R k ops Q n (L.setIfInBounds i true) l' s') (h2 : HO P false oj l s fun l' s' => HK P w0 o0 R k ops Q n (L.setIfInBounds j true) l' s') : HK P w0 o0 R k ops Q (n + 1) L l s := by
  rw [opOf_eq, Array.getElem?_toList] at hi hj
  refine ⟨hR, fun w hok => ⟨fun h0 => (by rw [hr] at h0; cases h0), fun m hm => ?_⟩⟩
  rw [hr] at hm
  have key : ∀ (m : Nat) (om : Oper), ops[m]? = some om → wantL ops om l = true → (HO P false om l s fun l' s' => HK P w0 o0 R k ops Q n (L.setIfInBounds m true) l' s') → wpOp P ops (QQ w0 o0 Q) m (fun a' w' => ((L.setIfInBounds m true).getD k false = false → ∃ s, R s ∧ Ok w0 o0 w' s) ∧ anyK P ops (QQ w0 o0 Q) k (fun w => ∃ s, R s ∧ Ok w0 o0 w s) n (L.setIfInBounds m true) a' w') (mkA l) w := fun m om hm hw h => by
    unfold wpOp
    simp only [hm]
    rw [if_pos (show Region.wanted om (yielded ops (mkA l).tmps) = true from hw)]
    exact Or.inl (HO.sound h (fun l s w hk ho => ⟨fun hL => ⟨s, hk.1 hL, ho⟩, hk.2 w ho⟩) w hok)
  rcases List.mem_cons.1 hm with rfl | hm
  · exact key _ _ hi hwi h1
  · obtain rfl := List.mem_singleton.1 hm
    exact key _ _ hj hwj h2
end
end Go.Proofs.GL
namespace Go.Proofs.GL
open Go
theorem Hp.drop {sb s0 s : St} {F0 : Fp} {cs : List Ck} (h : Hp sb s0 F0 s cs) (k : Nat) (hl : Nat.blt k cs.length = true) : Hp sb s0 F0 s (setC cs k Ck.emp) := by
  obtain ⟨Fi, g1, g2, g3⟩ := h.upd k (Nat.le_of_ble_eq_true hl)
  exact g3 s _ no (Fr.refl _ _) (fun _ h => h.elim) trivial
end Go.Proofs.GL
namespace Go.Proofs.GL
open Go
section
variable {P : Program} {ro : Bool} {s : St} {Kl : List Value → St → Prop} {l : List Value} {d : Option Tmp} {ty : TypeId} {pos : String} {af : Array Edge} {gd : Option (Nat × Bool)}
theorem o_cap {xs : Operand} {t e : TypeId} {A : Option Addr} {n c : Nat} (hx : evL l xs = .slice A n c) (hu : P.underlying t = some (.slice e)) (h : Kl (putL l d (.int .i64 c)) s) :
    HO P ro ⟨d, .call { callee := .builtin .cap, args := #[xs], argTypes := #[t] }, ty, pos, af, gd⟩ l s Kl := by
  unfold HO execOp
  simp [hx, resolve, invoke, builtin, Builtin.cap_, GOk_bind, GOk_pure, GOk_underlying hu, goInt]
  exact h
end
theorem cut?_nil {α : Type} {ys : List α} {L H : Int} (h : cut? ([] : List α) L H = some ys) : ys = [] := by
  obtain ⟨_, rfl⟩ := cut?_some h
  simp
theorem Hp.down {sb sb' s0 s : St} {F0 : Fp} {cs : List Ck} [hf : AllFree cs] (h : Hp sb' s0 F0 s cs) (hb : Bs sb sb') : Hp sb s0 F0 s cs := by
  obtain ⟨F, h1, h2, h3⟩ := h.ck
  have hm : ∀ (ds : List Ck) (j : Nat), j < ds.length → getC ds j ∈ ds := by
    intro ds
    induction ds with
    | nil => intro j hj; simp at hj
    | cons d ds ih =>
      intro j hj
      cases j with
      | zero => simp [getC]
      | succ j => simp only [getC]; exact List.mem_cons_of_mem _ (ih j (by simpa using hj))
  refine ⟨h.fr, hb.trans h.bs, F, fun i => ?_, h2, fun i b hi => ?_⟩
  · by_cases hl : i < cs.length
    · exact hf.free _ (hm cs i hl) (h1 i)
    · rw [getC_out _ _ (by omega)]; exact trivial
  · have := h3 i b hi
    refine ⟨this.dom, this.g, ?_, this.new⟩
    cases e : sb.o b with
    | none => rfl
    | some y => have := hb.o b y e; rw [(h3 i b hi).sb] at this; cases this
end Go.Proofs.GL
