/- A logic of what is known of memory, over the kit's weakest preconditions: one part. No conditions: lemmas. -/
import Derived.Test.YtbeolahmnoeicaaGreatDoorGL8
set_option linter.unusedVariables false
set_option linter.unusedSimpArgs false
namespace Go.Proofs.GL
open Go
section
variable {P : Program} {ops : Array Oper} {Q : Exit → Act → World → Prop}
def anyK (P : Program) (ops : Array Oper) (Q : Exit → Act → World → Prop) (k : Nat) (C : World → Prop) : Nat → Array Bool → Act → World → Prop
 | 0, L, a, w => Region.ready .any ops L = [] ∧ Q .normal a w
 | n + 1, L, a, w => (Region.ready .any ops L = [] → Q .normal a w) ∧ ∀ i ∈ Region.ready .any ops L, wpOp P ops Q i (fun a' w' => ((L.setIfInBounds i true).getD k false = false → C w') ∧ anyK P ops Q k C n (L.setIfInBounds i true) a' w') a w
theorem anyK.any {k : Nat} {C : World → Prop} : ∀ {n : Nat} {L : Array Bool} {a : Act} {w : World}, anyK P ops Q k C n L a w → wpAny P .any ops Q n L a w
 | 0, _, _, _, h => h
 | n + 1, _, _, _, h => ⟨h.1, fun i hi => wpOp_mono (fun _ _ hh => hh.2.any) (h.2 i hi)⟩
def waitsT (ops : Array Oper) : Nat → Nat → Nat → Bool
 | 0, _, _ => false
 | n + 1, k, i => match ops[k]? with
  | none => false
  | some o => o.after.any fun e => Region.binds .any e && (e.on == i || waitsT ops n e.on i)
def waitsK (ops : Array Oper) (k i : Nat) : Bool := i != k && match ops[k]? with
 | none => true
 | some _ => waitsT ops ops.size k i
def Closed (ops : Array Oper) (L : Array Bool) : Prop := ∀ j o, L.getD j false = true → ops[j]? = some o → ∀ e ∈ o.after, Region.binds .any e = true → L.getD e.on false = true
def closedB (ops : Array Oper) (L : Array Bool) : Bool := (List.range ops.size).all fun j => !(L.getD j false) || match ops[j]? with
 | none => true
 | some o => o.after.all fun e => !(Region.binds .any e) || L.getD e.on false
theorem closedB_spec {ops : Array Oper} {L : Array Bool} (h : closedB ops L = true) : Closed ops L := fun j o hj ho e he hb => by
 simp only [closedB, List.all_eq_true, List.mem_range] at h
 have h1 := h j (Array.getElem?_eq_some_iff.1 ho).1
 rw [hj, ho] at h1
 simp only [Bool.not_true, Bool.false_or, Array.all_eq_true_iff_forall_mem] at h1
 have h2 := h1 e he
 rwa [hb, Bool.not_true, Bool.false_or] at h2
theorem waitsT.listed {ops : Array Oper} {L : Array Bool} (hc : Closed ops L) : ∀ n k i, waitsT ops n k i = true → L.getD k false = true → L.getD i false = true
 | 0, _, _, h, _ => by cases h
 | n + 1, k, i, h, hk => by
  unfold waitsT at h
  cases ho : ops[k]? with
  | none => rw [ho] at h; cases h
  | some o =>
   rw [ho] at h
   simp only [Array.any_eq_true', Bool.and_eq_true, Bool.or_eq_true, beq_iff_eq] at h
   obtain ⟨e, he, hb, h⟩ := h
   have h1 := hc k o hk ho e he hb
   rcases h with rfl | h
   ·exact h1
   ·exact waitsT.listed hc n e.on i h h1
theorem waitsK.not {k i : Nat} {L : Array Bool} (hc : Closed ops L) (h : waitsK ops k i = true) (hi : L.getD i false = false) : k ∉ Region.ready .any ops L := fun hk => by
 obtain ⟨_, o, ho, hall⟩ := mem_ready.1 hk
 simp only [waitsK, ho, Bool.and_eq_true] at h
 obtain ⟨_, h⟩ := h
 cases hs : ops.size with
 | zero => rw [hs] at h; cases h
 | succ n =>
  rw [hs] at h
  unfold waitsT at h
  rw [ho] at h
  simp only [Array.any_eq_true', Bool.and_eq_true, Bool.or_eq_true, beq_iff_eq] at h
  obtain ⟨e, he, hb, h⟩ := h
  have h1 := hall e he hb
  rcases h with rfl | h
  ·rw [hi] at h1; cases h1
  ·have := waitsT.listed hc n e.on i h h1
   rw [hi] at this; cases this
theorem Closed.add {L : Array Bool} (hc : Closed ops L) {j : Nat} (hj : j ∈ Region.ready .any ops L) : Closed ops (L.setIfInBounds j true) := fun m o hm ho e he hb => by
 have key : ∀ q, L.getD q false = true → (L.setIfInBounds j true).getD q false = true := fun q hq => by
  by_cases h : j = q
  ·subst h
   simp only [Array.getD_eq_getD_getElem?, Array.getElem?_setIfInBounds] at hq ⊢
   by_cases hlt : j < L.size
   ·simp [hlt]
   ·rw [Array.getElem?_eq_none (by omega)] at hq; cases hq
  ·rw [getD_set_ne false h]; exact hq
 by_cases h : j = m
 ·subst h
  obtain ⟨_, o', ho', hall⟩ := mem_ready.1 hj
  rw [ho] at ho'
  obtain rfl := Option.some.inj ho'
  exact key _ (hall e he hb)
 ·rw [getD_set_ne false h] at hm
  exact key _ (hc m o hm ho e he hb)
theorem anyK.take {k i : Nat} {C : World → Prop} {oi : Oper} {v : Value} (hi : ops[i]? = some oi) (hs : Region.noSelect ops = true) (hwk : waitsK ops k i = true) (hQ : ∀ c a w, Q (.panic c) (a.put oi.dst v) w → Q (.panic c) a w) :
  ∀ (n : Nat) (L : Array Bool) (a : Act) (w : World), Closed ops L → (∀ j oj, ops[j]? = some oj → j ≠ i → L.getD j true = false → (∀ e ∈ oj.after, Region.binds .any e = true → e.on ≠ i) → oi.apart ops oj = true) →
   i ∈ Region.ready .any ops L → L.getD k false = false → YieldsIf P ops C oi v a → C w → anyK P ops Q k C n (L.setIfInBounds i true) (a.put oi.dst v) w → anyK P ops Q k C (n + 1) L a w := by
 have hik : i ≠ k := by
  simp only [waitsK, Bool.and_eq_true, bne_iff_ne] at hwk
  exact hwk.1
 have hsel := Region.noSelect_spec hs
 intro n
 induction n with
 | zero =>
  intro L a w _ _ hr _ hy hC H
  refine ⟨fun h => absurd hr (by rw [h]; exact List.not_mem_nil), fun j hj => ?_⟩
  rcases Nat.decEq j i with hji | rfl
  ·exact absurd (ready_mono hj hji) (by rw [H.1]; exact List.not_mem_nil)
  ·exact hy.wpOp hi hC ⟨fun _ => hC, H⟩
 | succ n ih =>
  intro L a w hcl hfree hr hkL hy hC H
  have hiL : L.getD i true = false := (mem_ready.1 hr).1
  have hiL' : L.getD i false = false := by
   simp only [Array.getD_eq_getD_getElem?] at hiL ⊢
   cases h : L[i]? with
   | none => rfl
   | some b => rw [h] at hiL; exact hiL
  refine ⟨fun h => absurd hr (by rw [h]; exact List.not_mem_nil), fun j hj => ?_⟩
  rcases Nat.decEq j i with hji | rfl
  ·have hjk : j ≠ k := by
    rintro rfl
    exact waitsK.not hcl hwk hiL' hj
   obtain ⟨hjL, oj, hoj, hall⟩ := mem_ready.1 hj
   have hno : ∀ e ∈ oj.after, Region.binds .any e = true → e.on ≠ i := by
    rintro e he hb rfl
    rw [hall e he hb] at hiL'
    cases hiL'
   refine wpOp_mono (fun a' w' h3 => ?_) (wpOp_putIf hoj (hfree j oj hoj hji hjL hno) (fun cs b => hsel i oi cs b hi) (fun cs b => hsel j oj cs b hoj) hQ hy (H.2 j (ready_mono hj hji)))
   obtain ⟨h4, h5, h6⟩ := h3
   have hk1 : (L.setIfInBounds j true).getD k false = false := by rw [getD_set_ne false hjk]; exact hkL
   have hC' : C w' := h5 (by rw [getD_set_ne false hjk, getD_set_ne false hik]; exact hkL)
   refine ⟨fun _ => hC', ih _ a' w' (hcl.add hj) (fun m om hm hmi hmL hmn => hfree m om hm hmi ?_ hmn) (ready_mono hr (Ne.symm hji)) hk1 h4 hC' ?_⟩
   ·rcases Nat.decEq j m with h | rfl
    ·rwa [getD_set_ne true h] at hmL
    ·exact hjL
   ·rw [Array.setIfInBounds_comm _ _ hji]
    exact h6
  ·exact hy.wpOp hi hC ⟨fun _ => hC, H⟩
theorem anyK.takeP {k i : Nat} {C : World → Prop} {oi : Oper} {v : Value} (hi : ops[i]? = some oi) (hs : Region.noSelect ops = true) (hik : i ≠ k) (hQ : ∀ c a w, Q (.panic c) (a.put oi.dst v) w → Q (.panic c) a w) :
  ∀ (n : Nat) (L : Array Bool) (a : Act) (w : World), (∀ j oj, ops[j]? = some oj → j ≠ i → L.getD j true = false → (∀ e ∈ oj.after, Region.binds .any e = true → e.on ≠ i) → oi.apart ops oj = true) →
   i ∈ Region.ready .any ops L → YieldsIf P ops (fun _ => True) oi v a → (L.getD k false = false → C w) → anyK P ops Q k C n (L.setIfInBounds i true) (a.put oi.dst v) w → anyK P ops Q k C (n + 1) L a w := by
 have hsel := Region.noSelect_spec hs
 intro n
 induction n with
 | zero =>
  intro L a w _ hr hy hC H
  refine ⟨fun h => absurd hr (by rw [h]; exact List.not_mem_nil), fun j hj => ?_⟩
  rcases Nat.decEq j i with hji | rfl
  ·exact absurd (ready_mono hj hji) (by rw [H.1]; exact List.not_mem_nil)
  ·exact hy.wpOp hi trivial ⟨fun hk => hC (by rwa [getD_set_ne false hik] at hk), H⟩
 | succ n ih =>
  intro L a w hfree hr hy hC H
  have hiL : L.getD i true = false := (mem_ready.1 hr).1
  have hiL' : L.getD i false = false := by
   simp only [Array.getD_eq_getD_getElem?] at hiL ⊢
   cases h : L[i]? with
   | none => rfl
   | some b => rw [h] at hiL; exact hiL
  refine ⟨fun h => absurd hr (by rw [h]; exact List.not_mem_nil), fun j hj => ?_⟩
  rcases Nat.decEq j i with hji | rfl
  ·obtain ⟨hjL, oj, hoj, hall⟩ := mem_ready.1 hj
   have hno : ∀ e ∈ oj.after, Region.binds .any e = true → e.on ≠ i := by
    rintro e he hb rfl
    rw [hall e he hb] at hiL'
    cases hiL'
   refine wpOp_mono (fun a' w' h3 => ?_) (wpOp_putIf hoj (hfree j oj hoj hji hjL hno) (fun cs b => hsel i oi cs b hi) (fun cs b => hsel j oj cs b hoj) hQ hy (H.2 j (ready_mono hj hji)))
   obtain ⟨h4, h5, h6⟩ := h3
   have hC' : (L.setIfInBounds j true).getD k false = false → C w' := fun hk => h5 (by rw [Array.setIfInBounds_comm _ _ (Ne.symm hji), getD_set_ne false hik]; exact hk)
   refine ⟨hC', ih _ a' w' (fun m om hm hmi hmL hmn => hfree m om hm hmi ?_ hmn) (ready_mono hr (Ne.symm hji)) h4 hC' ?_⟩
   ·rcases Nat.decEq j m with h | rfl
    ·rwa [getD_set_ne true h] at hmL
    ·exact hjL
   ·rw [Array.setIfInBounds_comm _ _ hji]
    exact h6
  ·exact hy.wpOp hi trivial ⟨fun hk => hC (by rwa [getD_set_ne false hik] at hk), H⟩
end
section
variable {P : Program} {w0 : World} {o0 : Nat → Bool} {ops : Array Oper} {Q : Exit → List Value → St → Prop} {l : List Value} {s : St}
def HK (P : Program) (w0 : World) (o0 : Nat → Bool) (R : St → Prop) (k : Nat) (ops : Array Oper) (Q : Exit → List Value → St → Prop) (n : Nat) (L : Array Bool) (l : List Value) (s : St) : Prop :=
 (L.getD k false = false → R s) ∧ ∀ w, Ok w0 o0 w s → anyK P ops (QQ w0 o0 Q) k (fun w => ∃ s, R s ∧ Ok w0 o0 w s) n L (mkA l) w
theorem HK_done {R : St → Prop} {k : Nat} {L : Array Bool} {n : Nat} (hR : L.getD k false = false → R s) (hr : Region.ready .any ops L = []) (h : Q .normal l s) : HK P w0 o0 R k ops Q n L l s :=
 ⟨hR, fun w hw => by
  cases n with
  | zero => exact ⟨hr, l, s, rfl, h, hw⟩
  | succ n => exact ⟨fun _ => ⟨l, s, rfl, h, hw⟩, by rw [hr]; simp⟩⟩
def opOf : List Oper → Nat → Option Oper
 | [], _ => none
 | o :: _, 0 => some o
 | _ :: os, n + 1 => opOf os n
theorem opOf_eq : ∀ (os : List Oper) (j : Nat), opOf os j = os[j]?
 | [], j => by simp [opOf]
 | o :: os, 0 => by simp [opOf]
 | o :: os, n + 1 => by simp [opOf, opOf_eq os n]
def mayK (ops : Array Oper) (k i : Nat) (L : Array Bool) : Bool := Region.noSelect ops && Region.free .any ops L i && (Region.ready .any ops L).contains i && waitsK ops k i && !(L.getD k false) && closedB ops L
theorem HK_read {R : St → Prop} {k : Nat} {L : Array Bool} {n : Nat} (i : Nat) {oi : Oper} {v : Value} (hi : opOf ops.toList i = some oi) (hm : mayK ops k i L = true) (hQ : ∀ c l s, ¬ Q (.panic c) l s) (hw : wantL ops oi l = true)
  (hy : ∀ s', R s' → ∀ K : List Value → St → Prop, K (yh l oi.dst v) s' → HO P true oi l s' K) (hd : oi.dst.isSome = true) (hlen : Nat.ble (oi.dst.getD 0 + 1) l.length = true) (hR : R s)
  (h : HK P w0 o0 R k ops Q n (L.setIfInBounds i true) (yh l oi.dst v) s) : HK P w0 o0 R k ops Q (n + 1) L l s := by
 rw [opOf_eq, Array.getElem?_toList] at hi
 simp only [mayK, Bool.and_eq_true, Bool.not_eq_true', List.contains_iff_mem] at hm
 obtain ⟨⟨⟨⟨⟨h1, h2⟩, h3⟩, h4⟩, h5⟩, h6⟩ := hm
 refine ⟨fun _ => hR, fun w hok => anyK.take hi h1 h4 (fun c a w hh => by obtain ⟨l, s, _, hq, _⟩ := hh; exact absurd hq (hQ c l s)) n L _ w (closedB_spec h6) (Region.free_spec hi h2) h3 h5 (.inl ⟨hw, fun w ⟨s', hs', ho⟩ => ?_⟩) ⟨s, hR, hok⟩ (by rw [put_eq]; exact h.2 w hok)⟩
 rw [ev_eq]
 have hlen := Nat.le_of_ble_eq_true hlen
 obtain ⟨x, w', s'', h1, h2, _, h4⟩ := GOk.sound _ w s' ho (hy s' hs' (fun l' _ => l' = yh l oi.dst v) rfl)
 rw [h4 rfl] at h1
 rw [h1]
 cases x with
 | value u =>
  have h2 : yh l oi.dst u = yh l oi.dst v := h2
  obtain ⟨d, hd⟩ := Option.isSome_iff_exists.1 hd
  rw [hd] at h2 hlen
  simp only [yh, setL_eq, Option.getD_some] at h2 hlen
  have := congrArg (fun l => l[d]?) h2
  simp only [List.getElem?_set_self (show d < l.length from hlen), Option.some.injEq] at this
  rw [this]
 | _ => exact absurd h2 (by simp [afterOp])
def mayP (ops : Array Oper) (k i : Nat) (L : Array Bool) : Bool := Region.noSelect ops && Region.free .any ops L i && (Region.ready .any ops L).contains i && i != k
theorem HK_readP {R : St → Prop} {k : Nat} {L : Array Bool} {n : Nat} (i : Nat) {oi : Oper} {v : Value} (hi : opOf ops.toList i = some oi) (hm : mayP ops k i L = true) (hQ : ∀ c l s, ¬ Q (.panic c) l s) (hw : wantL ops oi l = true)
  (hy : ∀ s', ∀ K : List Value → St → Prop, K (yh l oi.dst v) s' → HO P true oi l s' K) (hd : oi.dst.isSome = true) (hlen : Nat.ble (oi.dst.getD 0 + 1) l.length = true) (hR : L.getD k false = false → R s)
  (h : HK P w0 o0 R k ops Q n (L.setIfInBounds i true) (yh l oi.dst v) s) : HK P w0 o0 R k ops Q (n + 1) L l s := by
 rw [opOf_eq, Array.getElem?_toList] at hi
 simp only [mayP, Bool.and_eq_true, List.contains_iff_mem, bne_iff_ne] at hm
 obtain ⟨⟨⟨h1, h2⟩, h3⟩, h4⟩ := hm
 have hlen := Nat.le_of_ble_eq_true hlen
 have key : ∀ w, (execOp (mkA l).eval oi).run P w = .ok (.value v) w := fun w => by
  let s' : St := ⟨fun _ => none, fun _ => none, fun _ => none, fun _ => none⟩
  have ho : Ok w s'.dom w s' := ⟨fun _ _ h => (by cases h), fun _ _ h => (by cases h), fun _ _ h => (by cases h), fun _ _ h => (by cases h), fun _ _ _ h => (by cases h), fun _ h => (by cases h), rfl, rfl, rfl, Nat.le_refl _, fun _ _ _ => rfl, fun _ h => .inl h⟩
  rw [ev_eq]
  obtain ⟨x, w', s'', h1, h2, _, h4⟩ := GOk.sound _ w s' ho (hy s' (fun l' _ => l' = yh l oi.dst v) rfl)
  rw [h4 rfl] at h1
  rw [h1]
  cases x with
  | value u =>
   have h2 : yh l oi.dst u = yh l oi.dst v := h2
   obtain ⟨d, hd⟩ := Option.isSome_iff_exists.1 hd
   rw [hd] at h2 hlen
   simp only [yh, setL_eq, Option.getD_some] at h2 hlen
   have := congrArg (fun l => l[d]?) h2
   simp only [List.getElem?_set_self (show d < l.length from hlen), Option.some.injEq] at this
   rw [this]
  | _ => exact absurd h2 (by simp [afterOp])
 exact ⟨hR, fun w hok => anyK.takeP hi h1 h4 (fun c a w hh => by obtain ⟨l, s, _, hq, _⟩ := hh; exact absurd hq (hQ c l s)) n L _ w (Region.free_spec hi h2) h3 (.inl ⟨hw, fun w _ => key w⟩) (fun hk => ⟨s, hR hk, hok⟩) (by rw [put_eq]; exact h.2 w hok)⟩
end
abbrev Gro (s s' : St) : Prop := Chg (fun _ => True) no s s'
theorem Gro.refl (s : St) : Gro s s := Sub.chg (Sub.refl s)
theorem has_gro {s s' : St} {a : Addr} {v : Value} (hc : Gro s s') (h : s.has a v) : s'.has a v :=
 ⟨h.1, h.2.elim (fun h => .inl (hc.mono _ _ _ h)) (fun ⟨y, h1, h2⟩ => .inr ⟨y, hc.keep.t _ _ (fun f => f) h1, h2⟩)⟩
theorem Var.gro {s0 s s' : St} {b cs T} (h : Var s0 s b cs T) (hc : Gro s s') : Var s0 s' b cs T := h.keep hc (fun f => f)
theorem Rd.el {α : Type} {K : Kd α} {s : St} {A c} {xs : List α} {i : Int} {u : α} (hr : Rd K s A c xs) (hrd : rd? xs i = some u) : ∃ b o cs, K.rep s cs u ∧ (∀ j v, cs[j]? = some v → s.has ⟨b, o + j, none⟩ v) ∧
  ∀ {P : Program} {ro : Bool} {l : List Value} {d : Option Tmp} {ty : TypeId} {pos : String} {af : Array Edge} {gd : Option (Nat × Bool)} {x ix : Operand} {t e : TypeId} {z : Value} {by_ : Nat} {k : IntKind} {Kl : List Value → St → Prop} (s' : St),
   evL l x = .slice A xs.length c → evL l ix = .int k i → P.underlying t = some (.slice e) → TI P e z K.sz by_ → Kl (yh l d (.pointer (some ⟨b, o, none⟩))) s' → HO P ro ⟨d, .indexAddr t x ix, ty, pos, af, gd⟩ l s' Kl := by
 obtain ⟨h0, h1, h2⟩ := rd?_some hrd
 have hlt : i.toNat < xs.length := by omega
 obtain ⟨b, o, rfl, hc⟩ := hr.2.2 (fun e' => by rw [e'] at hlt; simp at hlt)
 obtain ⟨cs, r1, r2⟩ := hc i.toNat u h2
 refine ⟨b, o + i.toNat * K.sz, cs, r1, fun j v hj => ⟨rfl, .inl (r2 j v hj)⟩, ?_⟩
 intros
 rename_i hx hi hu ht h
 refine o_iaddr hx hi hu ht h0 h1 ?_
 rw [addp]
 exact h
theorem Own.el {α : Type} {K : Kd α} {e' : TypeId} {s : St} {A c} {xs : List α} {i : Int} {u : α} (hr : Own.is K e' s A c xs) (hrd : rd? xs i = some u) : ∃ b cs, A = some ⟨b, 0, none⟩ ∧ K.rep s cs u ∧ (∀ j v, cs[j]? = some v → s.has ⟨b, i.toNat * K.sz + j, none⟩ v) ∧
  ∀ {P : Program} {ro : Bool} {l : List Value} {d : Option Tmp} {ty : TypeId} {pos : String} {af : Array Edge} {gd : Option (Nat × Bool)} {x ix : Operand} {t e : TypeId} {z : Value} {by_ : Nat} {k : IntKind} {Kl : List Value → St → Prop} (s' : St),
   evL l x = .slice A xs.length c → evL l ix = .int k i → P.underlying t = some (.slice e) → TI P e z K.sz by_ → Kl (yh l d (.pointer (some ⟨b, i.toNat * K.sz, none⟩))) s' → HO P ro ⟨d, .indexAddr t x ix, ty, pos, af, gd⟩ l s' Kl := by
 obtain ⟨h0, h1, h2⟩ := rd?_some hrd
 rcases hr with ⟨rfl, rfl⟩ | ⟨b, cs, rfl, hb, hg, hl, hcc, hm, hr⟩
 ·simp at h2
 ·refine ⟨b, _, rfl, hr _ _ h2, fun j v hj => ⟨rfl, .inl (.inr ⟨_, hb, getElem?_drop_take hj⟩)⟩, ?_⟩
  intros
  rename_i hx hi hu ht h
  refine o_iaddr hx hi hu ht h0 h1 ?_
  rw [addp, Nat.zero_add]
  exact h
end Go.Proofs.GL

