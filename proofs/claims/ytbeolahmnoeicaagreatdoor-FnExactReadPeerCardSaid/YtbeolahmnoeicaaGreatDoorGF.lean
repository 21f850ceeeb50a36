/- A logic of what is known of memory, over the kit's weakest preconditions: one part. No conditions: lemmas. -/
import Derived.Test.YtbeolahmnoeicaaGreatDoorGE
set_option linter.unusedVariables false
set_option linter.unusedSimpArgs false
namespace Go.Proofs.GL
open Go
section
variable {α β : Type} {sb s0 s : St} {F0 : Fp} {cs : List Ck}
theorem Ent.own {K : Kd α} {O : Ow K} {vs : List Value} {x : α} (h : Ent sb s [] (Ck.el O vs x)) : O.own sb s no vs x := h no ⟨fun _ => no, fun _ => trivial, fun _ _ _ _ h => h.elim, fun _ _ h => h⟩
theorem Hp.ckP (h : Hp sb s0 F0 s cs) (k : Nat) : ∃ F, (getC cs k).P sb s F := by
 obtain ⟨F, h1, _⟩ := h.ck
 exact ⟨F k, h1 k⟩
def Der {K : Kd β} (ck : Ck) (A : Option Addr) (c : Nat) (xs : List β) : Prop := ∀ (sx sy : St), Bs sx sy → (∃ F, ck.P sx sy F) → Rd K sy A c xs
theorem Rd.elb {K : Kd α} {A c} {xs : List α} {i : Int} {u : α} (hr : Rd K sb A c xs) (hrd : rd? xs i = some u) : ∃ b o cs, K.rep sb cs u ∧ (∀ {s}, Mono sb s → ∀ j v, cs[j]? = some v → s.has ⟨b, o + j, none⟩ v) ∧
  ∀ {P : Program} {ro : Bool} {l : List Value} {d : Option Tmp} {ty : TypeId} {pos : String} {af : Array Edge} {gd : Option (Nat × Bool)} {x ix : Operand} {t e : TypeId} {z : Value} {by_ : Nat} {k : IntKind} {Kl : List Value → St → Prop} (s' : St),
   evL l x = .slice A xs.length c → evL l ix = .int k i → P.underlying t = some (.slice e) → TI P e z K.sz by_ → Kl (yh l d (.pointer (some ⟨b, o, none⟩))) s' → HO P ro ⟨d, .indexAddr t x ix, ty, pos, af, gd⟩ l s' Kl := by
 obtain ⟨h0, h1, h2⟩ := rd?_some hrd
 have hlt : i.toNat < xs.length := by omega
 obtain ⟨b, o, rfl, hc⟩ := hr.2.2 (fun e' => by rw [e'] at hlt; simp at hlt)
 obtain ⟨cs, r1, r2⟩ := hc i.toNat u h2
 refine ⟨b, o + i.toNat * K.sz, cs, r1, fun hm j v hj => ⟨rfl, .inl (hm _ _ _ (r2 j v hj))⟩, ?_⟩
 intros
 rename_i hx hi hu ht h
 refine o_iaddr hx hi hu ht h0 h1 ?_
 rw [addp]
 exact h
def cutA (A : Option Addr) (c n sz : Nat) : Option Addr := if n < c then A.map (fun a => a.add (n * sz)) else A
theorem Rd.cut {K : Kd α} {A c} {xs ys : List α} {L H : Int} (hr : Rd K s A c xs) (h : cut? xs L H = some ys) : Rd K s (cutA A c L.toNat K.sz) (c - L.toNat) ys := by
 obtain ⟨⟨h0, h1, h2⟩, rfl⟩ := cut?_some h
 have hc := hr.1
 have hm := hr.2.1
 refine ⟨by simp; omega, by omega, fun hne => ?_⟩
 have hne2 : L.toNat < H.toNat := by
  have : ((xs.take H.toNat).drop L.toNat).length ≠ 0 := fun e' => hne (List.eq_nil_of_length_eq_zero e')
  simp at this
  omega
 obtain ⟨b, o, rfl, hcell⟩ := hr.2.2 (fun e' => by subst e'; simp at hne)
 refine ⟨b, o + L.toNat * K.sz, ?_, fun i u hu' => ?_⟩
 ·unfold cutA
  rw [if_pos (by omega)]
  simp only [Option.map_some, addp]
 ·rw [List.getElem?_drop, List.getElem?_take] at hu'
  split at hu'
  ·obtain ⟨cs, r1, r2⟩ := hcell _ u hu'
   refine ⟨cs, r1, fun j v hj => ?_⟩
   have := r2 j v hj
   rwa [Nat.add_mul, ← Nat.add_assoc] at this
  ·cases hu'
theorem o_cutA {P : Program} {ro : Bool} {Kl : List Value → St → Prop} {l : List Value} {d : Option Tmp} {ty : TypeId} {pos : String} {af : Array Edge} {gd : Option (Nat × Bool)} {xs ys : List α} {x : Operand} {lo hi : Option Operand} {t e : TypeId} {z : Value} {by_ sz : Nat} {A : Option Addr} {c : Nat} {kl kh : IntKind} {L H : Int} (hx : evL l x = .slice A xs.length c) (hlo : (lo.map (evL l)).getD (.int kl 0) = .int kl L) (hhi : (hi.map (evL l)).getD (.int kh xs.length) = .int kh H) (hu : P.underlying t = some (.slice e)) (ht : TI P e z sz by_) (hr : xs.length ≤ c)
  (hc : cut? xs L H = some ys) (h : Kl (yh l d (.slice (cutA A c L.toNat sz) ys.length (c - L.toNat))) s) : HO P ro ⟨d, .slice t x lo hi none, ty, pos, af, gd⟩ l s Kl := by
 obtain ⟨⟨h0, h1, h2⟩, rfl⟩ := cut?_some hc
 have hc := hr
 have hb : ∀ (y : Nat) (code : BoundsCode) (k : IntKind) (n : Int) (KK : Nat → St → Prop), 0 ≤ n → n ≤ y → KK n.toNat s → GOk P ro (Instr.sliceBound (.int k n) y code) s KK := fun y code k n KK g0 g1 hk => by
  unfold Instr.sliceBound
  simp only [y5, asIntOf, y8]
  rw [if_pos ⟨g0, g1⟩]
  exact hk
 have hbounds : ∀ KK : Nat × Nat × Nat → St → Prop, KK (L.toNat, H.toNat, c) s → GOk P ro (Instr.sliceBounds true xs.length c (lo.map (evL l)) (hi.map (evL l)) none) s KK := fun KK hk => by
  unfold Instr.sliceBounds
  cases hi with
  | none =>
   have eH : (xs.length : Int) = H := by injection hhi
   have eH' : xs.length = H.toNat := by omega
   cases lo with
   | none =>
    have : (0 : Int) = L := by injection hlo
    subst this
    simp only [Option.map_none, y5, y8, eH']
    exact hk
   | some ol =>
    have : evL l ol = .int kl L := hlo
    simp only [Option.map_none, Option.map_some, y5, y8, Option.isSome_none, Bool.false_eq_true, if_false, this, eH']
    exact hb _ _ _ _ _ h0 (by omega) hk
  | some oh =>
   have e1 : evL l oh = .int kh H := hhi
   cases lo with
   | none =>
    have : (0 : Int) = L := by injection hlo
    subst this
    simp only [Option.map_none, Option.map_some, y5, y8, e1, if_true]
    exact hb _ _ _ _ _ (by omega) (by omega) hk
   | some ol =>
    have e2 : evL l ol = .int kl L := hlo
    simp only [Option.map_none, Option.map_some, y5, y8, Option.isSome_none, Bool.false_eq_true, if_false, if_true, e1, e2]
    exact hb _ _ _ _ _ (by omega) (by omega) (hb _ _ _ _ _ h0 (by omega) hk)
 unfold HO execOp
 have hna : ∀ n e', P.underlying t ≠ some (.array n e') := fun n e' h' => by rw [hu] at h'; cases h'
 simp only [hx, Instr.sliceAt, y5, yb hu, Option.map_none, Instr.slice]
 refine hbounds _ ?_
 simp only [GOk_sizeOf ht, y8]
 have hlen : H.toNat - L.toNat = ((xs.take H.toNat).drop L.toNat).length := by simp; omega
 rw [hlen]
 have hA : (if c = L.toNat then A else Option.map (fun x => x.add (L.toNat * sz)) A) = cutA A c L.toNat sz := by
  unfold cutA
  by_cases hlt : L.toNat < c
  ·rw [if_pos hlt, if_neg (by omega)]
  ·rw [if_neg hlt, if_pos (by omega)]
 rw [hA]
 exact h
theorem ol.cut' {K : Kd α} {O : Ow K} {e A c} {xs ys : List α} {F : Fp} {L H : Int} (h : ol O e A c xs sb s F) (hc : cut? xs L H = some ys) : ol O e (cutA A c L.toNat K.sz) (c - L.toNat) ys sb s F := by
 obtain ⟨⟨h0, h1, h2⟩, rfl⟩ := cut?_some hc
 exact h.cut (by omega) (by omega)
theorem Der.cut {K : Kd α} {O : Ow K} {e A c} {xs ys : List α} {L H : Int} (hc : cut? xs L H = some ys) : Der (K := K) (Ck.ol O e A c xs) (cutA A c L.toNat K.sz) (c - L.toNat) ys := fun _ _ hb ⟨_, h⟩ => (ol.rd h hb).cut hc
theorem Hp.cut {K : Kd α} {O : Ow K} {e A c} {xs ys : List α} {L H : Int} (h : Hp sb s0 F0 s cs) (k : Nat) (hl : Nat.blt k cs.length = true) (hk : getC cs k = Ck.ol O e A c xs) (hc : cut? xs L H = some ys) : Hp sb s0 F0 s (setC cs k (Ck.ol O e (cutA A c L.toNat K.sz) (c - L.toNat) ys)) := by
 obtain ⟨Fi, g1, g2, g3⟩ := h.upd k (Nat.le_of_ble_eq_true hl)
 rw [hk] at g1
 exact g3 s _ Fi (Fr.refl _ _) (fun _ h => .inl h) (ol.cut' g1 hc)
def Own0 {K : Kd α} (O : Ow K) (vs : List Value) (x : α) : Prop := ∀ sb s, O.own sb s no vs x
theorem Own0.fl {K : Kd α} {O : Ow K} [O.Fl] {vs : List Value} {x : α} (h : ∀ s, K.rep s vs x) : Own0 O vs x := fun _ s => Ow.Fl.fl (h s)
theorem Own0.nil {K : Kd α} {O : Ow K} {e : TypeId} : Own0 (Ow.sl O e) [.slice none 0 0] [] := fun _ _ => ⟨none, 0, rfl, .inl ⟨rfl, rfl⟩⟩
theorem Own0.pair {K : Kd α} {L : Kd β} {O : Ow K} {O' : Ow L} {v1 v2 : List Value} {x1 : α} {x2 : β} (h1 : Own0 O v1 x1) (h2 : Own0 O' v2 x2) : Own0 (O.pair O') (v1 ++ v2) (x1, x2) := fun sb s => ⟨v1, v2, rfl, no, no, fun _ h => h.elim, fun _ h => h, fun _ h => h, h1 sb s, h2 sb s⟩
end
abbrev KI : Kd Int := Kd.int .i64
abbrev OI : Ow KI := Ow.flat (Kd.int_flat .i64)
end Go.Proofs.GL

