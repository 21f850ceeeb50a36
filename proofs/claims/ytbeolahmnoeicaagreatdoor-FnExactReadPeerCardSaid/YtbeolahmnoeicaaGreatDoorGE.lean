/- A logic of what is known of memory, over the kit's weakest preconditions: one part. No conditions: lemmas. -/
import Derived.Test.YtbeolahmnoeicaaGreatDoorGD
set_option linter.unusedVariables false
set_option linter.unusedSimpArgs false
namespace Go.Proofs.GL
open Go
section
variable {α β : Type} {sb s0 s : St} {F0 : Fp} {cs : List Ck}
variable {P : Program} {ro : Bool} {Kl : List Value → St → Prop} {l : List Value} {d : Option Tmp} {ty : TypeId} {pos : String} {af : Array Edge} {gd : Option (Nat × Bool)}
def Fup {K : Kd α} (O : Ow K) (off : Nat) (v : Value) (u u' : α) : Prop := off < K.sz ∧ isCell v = true ∧ ∀ sb s F cs1, Bs sb s → O.own sb s F cs1 u → O.own sb s F (cs1.set off v) u'
theorem Fup.int {k : IntKind} {n m : Int} : Fup (Ow.flat (Kd.int_flat k)) 0 (.int k m) n m := ⟨Nat.one_pos, rfl, fun _ _ _ _ _ h => by
 obtain rfl : _ = [_] := h
 rfl⟩
theorem Fup.bool {n m : Bool} : Fup (Ow.flat Kd.bool_flat) 0 (.bool m) n m := ⟨Nat.one_pos, rfl, fun _ _ _ _ _ h => by
 obtain rfl : _ = [_] := h
 rfl⟩
theorem Fup.str {n m : ByteArray} : Fup (Ow.flat Kd.str_flat) 0 (.string m) n m := ⟨Nat.one_pos, rfl, fun _ _ _ _ _ h => by
 obtain rfl : _ = [_] := h
 rfl⟩
theorem Fup.left {K : Kd α} {L : Kd β} {O : Ow K} {O' : Ow L} {off : Nat} {v : Value} {u : α × β} {u' : α} (h : Fup O off v u.1 u') : Fup (O.pair O') off v u (u', u.2) := ⟨Nat.lt_of_lt_of_le h.1 (Nat.le_add_right _ _), h.2.1, by
 rintro sb s F cs1 hb ⟨c1, c2, rfl, F1, F2, hd, l1, l2, h1, h2⟩
 have := K.len (O.rep h1 hb)
 exact ⟨c1.set off v, c2, by rw [List.set_append_left _ _ (by rw [this]; exact h.1)], F1, F2, hd, l1, l2, h.2.2 _ _ _ _ hb h1, h2⟩⟩
theorem Fup.right {K : Kd α} {L : Kd β} {O : Ow K} {O' : Ow L} {off : Nat} {v : Value} {u : α × β} {u' : β} (h : Fup O' off v u.2 u') : Fup (O.pair O') (K.sz + off) v u (u.1, u') := ⟨Nat.add_lt_add_left h.1 _, h.2.1, by
 rintro sb s F cs1 hb ⟨c1, c2, rfl, F1, F2, hd, l1, l2, h1, h2⟩
 have := K.len (O.rep h1 hb)
 exact ⟨c1, c2.set off v, by rw [List.set_append_right _ _ (by omega), this, Nat.add_sub_cancel_left], F1, F2, hd, l1, l2, h1, h.2.2 _ _ _ _ hb h2⟩⟩
theorem o_setf {K : Kd α} {O : Ow K} {xs ys : List α} {x y : Operand} {e e1 : TypeId} {z : Value} {by_ : Nat} {A : Option Addr} {b o c off : Nat} {i : Int} {v : Value} {u u' : α} (hH : Hp sb s0 F0 s cs) (k : Nat) (hl : Nat.blt k cs.length = true) (hk : getC cs k = Ck.ol O e A c xs) (hx : evL l x = .pointer (some ⟨b, o + i.toNat * K.sz + off, none⟩)) (hy : evL l y = v) (ht : TI P e1 z 1 by_) (hA : A = some ⟨b, o, none⟩) (hrd : rd? xs i = some u) (hf : Fup O off v u u') (hst : st? xs i u' = some ys)
  (h : ∀ s', Hp sb s0 F0 s' (setC cs k (Ck.ol O e A c ys)) → Kl (yh l d undef) s') : HO P false ⟨d, .store e1 x y, ty, pos, af, gd⟩ l s Kl := by
 obtain ⟨Fi, g1, g2, g3⟩ := hH.upd k (Nat.le_of_ble_eq_true hl)
 rw [hk] at g1
 obtain ⟨⟨h0, h1⟩, rfl⟩ := st?_some hst
 obtain ⟨_, _, hux⟩ := rd?_some hrd
 subst hA
 obtain ⟨hoff, hcell, hown⟩ := hf
 rcases g1 with ⟨_, h⟩ | ⟨b', o', y', hA, a2, a3, a4, a5, a6, a7, a8, FE, b1, b2, b3⟩
 ·subst h
  simp at h1
  omega
 injection hA with hA
 injection hA with hA hA2 _
 subst hA hA2
 have hil : i.toNat < xs.length := by omega
 have hroom : i.toNat * K.sz + K.sz ≤ xs.length * K.sz := by rw [← Nat.succ_mul]; exact Nat.mul_le_mul_right _ hil
 have hle : o + i.toNat * K.sz + off ≤ y'.cs.length := by omega
 have hcl := Nat.mul_le_mul_right K.sz a6
 have hv1 : v.cells.toList = [v] := by cases v <;> first | rfl | simp [isCell] at hcell
 have hsz : v.cells.size = 1 := by rw [← Array.length_toList, hv1]; rfl
 unfold HO execOp
 simp only [hx, hy, Instr.storeAt, Instr.sureAddr, y5, y8, storeVar, GOk_sizeOf ht, hsz, ne_eq, not_true_eq_false, if_false, hv1]
 refine GOk_storeC [v] y' 0 s a2 (g2 _ a4).g (by omega) (by simp; omega) (by simpa using hcell) ?_
 have hE := Fr.setO (s := s) (b := b) { y' with cs := spl y'.cs (o + i.toNat * K.sz + off + 0) [v] }
 rw [Nat.add_zero] at hE ⊢
 refine ⟨rfl, h _ (g3 _ _ Fi (hE.weak fun k hk => hk ▸ a4) (fun _ h => .inl h) (.inr ⟨b, o, { y' with cs := spl y'.cs (o + i.toNat * K.sz + off) [v] }, rfl, by simp [St.setO], a3, a4, a5, by rw [List.length_set]; exact a6, a7, ?_, FE, fun j w hj => ?_, b2, b3⟩))⟩
 ·show _ ≤ (spl _ _ _).length
  rw [spl_len hle, List.length_set]; omega
 ·by_cases hji : j = i.toNat
  ·subst hji
   rw [List.getElem?_set_self (by omega)] at hj
   obtain rfl := Option.some.inj hj
   have hcut : ((spl y'.cs (o + i.toNat * K.sz + off) [v]).drop (o + i.toNat * K.sz)).take K.sz = ((y'.cs.drop (o + i.toNat * K.sz)).take K.sz).set off v := by
    apply List.ext_getElem?
    intro j
    rw [List.getElem?_set]
    simp only [List.getElem?_take, List.getElem?_drop, List.length_take, List.length_drop]
    rw [spl_get hle]
    by_cases hj : off = j
    ·subst hj
     rw [if_pos hoff, if_neg (by omega), if_pos (by simp)]
     simp
     omega
    ·rw [if_neg hj]
     split
     ·by_cases hj2 : j < off
      ·rw [if_pos (by omega)]
      ·rw [if_neg (by omega), if_neg (by simp; omega)]
     ·rfl
   show O.own sb _ _ (((spl _ _ _).drop _).take _) _
   rw [hcut]
   exact hown _ _ _ _ (Bs.mk (fun k => (hE.g k).trans (hH.bs.g k)) fun k y hy => hE.o k y (fun e => by subst e; have := (g2 _ a4).sb; rw [this] at hy; cases hy) (hH.bs.o k y hy)) (O.fr (b1 _ u hux) hE.toEqo fun q hq => (b3 _ q hq).2)
  ·rw [List.getElem?_set_ne (by omega)] at hj
   show O.own sb _ (FE j) (((spl _ _ _).drop _).take _) w
   rw [spl_part hle]
   ·exact O.fr (b1 j w hj) hE.toEqo fun q hq => (b3 j q hq).2
   ·simp only [List.length_singleton]
    rcases Nat.lt_or_gt_of_ne hji with hlt | hgt
    ·left
     have : j * K.sz + K.sz ≤ i.toNat * K.sz := by rw [← Nat.succ_mul]; exact Nat.mul_le_mul_right _ hlt
     omega
    ·right
     have : i.toNat * K.sz + K.sz ≤ j * K.sz := by rw [← Nat.succ_mul]; exact Nat.mul_le_mul_right _ hgt
     omega
theorem Hp.newT (h : Hp sb s0 F0 s cs) {b : Nat} (hb : s.fresh b) (vs : List Value) (T : TypeId) : Hp sb s0 F0 (s.setT b (vs, T)) (addC cs [Ck.ov b vs T]) :=
 h.new (F' := fun k => k = b) (Fr.newT hb _) (fun k hk => by subst hk; exact ⟨hb, by simp [St.dom, St.setT]⟩) ⟨by simp [St.setT], rfl⟩
theorem o_allocH {e : TypeId} {z : Value} {sz by_ : Nat} (hH : Hp sb s0 F0 s cs) (ht : TI P e z sz by_) (h : ∀ b s', Hp sb s0 F0 s' (addC cs [Ck.ov b z.cells.toList e]) → Gro s s' → Kl (yh l d (.pointer (some ⟨b, 0, none⟩))) s') : HO P false ⟨d, .alloc e, ty, pos, af, gd⟩ l s Kl :=
 o_alloc ht fun b hb => h b _ (hH.newT hb _ _) (Fr.newT hb _).gro
theorem o_boxH {e : TypeId} {x : Operand} {vs : List Value} (hH : Hp sb s0 F0 s cs) (hx : evL l x = .agg vs.toArray) (h : ∀ b s', Hp sb s0 F0 s' (addC cs [Ck.ov b vs e]) → Gro s s' → Kl (yh l d (.pointer (some ⟨b, 0, none⟩))) s') : HO P false ⟨d, .box e x, ty, pos, af, gd⟩ l s Kl :=
 o_box hx fun b hb => h b _ (hH.newT hb _ _) (Fr.newT hb _).gro
theorem o_stvH {x y : Operand} {e T : TypeId} {b off : Nat} {v : Value} {vs us us' : List Value} {z : Value} {sz by_ : Nat} (hH : Hp sb s0 F0 s cs) (k : Nat) (hl0 : Nat.blt k cs.length = true) (hk : getC cs k = Ck.ov b us T) (hx : evL l x = .pointer (some ⟨b, off, none⟩)) (hy : evL l y = v) (hv : v.cells.toList = vs) (ht : TI P e z sz by_) (hn : sz = vs.length) (hne : vs ≠ []) (hl : Nat.ble (off + vs.length) us.length = true) (hc : (vs.all isCell) = true) (hcs : setN us off vs = us')
  (h : ∀ s', Hp sb s0 F0 s' (setC cs k (Ck.ov b us' T)) → Kl (yh l d undef) s') : HO P false ⟨d, .store e x y, ty, pos, af, gd⟩ l s Kl := by
 subst hcs
 obtain ⟨Fi, g1, g2, g3⟩ := hH.upd k (Nat.le_of_ble_eq_true hl0)
 rw [hk] at g1
 exact o_storeT hx hy hv ht hn hne g1.1 (g2 b g1.2).g (Nat.le_of_ble_eq_true hl) (List.all_eq_true.1 hc) (h _ (g3 _ _ Fi ((Fr.setT _).weak fun q hq => hq ▸ g1.2) (fun _ h => .inl h) ⟨by simp [St.setT], g1.2⟩))
theorem Ent.flat {K : Kd α} {O : Ow K} [O.Fl] {vs : List Value} {x : α} (h : K.rep s vs x) : Ent sb s [] (Ck.el O vs x) := fun F _ => O.le (Ow.Fl.fl h) fun _ h => h.elim
theorem Ent.lent {K : Kd α} {vs : List Value} {x : α} (h : K.rep sb vs x) : Ent sb s [] (Ck.el (Ow.lent K) vs x) := fun F _ => h
theorem Ent.nil {K : Kd α} {O : Ow K} {e : TypeId} : Ent sb s [] (Ck.el (Ow.sl O e) [.slice none 0 0] []) := fun F _ => ⟨none, 0, rfl, .inl ⟨rfl, rfl⟩⟩
theorem Ent.sl {K : Kd α} {O : Ow K} {e : TypeId} {A : Option Addr} {c : Nat} {xs : List α} : Ent sb s [Ck.ol O e A c xs] (Ck.el (Ow.sl O e) [.slice A xs.length c] xs) := fun F ⟨Fi, h1, _, h3⟩ => ⟨A, c, rfl, (h1 0 : ol O e A c xs sb s (Fi 0)).le (h3 0)⟩
theorem Ent.pair {K : Kd α} {L : Kd β} {O : Ow K} {O' : Ow L} {c1 c2 : List Ck} {v1 v2 : List Value} {x1 : α} {x2 : β} (h1 : Ent sb s c1 (Ck.el O v1 x1)) (h2 : Ent sb s c2 (Ck.el O' v2 x2)) : Ent sb s (addC c1 c2) (Ck.el (O.pair O') (v1 ++ v2) (x1, x2)) := by
 rintro F ⟨Fi, g1, g2, g3⟩
 refine ⟨v1, v2, rfl, fun b => ∃ i, i < c1.length ∧ Fi i b, fun b => ∃ i, c1.length ≤ i ∧ Fi i b, ?_, fun b ⟨i, _, hb⟩ => g3 i b hb, fun b ⟨i, _, hb⟩ => g3 i b hb, h1 _ ⟨fun i => if i < c1.length then Fi i else no, fun i => ?_, fun i j hij b hb hb' => ?_, fun i b hb => ?_⟩, h2 _ ⟨fun i => Fi (c1.length + i), fun i => ?_, fun i j hij => g2 _ _ (by omega), fun i b hb => ⟨_, by omega, hb⟩⟩⟩
 ·rintro b ⟨i, hi, hb⟩ ⟨j, hj, hb'⟩
  exact g2 i j (by omega) b hb hb'
 ·by_cases hi : i < c1.length
  ·simp only [hi, if_true]
   have := g1 i
   rwa [getC_addC, if_pos hi] at this
  ·simp only [hi, if_false]
   rw [getC_out _ _ (by omega)]
   exact trivial
 ·try dsimp only at hb
  try dsimp only at hb'
  split at hb
  ·split at hb'
   ·exact g2 i j hij b hb hb'
   ·exact hb'.elim
  ·exact hb.elim
 ·try dsimp only at hb
  try dsimp only at hb'
  split at hb
  ·exact ⟨i, by assumption, hb⟩
  ·exact hb.elim
 ·have := g1 (c1.length + i)
  rwa [getC_addC, if_neg (by omega), Nat.add_sub_cancel_left] at this
def Ck.oh {K : Kd α} (O : Ow K) (e : TypeId) (A : Option Addr) (c : Nat) (xs : List α) (i : Nat) (vs : List Value) : Ck where
 P sb s F := ∃ b o y, A = some ⟨b, o, none⟩ ∧ s.o b = some y ∧ y.e = e ∧ F b ∧ o + c * K.sz ≤ y.room ∧ xs.length ≤ c ∧ c ≤ maxN ∧ o + xs.length * K.sz ≤ y.cs.length ∧ i < xs.length ∧ (y.cs.drop (o + i * K.sz)).take K.sz = vs ∧
  ∃ FE : Nat → Fp, (∀ j x, j ≠ i → xs[j]? = some x → O.own sb s (FE j) ((y.cs.drop (o + j * K.sz)).take K.sz) x) ∧ (∀ i j, i ≠ j → Dj (FE i) (FE j)) ∧ ∀ i k, FE i k → F k ∧ k ≠ b
 fr := by
  rintro sb s s' F G ⟨b, o, y, h1, h2, h3, h4, h5, h6, h7, h8, h9, h10, FE, h11, h12, h13⟩ he hG
  exact ⟨b, o, y, h1, he.o b y (hG b h4) h2, h3, h4, h5, h6, h7, h8, h9, h10, FE, fun j x hj hx => O.fr (h11 j x hj hx) he fun k hk => hG k (h13 j k hk).1, h12, h13⟩
 up := by
  rintro sb sb' s F ⟨b, o, y, h1, h2, h3, h4, h5, h6, h7, h8, h9, h10, FE, h11, h12, h13⟩ hb
  exact ⟨b, o, y, h1, h2, h3, h4, h5, h6, h7, h8, h9, h10, FE, fun j x hj hx => O.up (h11 j x hj hx) hb, h12, h13⟩
 le := by
  rintro sb s F F' ⟨b, o, y, h1, h2, h3, h4, h5, h6, h7, h8, h9, h10, FE, h11, h12, h13⟩ hl
  exact ⟨b, o, y, h1, h2, h3, hl b h4, h5, h6, h7, h8, h9, h10, FE, h11, h12, fun i k hk => ⟨hl k (h13 i k hk).1, (h13 i k hk).2⟩⟩
instance {K : Kd α} (O : Ow K) [O.Free] (e : TypeId) (A : Option Addr) (c : Nat) (xs : List α) (i : Nat) (vs : List Value) : (Ck.oh O e A c xs i vs).Free := ⟨by
 rintro sb sb' s F ⟨b, o, y, h1, h2, h3, h4, h5, h6, h7, h8, h9, h10, FE, h11, h12, h13⟩
 exact ⟨b, o, y, h1, h2, h3, h4, h5, h6, h7, h8, h9, h10, FE, fun j x hj hx => Ow.Free.free (h11 j x hj hx), h12, h13⟩⟩
theorem Hp.split (h : Hp sb s0 F0 s cs) (k : Nat) (hl : k < cs.length) {d1 d2 : Ck} (he : ∀ F, (getC cs k).P sb s F → ∃ F1 F2, Dj F1 F2 ∧ (∀ b, F1 b → F b) ∧ (∀ b, F2 b → F b) ∧ d1.P sb s F1 ∧ d2.P sb s F2) : Hp sb s0 F0 s (addC (setC cs k d1) [d2]) := by
 obtain ⟨F, h1, h2, h3⟩ := h.ck
 obtain ⟨F1, F2, e1, e2, e3, e4, e5⟩ := he _ (h1 k)
 refine ⟨h.fr, h.bs, fun j => if j = k then F1 else if j = cs.length then F2 else if j < cs.length then F j else no, fun j => ?_, fun i j hij b hb hb' => ?_, fun i b hb => ?_⟩
 ·rw [getC_addC, setC_length]
  by_cases hj : j = k
  ·subst hj
   simp only [hl, if_true]
   rw [getC_setC, if_pos ⟨rfl, hl⟩]
   exact e4
  ·by_cases hj2 : j = cs.length
   ·subst hj2
    simp only [hj, if_false, if_true, Nat.lt_irrefl, Nat.sub_self]
    exact e5
   ·by_cases hj3 : j < cs.length
    ·simp only [hj, hj2, hj3, if_true, if_false]
     rw [getC_setC, if_neg (fun h => hj h.1.symm)]
     exact h1 j
    ·simp only [hj, hj2, hj3, if_false]
     rw [show j - cs.length = (j - cs.length - 1) + 1 by omega]
     exact trivial
 ·try dsimp only at hb
  try dsimp only at hb'
  split at hb
  ·split at hb'
   ·omega
   ·split at hb'
    ·exact e1 b hb hb'
    ·split at hb'
     ·exact h2 k j (by omega) b (e2 b hb) hb'
     ·exact hb'.elim
  ·split at hb
   ·split at hb'
    ·exact e1 b hb' hb
    ·split at hb'
     ·omega
     ·split at hb'
      ·exact h2 k j (by omega) b (e3 b hb) hb'
      ·exact hb'.elim
   ·split at hb
    ·split at hb'
     ·exact h2 k i (by omega) b (e2 b hb') hb
     ·split at hb'
      ·exact h2 k i (by omega) b (e3 b hb') hb
      ·split at hb'
       ·exact h2 i j hij b hb hb'
       ·exact hb'.elim
    ·exact hb.elim
 ·try dsimp only at hb
  try dsimp only at hb'
  split at hb
  ·exact h3 k b (e2 b hb)
  ·split at hb
   ·exact h3 k b (e3 b hb)
   ·split at hb
    ·exact h3 i b hb
    ·exact hb.elim
theorem Hp.open {K : Kd α} {O : Ow K} {e A c} {xs : List α} {i : Int} {u : α} (h : Hp sb s0 F0 s cs) (k : Nat) (hl : Nat.blt k cs.length = true) (hk : getC cs k = Ck.ol O e A c xs) (hrd : rd? xs i = some u) :
  ∃ b o vs, A = some ⟨b, o, none⟩ ∧ (∀ j v, vs[j]? = some v → s.has ⟨b, o + i.toNat * K.sz + j, none⟩ v) ∧ Hp sb s0 F0 s (addC (setC cs k (Ck.oh O e A c xs i.toNat vs)) [Ck.el O vs u]) := by
 obtain ⟨h0, h1, h2⟩ := rd?_some hrd
 obtain ⟨F, g1, _⟩ := h.ck
 have g1 := g1 k
 rw [hk] at g1
 rcases g1 with ⟨_, rfl⟩ | ⟨b, o, y, rfl, a2, a3, a4, a5, a6, a7, a8, a9⟩
 ·simp at h2
 refine ⟨b, o, (y.cs.drop (o + i.toNat * K.sz)).take K.sz, rfl, fun j v hj => ⟨rfl, .inl (.inr ⟨y, a2, getElem?_drop_take hj⟩)⟩, h.split k (Nat.le_of_ble_eq_true hl) fun F hP => ?_⟩
 rw [hk] at hP
 rcases hP with ⟨_, rfl⟩ | ⟨b', o', y', hA, c2, c3, c4, c5, c6, c7, c8, FE, c9, c10, c11⟩
 ·simp at h2
 injection hA with hA
 injection hA with hA hA2 _
 subst hA hA2
 rw [a2] at c2
 obtain rfl := Option.some.inj c2
 refine ⟨fun q => F q ∧ ¬ FE i.toNat q, FE i.toNat, fun q hq hq' => hq.2 hq', fun q hq => hq.1, fun q hq => (c11 _ q hq).1, ⟨b, o, y, rfl, a2, c3, ⟨c4, fun hq => (c11 _ _ hq).2 rfl⟩, c5, c6, c7, c8, by omega, rfl, fun j => if j = i.toNat then no else FE j, fun j x hj hx => ?_, fun j m hjm q hq hq' => ?_, fun j q hq => ?_⟩, c9 _ u h2⟩
 ·simp only [hj, if_false]; exact c9 j x hx
 ·try dsimp only at hq
  try dsimp only at hq'
  split at hq
  ·exact hq.elim
  ·split at hq'
   ·exact hq'.elim
   ·exact c10 j m hjm q hq hq'
 ·try dsimp only at hq
  try dsimp only at hq'
  split at hq
  ·exact hq.elim
  ·exact ⟨⟨(c11 j q hq).1, fun h => c10 j _ (by assumption) q hq h⟩, (c11 j q hq).2⟩
theorem Hp.freeze {K : Kd α} {O : Ow K} {e A c} {xs : List α} (h : Hp sb s0 F0 s cs) (k : Nat) (hl : Nat.blt k cs.length = true) (hk : getC cs k = Ck.ol O e A c xs) : ∃ sb', Up F0 sb sb' s0 ∧ Rd K sb' A c xs ∧ Hp sb' s0 F0 s (setC cs k Ck.emp) := by
 classical
 have hl := Nat.le_of_ble_eq_true hl
 obtain ⟨F, h1, h2, h3⟩ := h.ck
 let sb' : St := ⟨sb.g, fun b => if F k b then s.o b else sb.o b, fun b => if F k b then s.t b else sb.t b, fun b => if F k b then s.x b else sb.x b⟩
 have hup : Up F0 sb sb' s0 := ⟨fun _ => rfl, fun b y hy => by
  have : ¬ F k b := fun hb => by rw [(h3 k b hb).sb] at hy; cases hy
  show (if F k b then s.o b else sb.o b) = _
  rw [if_neg this]; exact hy, fun b y hy => by
  have hy : (if F k b then s.o b else sb.o b) = some y := hy
  split at hy
  ·exact .inr (h3 k b (by assumption)).new
  ·exact .inl hy⟩
 have hbs : Bs sb' s := ⟨h.bs.g, fun b y hy => by
  have hy : (if F k b then s.o b else sb.o b) = some y := hy
  split at hy
  ·exact hy
  ·exact h.bs.o b y hy⟩
 refine ⟨sb', hup, ?_, h.fr, hbs, fun j => if j = k then no else F j, fun j => ?_, fun i j hij b hb hb' => ?_, fun i b hb => ?_⟩
 ·have hP := h1 k
  rw [hk] at hP
  have := (ol.fr (s' := sb') (G := fun b => ¬ F k b) hP ⟨fun b y hb hy => ?_, fun b y hb hy => ?_, fun b y hb hy => ?_, fun b => (h.bs.g b).symm⟩ fun b hb hn => hn hb)
  ·exact ol.rd this ⟨fun b => rfl, fun b y hy => by
    show (if F k b then s.o b else sb.o b) = some y
    split
    ·exact h.bs.o b y hy
    ·exact hy⟩
  ·show (if F k b then s.o b else sb.o b) = some y
   rw [if_pos (Classical.not_not.1 hb)]; exact hy
  ·show (if F k b then s.t b else sb.t b) = some y
   rw [if_pos (Classical.not_not.1 hb)]; exact hy
  ·show (if F k b then s.x b else sb.x b) = some y
   rw [if_pos (Classical.not_not.1 hb)]; exact hy
 ·by_cases hj : j = k
  ·subst hj
   rw [getC_setC, if_pos ⟨rfl, hl⟩]; exact trivial
  ·rw [getC_setC, if_neg (fun h => hj h.1.symm)]
   simp only [hj, if_false]
   exact (getC cs j).up (h1 j) hup.bs
 ·try dsimp only at hb
  try dsimp only at hb'
  split at hb
  ·exact hb.elim
  ·split at hb'
   ·exact hb'.elim
   ·exact h2 i j hij b hb hb'
 ·try dsimp only at hb
  try dsimp only at hb'
  split at hb
  ·exact hb.elim
  ·have := h3 i b hb
   refine ⟨this.dom, this.g, ?_, this.new⟩
   show (if F k b then s.o b else sb.o b) = none
   rw [if_neg (fun hk' => h2 i k (by assumption) b hb hk')]
   exact this.sb
end
end Go.Proofs.GL

