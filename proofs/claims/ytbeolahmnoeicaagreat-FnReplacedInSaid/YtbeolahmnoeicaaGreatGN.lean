/- A logic of what is known of memory, over the kit's weakest preconditions: one part. No conditions: lemmas. -/
import Derived.Test.YtbeolahmnoeicaaGreatGK
set_option autoImplicit false
set_option relaxedAutoImplicit false
set_option linter.unusedVariables false
set_option linter.unusedSimpArgs false
namespace Go.Proofs.GL
open Go
section
variable {α : Type}
def Kd.raw (n : Nat) : Kd (List Value) where
 sz := n
 rep := fun _ cs x => cs = x ∧ x.length = n ∧ ∀ v ∈ x, isCell v = true
 len := fun ⟨h, h1, _⟩ => by rw [h]; exact h1
 one := fun ⟨h, _, h2⟩ v hv => h2 v (h ▸ hv)
 mono := fun _ h => h
theorem Kd.raw_flat (n : Nat) : (Kd.raw n).Flat := fun _ _ _ _ h => h
abbrev OR (n : Nat) : Ow (Kd.raw n) := Ow.flat (Kd.raw_flat n)
def Ck.es {K : Kd α} (O : Ow K) (css : List (List Value)) (xs : List α) : Ck where
 P sb s F := ∃ FE : Nat → Fp, (∀ (i : Nat) c x, css[i]? = some c → xs[i]? = some x → O.own sb s (FE i) c x) ∧ (∀ i j, i ≠ j → Dj (FE i) (FE j)) ∧ ∀ i b, FE i b → F b
 fr := fun ⟨FE, h1, h2, h3⟩ he hG => ⟨FE, fun i c x hc hx => O.fr (h1 i c x hc hx) he fun b hb => hG b (h3 i b hb), h2, h3⟩
 up := fun ⟨FE, h1, h2, h3⟩ hb => ⟨FE, fun i c x hc hx => O.up (h1 i c x hc hx) hb, h2, h3⟩
 le := fun ⟨FE, h1, h2, h3⟩ hl => ⟨FE, h1, h2, fun i b hb => hl b (h3 i b hb)⟩
variable {P : Program} {sb s0 s : St} {F0 : Fp} {cs : List Ck}
theorem Hp.weak {cs' : List Ck} (h : Hp sb s0 F0 s cs) (hw : ∀ k, yy cs' k = yy cs k ∨ yy cs' k = Ck.emp) : Hp sb s0 F0 s cs' := by
 obtain ⟨F, h1, h2, h3⟩ := h.ck
 refine ⟨h.fr, h.bs, F, fun k => ?_, h2, h3⟩
 rcases hw k with e | e
 ·rw [e]; exact h1 k
 ·rw [e]; exact trivial
theorem Hp.raw {K : Kd α} {O : Ow K} {e A c} {xs : List α} (h : Hp sb s0 F0 s cs) (k : Nat) (hl : Nat.blt k cs.length = true) (hk : yy cs k = Ck.ol O e A c xs) :
  ∃ css : List (List Value), css.length = xs.length ∧ Hp sb s0 F0 s (addC (setC cs k (Ck.ol (OR K.sz) e A c css)) [Ck.es O css xs]) := by
 obtain ⟨F, g1, _⟩ := h.ck
 have g1 := g1 k
 rw [hk] at g1
 rcases g1 with ⟨rfl, rfl⟩ | ⟨b, o, y, rfl, a2, a3, a4, a5, a6, a7, a8, a9⟩
 ·refine ⟨[], rfl, h.split k (Nat.le_of_ble_eq_true hl) fun F hP => ⟨no, no, fun _ h => h.elim, fun _ h => h.elim, fun _ h => h.elim, .inl ⟨rfl, rfl⟩, fun _ => no, fun i c x hc hx => by simp at hc, fun _ _ _ _ h => h.elim, fun _ _ h => h⟩⟩
 refine ⟨(List.range xs.length).map fun i => (y.cs.drop (o + i * K.sz)).take K.sz, by simp, h.split k (Nat.le_of_ble_eq_true hl) fun F hP => ?_⟩
 rw [hk] at hP
 have hbs := h.bs
 rcases hP with ⟨q1, q2⟩ | ⟨b', o', y', hA, c2, c3, c4, c5, c6, c7, c8, FE, c9, c10, c11⟩
 ·subst q1 q2
  exact ⟨no, no, fun _ h => h.elim, fun _ h => h.elim, fun _ h => h.elim, .inl ⟨rfl, rfl⟩, fun _ => no, fun i c x hc hx => by simp at hc, fun _ _ _ _ h => h.elim, fun _ _ h => h⟩
 injection hA with hA
 injection hA with hA hA2 _
 subst hA hA2
 rw [a2] at c2
 obtain rfl := Option.some.inj c2
 refine ⟨fun q => q = b, fun q => ∃ i, FE i q, fun q hq ⟨i, hi⟩ => (c11 i q hi).2 hq, fun q hq => hq ▸ c4, fun q ⟨i, hi⟩ => (c11 i q hi).1, .inr ⟨b, o, y, rfl, a2, c3, rfl, c5, by simpa using c6, c7, by simp only [List.length_map, List.length_range]; exact c8, fun _ => no, fun i x hx => ?_, fun _ _ _ _ h => h.elim, fun _ _ h => h.elim⟩, FE, fun i c x hc hx => ?_, c10, fun i q hq => ⟨i, hq⟩⟩
 ·obtain ⟨hi, hx⟩ := List.getElem?_eq_some_iff.1 hx
  simp only [List.length_map, List.length_range] at hi
  simp only [List.getElem_map, List.getElem_range] at hx
  have hr := O.rep (c9 i xs[i] (List.getElem?_eq_getElem hi)) hbs
  exact ⟨hx, by rw [← hx]; exact K.len hr, by rw [← hx]; exact K.one hr⟩
 ·obtain ⟨hi, hc⟩ := List.getElem?_eq_some_iff.1 hc
  simp only [List.length_map, List.length_range] at hi
  simp only [List.getElem_map, List.getElem_range] at hc
  subst hc
  exact c9 i x hx
theorem Hp.mkoh {K : Kd α} {O : Ow K} {e A c} {xs : List α} {u : α} {css : List (List Value)} {vs : List Value} (h : Hp sb s0 F0 s cs) (k j : Nat) (hkj : k ≠ j) (hl : Nat.blt k cs.length = true) (hlen : css.length = xs.length) (hk : yy cs k = Ck.ol (OR K.sz) e A c (css ++ [vs])) (hj : yy cs j = Ck.es O css xs) :
  Hp sb s0 F0 s (setC (setC cs k (Ck.oh O e A c (xs ++ [u]) xs.length vs)) j Ck.emp) := by
 obtain ⟨Fi, Fj, g1, g2, g3, g4, g5, g6⟩ := h.upd2 k j hkj (Nat.le_of_ble_eq_true hl)
 rw [hk] at g1
 rw [hj] at g2
 obtain ⟨FE, a11, a12, a13⟩ := g2
 rcases g1 with ⟨_, q2⟩ | ⟨b, o, y, rfl, a2, a3, a4, a5, a6, a7, a8, FR, b1, _, _⟩
 ·simp at q2
 have cell : ∀ m x, (css ++ [vs])[m]? = some x → (y.cs.drop (o + m * K.sz)).take K.sz = x := fun m x hx => (b1 m x hx).1
 refine g6 s _ (fun q => Fi q ∨ Fj q) (Fr.refl _ _) (fun q hq => hq.elim .inl fun h => .inr (.inl h)) ⟨b, o, y, rfl, a2, a3, .inl a4, a5, by simp at a6 ⊢; omega, a7, by simp only [List.length_append, List.length_singleton] at a8 ⊢; rw [← hlen]; exact a8, by simp, ?_, FE, fun m x hm hx => ?_, a12, fun m q hq => ⟨.inr (a13 m q hq), fun e => g3 b a4 (e ▸ a13 m q hq)⟩⟩
 ·exact cell xs.length vs (by rw [List.getElem?_append_right (by omega), ← hlen]; simp)
 ·obtain ⟨hi, _⟩ := List.getElem?_eq_some_iff.1 hx
  simp only [List.length_append, List.length_singleton] at hi
  have hm2 : m < xs.length := by omega
  have hx2 : xs[m]? = some x := by rwa [List.getElem?_append_left hm2] at hx
  have hc : css[m]? = some css[m] := List.getElem?_eq_getElem (by omega)
  rw [cell m css[m] (by rw [List.getElem?_append_left (by omega)]; exact hc)]
  exact a11 m _ x hc hx2
theorem app?_raw {n : Nat} {xs zs : List α} {u : α} {css : List (List Value)} {vs : List Value} (h : app? n xs [u] = some zs) (hl : css.length = xs.length) : app? n css [vs] = some (css ++ [vs]) := by
 obtain ⟨h1, _⟩ := app?_some h
 unfold app?
 rw [if_pos (by simp at h1 ⊢; omega)]
theorem app?_last {n : Nat} {xs zs : List α} {u : α} (h : app? n xs [u] = some zs) : rd? zs (xs.length : Int) = some u := by
 obtain ⟨_, rfl⟩ := app?_some h
 unfold rd?
 simp
section
variable {Kl : List Value → St → Prop} {l : List Value} {d : Option Tmp} {ty : TypeId} {pos : String} {af : Array Edge} {gd : Option (Nat × Bool)}
theorem o_appO {K : Kd α} {O : Ow K} {x y : Operand} {t e : TypeId} {z : Value} {by_ n : Nat} {A B : Option Addr} {c c2 : Nat} {xs zs : List α} {u : α} {vs : List Value} (hH : Hp sb s0 F0 s cs) (i j : Nat) (hij : i ≠ j) (hi : Nat.blt i cs.length = true) (hk : yy cs i = Ck.ol O e A c xs) (hj : yy cs j = Ck.ol (OR K.sz) e B c2 [vs])
  (hx : evL l x = .slice A xs.length c) (hy : evL l y = .slice B 1 c2) (hu : P.underlying t = some (.slice e)) (ht : TI P e z K.sz by_) (hz : z.cells.size = K.sz) (hpos : 0 < K.sz) (hby : 0 < by_) (hn : n * by_ ≤ 140737488355328) (hl : app? n xs [u] = some zs)
  (h : ∀ A' c' s', Hp sb s0 F0 s' (setC (setC cs i (Ck.oh O e A' c' zs (Int.toNat (xs.length : Int)) vs)) j Ck.emp) → Kl (yv l d (.slice A' zs.length c')) s') : HO P false ⟨d, .call { callee := .builtin .append, args := #[x, y], argTypes := #[t, t] }, ty, pos, af, gd⟩ l s Kl := by
 obtain ⟨css, hlen, h1⟩ := hH.raw i hi hk
 have hic : i < cs.length := Nat.le_of_ble_eq_true hi
 have hjc : j < cs.length := by
  rcases Nat.lt_or_ge j cs.length with h' | h'
  ·exact h'
  ·rw [getC_out _ _ h'] at hj
   have : (Ck.emp).P sb s no := trivial
   rw [hj] at this
   rcases this with ⟨_, q⟩ | ⟨b, _, _, _, _, _, q, _⟩
   ·cases q
   ·exact q.elim
 have gj : yy (addC (setC cs i (Ck.ol (OR K.sz) e A c css)) [Ck.es O css xs]) j = Ck.ol (OR K.sz) e B c2 [vs] := by
  rw [getC_addC, setC_length, if_pos hjc, getC_setC, if_neg (fun h => hij h.1), hj]
 have gi : yy (addC (setC cs i (Ck.ol (OR K.sz) e A c css)) [Ck.es O css xs]) i = Ck.ol (OR K.sz) e A c css := by
  rw [getC_addC, setC_length, if_pos hic, getC_setC, if_pos ⟨rfl, hic⟩]
 have hlc : (addC (setC cs i (Ck.ol (OR K.sz) e A c css)) [Ck.es O css xs]).length = cs.length + 1 := by rw [addC_eq]; simp [setC_length]
 have hrd : Rd (Kd.raw K.sz) s B c2 [vs] := by
  obtain ⟨F, hP⟩ := h1.ckP j
  rw [gj] at hP
  exact ol.rd hP h1.bs
 obtain ⟨_, hzs⟩ := app?_some hl
 refine o_appF (K := Kd.raw K.sz) (O := OR K.sz) (xs := css) (ys := [vs]) h1 i (by rw [hlc]; exact Nat.ble_eq_true_of_le (by omega)) gi (by rw [hx, hlen]) hy hu ht hz hpos hby hn (Src.flat hrd) (app?_raw (vs := vs) hl hlen) fun A' c' s' h2 => ?_
 have hl2 : (css ++ [vs]).length = zs.length := by rw [hzs]; simp [hlen]
 rw [hl2]
 refine h A' c' s' ?_
 have h3 := h2.mkoh (K := K) (O := O) (u := u) (xs := xs) i cs.length (by omega) (by rw [setC_length, hlc]; exact Nat.ble_eq_true_of_le (by omega)) hlen (by rw [getC_setC, if_pos ⟨rfl, by rw [hlc]; omega⟩]) (by
  rw [getC_setC, if_neg (fun h => by omega), getC_addC, setC_length, if_neg (by omega), Nat.sub_self]
  rfl)
 rw [Int.toNat_natCast, hzs]
 refine h3.weak fun k => ?_
 by_cases hkj : k = j
 ·subst hkj
  right
  rw [getC_setC, if_pos ⟨rfl, by rw [setC_length]; exact hjc⟩]
 ·by_cases hki : k = i
  ·subst hki
   left
   rw [getC_setC, if_neg (fun h => hij h.1.symm), getC_setC, if_pos ⟨rfl, hic⟩, getC_setC, if_neg (fun h => by omega), getC_setC, if_pos ⟨rfl, by rw [setC_length, hlc]; omega⟩]
  ·rw [getC_setC, if_neg (fun h => hkj h.1.symm), getC_setC, if_neg (fun h => hki h.1.symm)]
   rcases Nat.lt_or_ge k cs.length with hc | hc
   ·left
    rw [getC_setC, if_neg (fun h => by omega), getC_setC, if_neg (fun h => hki h.1.symm), getC_setC, if_neg (fun h => hki h.1.symm), getC_addC, setC_length, if_pos hc, getC_setC, if_neg (fun h => hki h.1.symm)]
   ·right
    exact getC_out _ _ hc
theorem Ck.ohrd {K : Kd α} {O : Ow K} {e A c} {xs ys : List α} {i : Int} {vs : List Value} {u : α} {ck : Ck} {sx : St} (hb : Bs sb sx) (h : ∃ F, ck.P sb sx F) (hk : ck = Ck.oh O e A c xs (Int.toNat i) vs) (hr : K.rep sx vs u) (hst : st? xs i u = some ys) : Rd K sx A c ys := by
 obtain ⟨F, h⟩ := h
 rw [hk] at h
 obtain ⟨b, o, y, rfl, a2, a3, a4, a5, a6, a7, a8, a9, a10, FE, a11, a12, a13⟩ := h
 obtain ⟨⟨h0, h1⟩, rfl⟩ := st?_some hst
 refine ⟨by rw [List.length_set]; exact a6, a7, fun _ => ⟨b, o, rfl, fun m x hx => ?_⟩⟩
 by_cases hm : m = i.toNat
 ·subst hm
  rw [List.getElem?_set_self a9] at hx
  obtain rfl := Option.some.inj hx
  exact ⟨vs, hr, fun j v hj => .inr ⟨y, a2, by rw [← a10] at hj; exact getElem?_drop_take hj⟩⟩
 ·rw [List.getElem?_set_ne (by omega)] at hx
  exact ⟨_, O.rep (a11 m x hm hx) hb, fun j v hj => .inr ⟨y, a2, getElem?_drop_take hj⟩⟩
end
end
end Go.Proofs.GL

