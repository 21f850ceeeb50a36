/- A logic of what is known of memory, over the kit's weakest preconditions: one part. No conditions: lemmas. -/
import Derived.Test.YtbeolahmnoeicaaGreatDoorGA
set_option linter.unusedVariables false
set_option linter.unusedSimpArgs false
namespace Go.Proofs.GL
open Go
def spl (cs : List Value) (a : Nat) (vs : List Value) : List Value := cs.take a ++ vs ++ cs.drop (a + vs.length)
theorem spl_get {cs : List Value} {a : Nat} {vs : List Value} (h : a ≤ cs.length) (j : Nat) : (spl cs a vs)[j]? = if j < a then cs[j]? else if j < a + vs.length then vs[j - a]? else cs[j]? := by
 unfold spl
 by_cases h1 : j < a
 ·rw [if_pos h1, List.append_assoc, List.getElem?_append_left (by simp; omega), List.getElem?_take, if_pos h1]
 ·rw [if_neg h1, List.append_assoc, List.getElem?_append_right (by simp; omega), List.length_take, Nat.min_eq_left h]
  by_cases h2 : j < a + vs.length
  ·rw [if_pos h2, List.getElem?_append_left (by omega)]
  ·rw [if_neg h2, List.getElem?_append_right (by omega), List.getElem?_drop]
   congr 1
   omega
theorem spl_len {cs : List Value} {a : Nat} {vs : List Value} (h : a ≤ cs.length) : (spl cs a vs).length = max cs.length (a + vs.length) := by
 unfold spl
 simp
 omega
theorem spl_part {cs : List Value} {a : Nat} {vs : List Value} (h : a ≤ cs.length) (p n : Nat) (hp : p + n ≤ a ∨ a + vs.length ≤ p) : ((spl cs a vs).drop p).take n = (cs.drop p).take n := by
 apply List.ext_getElem?
 intro j
 simp only [List.getElem?_take, List.getElem?_drop]
 split
 ·rw [spl_get h]
  rcases hp with hp | hp
  ·rw [if_pos (by omega)]
  ·rw [if_neg (by omega), if_neg (by omega)]
 ·rfl
theorem spl_at {cs : List Value} {a : Nat} {vs : List Value} (h : a ≤ cs.length) (p n : Nat) (hp : p + n ≤ vs.length) : ((spl cs a vs).drop (a + p)).take n = (vs.drop p).take n := by
 apply List.ext_getElem?
 intro j
 simp only [List.getElem?_take, List.getElem?_drop]
 split
 ·rw [spl_get h, if_neg (by omega), if_pos (by omega)]
  congr 1
  omega
 ·rfl
theorem setO_same {s : St} {b : Nat} {y : Own} (h : s.o b = some y) : s.setO b y = s := by
 unfold St.setO
 have : (fun k => if k = b then some y else s.o k) = s.o := by
  funext k
  by_cases e : k = b
  ·subst e; simp [h]
  ·simp [e]
 rw [this]
theorem GOk_storeC {P : Program} {b off : Nat} {KU : Unit → St → Prop} : ∀ (vs : List Value) (y : Own) (i : Nat) (s : St), s.o b = some y → s.g b = none → off + i ≤ y.cs.length → off + i + vs.length ≤ y.room → (∀ v ∈ vs, isCell v = true) → KU () (s.setO b { y with cs := spl y.cs (off + i) vs }) → GOk P false (storeCells ⟨b, off, none⟩ vs i) s KU := by
 intro vs
 induction vs with
 | nil =>
  intro y i s hb _ _ _ _ hk
  have e : ({ y with cs := spl y.cs (off + i) [] } : Own) = y := by cases y; simp [spl]
  rw [e, setO_same hb] at hk
  exact hk
 | cons v vs ih =>
  intro y i s hb hs hl hr hc hk
  unfold storeCells
  rw [y5, addp]
  simp only [List.length_cons] at hr
  have hput : s.putO b (off + i) v = some (s.setO b { y with cs := spl y.cs (off + i) [v] }) := by
   simp only [St.putO, hb]
   have hsh : s.shared b = 0 := by simp [St.shared, hs]
   rw [if_pos (by omega)]
   by_cases h1 : off + i < y.cs.length
   ·rw [if_pos h1]
    have : y.cs.set (off + i) v = spl y.cs (off + i) [v] := by
     apply List.ext_getElem?
     intro j
     rw [spl_get hl, List.getElem?_set]
     by_cases hj : off + i = j
     ·subst hj; simp [h1]
     ·simp only [hj, if_false]
      by_cases hj2 : j < off + i
      ·simp [hj2]
      ·simp only [hj2, if_false, List.length_singleton]
       rw [if_neg (by omega)]
    rw [this]
   ·rw [if_neg h1, if_pos ⟨by omega, by omega⟩]
    have : y.cs ++ [v] = spl y.cs (off + i) [v] := by
     unfold spl
     rw [List.take_of_length_le (by omega), List.drop_of_length_le (by simp; omega), List.append_nil]
    rw [this]
  refine ⟨rfl, hc v (by simp), _, ⟨rfl, .inl hput⟩, ?_⟩
  refine ih { y with cs := spl y.cs (off + i) [v] } (i + 1) _ (by simp [St.setO]) hs (by show _ ≤ (spl _ _ _).length; rw [spl_len hl]; simp; omega) (by show _ ≤ y.room; omega) (fun u hu => hc u (by simp [hu])) ?_
  rw [setO_setO]
  have e : spl (spl y.cs (off + i) [v]) (off + (i + 1)) vs = spl y.cs (off + i) (v :: vs) := by
   apply List.ext_getElem?
   intro j
   have hl2 : off + (i + 1) ≤ (spl y.cs (off + i) [v]).length := by rw [spl_len hl]; simp; omega
   rw [spl_get hl2, spl_get hl, spl_get hl]
   simp only [List.length_cons, List.length_nil]
   by_cases h1 : j < off + i
   ·rw [if_pos (by omega), if_pos h1, if_pos h1]
   ·by_cases h2 : j = off + i
    ·subst h2; rw [if_pos (by omega), if_neg h1, if_pos (by omega), if_neg h1, if_pos (by omega)]; simp
    ·rw [if_neg (by omega), if_neg h1, if_neg h1]
     by_cases h3 : j < off + (i + 1) + vs.length
     ·rw [if_pos h3, if_pos (by omega), show j - (off + i) = (j - (off + (i + 1))) + 1 by omega, List.getElem?_cons_succ]
     ·rw [if_neg h3, if_neg (by omega), if_neg (by omega)]
  show KU () (s.setO b { y with cs := spl (spl y.cs (off + i) [v]) (off + (i + 1)) vs })
  rw [e]
  exact hk
section
variable {α β : Type} {sb s0 s : St} {F0 : Fp} {cs : List Ck}
theorem Hp.rd {K : Kd α} {O : Ow K} {e A c xs} (h : Hp sb s0 F0 s cs) (k : Nat) (hk : getC cs k = Ck.ol O e A c xs) : Rd K s A c xs := by
 obtain ⟨F, h1, _⟩ := h.ck
 have := h1 k
 rw [hk] at this
 exact ol.rd this h.bs
theorem Hp.var {b T} {vs : List Value} (h : Hp sb s0 F0 s cs) (k : Nat) (hk : getC cs k = Ck.ov b vs T) : s.t b = some (vs, T) := by
 obtain ⟨F, h1, _⟩ := h.ck
 have := h1 k
 rw [hk] at this
 exact this.1
theorem Hp.hasv {b T} {vs : List Value} (h : Hp sb s0 F0 s cs) (k : Nat) (hk : getC cs k = Ck.ov b vs T) {i : Nat} {v : Value} (hv : vs[i]? = some v) : s.has ⟨b, i, none⟩ v := ⟨rfl, .inr ⟨_, h.var k hk, hv⟩⟩
theorem Hp.partv {b T} {vs : List Value} (h : Hp sb s0 F0 s cs) (k : Nat) (hk : getC cs k = Ck.ov b vs T) (o : Nat) (ds : List Value) (hd : (vs.drop o).take ds.length = ds) : ∀ j v, ds[j]? = some v → s.has ⟨b, o + j, none⟩ v := fun j v hj => by
 rw [← hd] at hj
 rw [List.getElem?_take] at hj
 split at hj
 ·exact h.hasv k hk (by rw [List.getElem?_drop] at hj; exact hj)
 ·cases hj
theorem Hp.elo {K : Kd α} {O : Ow K} {e' A c} {xs : List α} {i : Int} {u : α} (h : Hp sb s0 F0 s cs) (k : Nat) (hk : getC cs k = Ck.ol O e' A c xs) (hrd : rd? xs i = some u) : ∃ b o cs1, A = some ⟨b, o, none⟩ ∧ K.rep s cs1 u ∧ (∀ j v, cs1[j]? = some v → s.has ⟨b, o + i.toNat * K.sz + j, none⟩ v) ∧
  ∀ {P : Program} {ro : Bool} {l : List Value} {d : Option Tmp} {ty : TypeId} {pos : String} {af : Array Edge} {gd : Option (Nat × Bool)} {x ix : Operand} {t e : TypeId} {z : Value} {by_ : Nat} {k : IntKind} {Kl : List Value → St → Prop} (s' : St),
   evL l x = .slice A xs.length c → evL l ix = .int k i → P.underlying t = some (.slice e) → TI P e z K.sz by_ → Kl (yh l d (.pointer (some ⟨b, o + i.toNat * K.sz, none⟩))) s' → HO P ro ⟨d, .indexAddr t x ix, ty, pos, af, gd⟩ l s' Kl := by
 obtain ⟨h0, h1, h2⟩ := rd?_some hrd
 have hr := h.rd k hk
 have hlt : i.toNat < xs.length := by omega
 obtain ⟨b, o, rfl, hc⟩ := hr.2.2 (fun e' => by rw [e'] at hlt; simp at hlt)
 obtain ⟨cs1, r1, r2⟩ := hc i.toNat u h2
 refine ⟨b, o, cs1, rfl, r1, fun j v hj => ⟨rfl, .inl (r2 j v hj)⟩, ?_⟩
 intros
 rename_i hx hi hu ht h
 refine o_iaddr hx hi hu ht h0 h1 ?_
 rw [addp]
 exact h
theorem Hp.own (h : Bs sb s) : Hp sb s no s [] := ⟨Fr.refl _ _, h, fun _ => no, fun _ => trivial, fun _ _ _ _ h => h.elim, fun _ _ h => h.elim⟩
theorem Hp.back0 {sb' s' : St} {ds : List Ck} (h : Hp sb s0 F0 s cs) (hD : Hp sb' s no s' ds) (hu : Up no sb sb' s) : Hp sb' s0 F0 s' (addC cs ds) := by
 obtain ⟨F1, hA, hB⟩ := h.take [] List.nodup_nil
 refine hB sb' s' ds ⟨hu.g, hu.o, fun b y hb => (hu.new b y hb).elim .inl fun h => h.elim (fun h => h.elim) fun h => .inr (.inr h)⟩ ⟨hD.fr.weak (fun _ h => h.elim), hD.bs, ?_⟩
 obtain ⟨D, d1, d2, d3⟩ := hD.ck
 exact ⟨D, d1, d2, fun i b hb => have := d3 i b hb; ⟨this.dom, this.g, this.sb, .inr (this.new.elim (fun h => h.elim) id)⟩⟩
theorem Hp.back0T {sb' s' : St} {ds : List Ck} [hf : AllFree ds] (h : Hp sb s0 F0 s cs) (hD : Hp sb' s no s' ds) : Hp sb s0 F0 s' (addC cs ds) := by
 obtain ⟨F1, sx, _, _, hA, hB⟩ := h.takeT [] List.nodup_nil
 refine hB sb' s' ds hf ⟨hD.fr.weak (fun _ h => h.elim), hD.bs, ?_⟩
 obtain ⟨D, d1, d2, d3⟩ := hD.ck
 exact ⟨D, d1, d2, fun i b hb => have := d3 i b hb; ⟨this.dom, this.g, this.sb, .inr (this.new.elim (fun h => h.elim) id)⟩⟩
theorem Fr.gro {s' : St} (h : Fr no s s') : Gro s s' :=
 ⟨fun b i v hb => hb.elim (fun ⟨cs, h1, h2⟩ => .inl ⟨cs, (h.g b).trans h1, h2⟩) (fun ⟨y, h1, h2⟩ => .inr ⟨y, h.o b y (fun h => h) h1, h2⟩), ⟨fun b y hn => (hn trivial).elim, fun b y _ hb => h.t b y (fun h => h) hb, fun b y hb => h.x b y (fun h => h) hb, h.g, h.dom⟩⟩
theorem Hp.gro {sb' s' : St} {ds : List Ck} (h : Hp sb' s no s' ds) : Gro s s' := h.fr.gro
theorem Hp.nil {K : Kd α} (h : Hp sb s0 F0 s cs) (O : Ow K) (e : TypeId) : Hp sb s0 F0 s (addC cs [Ck.ol O e none 0 []]) := h.new (F' := no) (Fr.refl _ _) (fun _ h => h.elim) (.inl ⟨rfl, rfl⟩)
theorem ol.cut {K : Kd α} {O : Ow K} {e A c xs F} {lo hi : Nat} (h : ol O e A c xs sb s F) (h1 : lo ≤ hi) (h2 : hi ≤ xs.length) : ol O e (if lo < c then A.map (fun a => a.add (lo * K.sz)) else A) (c - lo) ((xs.take hi).drop lo) sb s F := by
 rcases h with ⟨rfl, rfl⟩ | ⟨b, o, y, rfl, a2, a3, a4, a5, a6, a7, a8, FE, b1, b2, b3⟩
 ·exact .inl ⟨by simp, by simp⟩
 ·by_cases hlo : lo < c
  ·rw [if_pos hlo]
   have hmul : (c - lo) * K.sz + lo * K.sz = c * K.sz := by rw [← Nat.add_mul, Nat.sub_add_cancel (Nat.le_of_lt hlo)]
   have hlen : ((xs.take hi).drop lo).length = hi - lo := by simp; omega
   refine .inr ⟨b, o + lo * K.sz, y, by simp [addp], a2, a3, a4, by omega, by omega, by omega, ?_, fun i => FE (lo + i), fun i x hx => ?_, fun i j hij => b2 _ _ (by omega), fun i b hb => b3 _ b hb⟩
   ·rw [hlen]
    have h3 : (hi - lo) * K.sz + lo * K.sz = hi * K.sz := by rw [← Nat.add_mul, Nat.sub_add_cancel h1]
    have h4 := Nat.mul_le_mul_right K.sz h2
    omega
   ·rw [List.getElem?_drop, List.getElem?_take] at hx
    split at hx
    ·have := b1 _ x hx
     rwa [Nat.add_mul, ← Nat.add_assoc] at this
    ·cases hx
  ·rw [if_neg hlo]
   have : hi = lo := by omega
   subst this
   refine .inl ⟨by omega, List.eq_nil_of_length_eq_zero (by simp)⟩
end
end Go.Proofs.GL

