/- A logic of what is known of memory, over the kit's weakest preconditions: one part. No conditions: lemmas. -/
import Derived.Test.YtbeolahmnoeicaaGreatDoorGC
set_option linter.unusedVariables false
set_option linter.unusedSimpArgs false
namespace Go.Proofs.GL
open Go
section
variable {α β : Type} {sb s0 s : St} {F0 : Fp} {cs : List Ck}
variable {P : Program} {ro : Bool} {Kl : List Value → St → Prop} {l : List Value} {d : Option Tmp} {ty : TypeId} {pos : String} {af : Array Edge} {gd : Option (Nat × Bool)}
def elsL {K : Kd α} (O : Ow K) : List (List Value) → List α → List Ck
 | v :: vs, x :: xs => Ck.el O v x :: elsL O vs xs
 | _, _ => []
theorem elsL_get {K : Kd α} (O : Ow K) : ∀ (css : List (List Value)) (xs : List α), css.length = xs.length → ∀ i x, xs[i]? = some x → ∃ v, css[i]? = some v ∧ getC (elsL O css xs) i = Ck.el O v x
 | [], [], _, i, x, h => by simp at h
 | c :: css, y :: xs, hl, 0, x, h => by
  obtain rfl : y = x := by simpa using h
  exact ⟨c, by simp, by simp [elsL, getC]⟩
 | c :: css, y :: xs, hl, i + 1, x, h => by
  obtain ⟨v, h1, h2⟩ := elsL_get O css xs (by simpa using hl) i x (by simpa using h)
  exact ⟨v, by simpa using h1, by simpa [elsL, getC] using h2⟩
theorem Hp.newO {K : Kd α} (h : Hp sb s0 F0 s cs) (J : List Nat) (hJ : J.Nodup) {O : Ow K} (css : List (List Value)) (xs : List α) (hsel : selC cs J = elsL O css xs) (hlen : css.length = xs.length) (hsz : ∀ c ∈ css, c.length = K.sz) (e : TypeId) {b : Nat} (hb : s.fresh b) (c : Nat) (hc : xs.length ≤ c) (hm : c ≤ maxN) :
  Hp sb s0 F0 (s.setO b ⟨css.flatten, c * K.sz, e⟩) (addC (rmC cs J) [Ck.ol O e (some ⟨b, 0, none⟩) c xs]) := by
 obtain ⟨F1, hA, hB⟩ := h.take J hJ
 refine hB sb _ _ (Up.refl _ _ _) ?_
 obtain ⟨F, h1, h2, h3⟩ := hA.ck
 have hfr := Fr.newO hb ⟨css.flatten, c * K.sz, e⟩
 have hnb : ∀ i k, F i k → k ≠ b := fun i k hk e => by have := (h3 i k hk).dom; rw [e, fresh_dom hb] at this; cases this
 have hpart : ∀ (css : List (List Value)), (∀ c ∈ css, c.length = K.sz) → css.flatten.length = css.length * K.sz ∧ ∀ i v, css[i]? = some v → (css.flatten.drop (i * K.sz)).take K.sz = v := by
  intro css
  induction css with
  | nil => intro _; exact ⟨by simp, fun i v h => by simp at h⟩
  | cons c css ih =>
   intro hh
   obtain ⟨i1, i2⟩ := ih fun c hc => hh c (by simp [hc])
   have hc := hh c (by simp)
   refine ⟨by rw [List.flatten_cons, List.length_append, i1, hc, List.length_cons, Nat.succ_mul, Nat.add_comm], fun i v hv => ?_⟩
   cases i with
   | zero =>
    obtain rfl : c = v := by simpa using hv
    simp [← hc]
   | succ i =>
    rw [List.flatten_cons, Nat.succ_mul, Nat.add_comm, ← hc, List.drop_append, List.drop_eq_nil_of_le (by omega), List.nil_append, Nat.add_sub_cancel_left, hc]
    exact i2 i v (by simpa using hv)
 obtain ⟨p1, p2⟩ := hpart css hsz
 refine ⟨hfr.weak fun _ h => h.elim, ⟨fun k => hA.bs.g k, fun k y hk => hfr.o k y (fun h => h) (hA.bs.o k y hk)⟩, fun k => if k = 0 then (fun q => (∃ i, F i q) ∨ q = b) else no, fun k => ?_, fun j k hjk q hq hq' => ?_, fun k q hq => ?_⟩
 ·cases k with
  | succ k => exact trivial
  | zero =>
   refine .inr ⟨b, 0, ⟨css.flatten, c * K.sz, e⟩, rfl, by simp [St.setO], rfl, .inr rfl, by simp, hc, hm, by rw [p1, hlen]; simp, F, fun i x hx => ?_, h2, fun i q hq => ⟨.inl ⟨i, hq⟩, hnb i q hq⟩⟩
   obtain ⟨v, g1, g2⟩ := elsL_get O css xs hlen i x hx
   have := h1 i
   rw [hsel, g2] at this
   show O.own sb _ (F i) ((css.flatten.drop (0 + i * K.sz)).take K.sz) x
   rw [Nat.zero_add, p2 i v g1]
   exact O.fr this hfr.toEqo fun _ _ h => h
 ·dsimp only at hq hq'
  split at hq
  ·split at hq'
   ·omega
   ·exact hq'.elim
  ·exact hq.elim
 ·dsimp only at hq
  split at hq
  ·rcases hq with ⟨i, hi⟩ | rfl
   ·have := h3 i q hi
    exact ⟨hfr.dom q this.dom, this.g, this.sb, this.new⟩
   ·exact ⟨by simp [St.dom, St.setO], hb.1, fresh_sb hA.bs hb, .inr (fresh_dom hb)⟩
  ·exact hq.elim
theorem Hp.newF {K : Kd α} (h : Hp sb s0 F0 s cs) {O : Ow K} (vs : List Value) (xs : List α) (hlen : vs.length = xs.length * K.sz) (hE : ∀ i x, xs[i]? = some x → O.own sb s no ((vs.drop (i * K.sz)).take K.sz) x) (e : TypeId) {b : Nat} (hb : s.fresh b) (c : Nat) (hc : xs.length ≤ c) (hm : c ≤ maxN) :
  Hp sb s0 F0 (s.setO b ⟨vs, c * K.sz, e⟩) (addC cs [Ck.ol O e (some ⟨b, 0, none⟩) c xs]) := by
 have hfr := Fr.newO hb ⟨vs, c * K.sz, e⟩
 refine h.new (F' := fun k => k = b) hfr (fun k hk => by subst hk; exact ⟨hb, by simp [St.dom, St.setO]⟩) (.inr ⟨b, 0, ⟨vs, c * K.sz, e⟩, rfl, by simp [St.setO], rfl, rfl, by simp, hc, hm, by simp [hlen], fun _ => no, fun i x hx => ?_, fun _ _ _ _ h => h.elim, fun _ _ h => h.elim⟩)
 rw [Nat.zero_add]
 exact O.fr (hE i x hx) hfr.toEqo fun _ _ h => h
def OwL {K : Kd α} (O : Ow K) (sb s : St) : List (List Value) → List α → Prop
 | [], [] => True
 | c :: cs, x :: xs => c.length = K.sz ∧ O.own sb s no c x ∧ OwL O sb s cs xs
 | _, _ => False
theorem OwL.get {K : Kd α} {O : Ow K} : ∀ {css : List (List Value)} {xs : List α}, OwL O sb s css xs → css.flatten.length = xs.length * K.sz ∧ ∀ i x, xs[i]? = some x → O.own sb s no ((css.flatten.drop (i * K.sz)).take K.sz) x
 | [], [], _ => ⟨by simp, by simp⟩
 | c :: cs, x :: xs, ⟨hl, h1, h2⟩ => by
  obtain ⟨a1, a2⟩ := OwL.get h2
  refine ⟨by rw [List.flatten_cons, List.length_append, a1, hl, List.length_cons, Nat.succ_mul, Nat.add_comm], fun i y hy => ?_⟩
  cases i with
  | zero =>
   obtain rfl : x = y := by simpa using hy
   rw [List.flatten_cons, Nat.zero_mul, List.drop_zero, List.take_append_of_le_length (by omega), List.take_of_length_le (by omega)]
   exact h1
  | succ i =>
   have := a2 i y (by simpa using hy)
   rwa [List.flatten_cons, show (i + 1) * K.sz = c.length + i * K.sz by rw [Nat.succ_mul, hl]; omega, List.drop_append, List.drop_eq_nil_of_le (by omega), List.nil_append, Nat.add_sub_cancel_left]
theorem o_litF {K : Kd α} {O : Ow K} {t e : TypeId} {n : Nat} {parts : Array (Nat × Operand)} {z : Value} {by_ : Nat} {ca : Array Value} (css : List (List Value)) (xs : List α) (hH : Hp sb s0 F0 s cs) (hu : P.underlying t = some (.slice e)) (ht : TI P e z K.sz by_) (hn : Nat.ble (n * K.sz) 16777216 = true) (hz : n * K.sz ≠ 0) (hlen : xs.length = n)
  (hzc : z.cells.size = K.sz) (hc : Instr.fill (fun i => some (i * K.sz, K.sz)) ((List.replicate n z.cells.toList).flatten).toArray (parts.toList.map fun p => (p.1, evL l p.2)) = some ca) (hcs : ca.toList = css.flatten) (hr : OwL O sb s css xs)
  (h : ∀ A s', Hp sb s0 F0 s' (addC cs [Ck.ol O e A n xs]) → Gro s s' → Kl (yh l d (.slice A n n)) s') : HO P false ⟨d, .buildSlice t n parts, ty, pos, af, gd⟩ l s Kl := by
 obtain ⟨h1, h2⟩ := hr.get
 have hn' := Nat.le_of_ble_eq_true hn
 rw [← zcells z.cells n K.sz hzc] at hc
 refine o_lit hu ht hn' hz hc (fun b hb => ?_)
 have hs : ca.size = n * K.sz := by rw [← Array.length_toList, hcs, h1, hlen]
 rw [hs, hcs]
 have hnn : n ≤ n * K.sz := Nat.le_mul_of_pos_right _ (by rcases Nat.eq_zero_or_pos K.sz with h | h; exact absurd (by rw [h, Nat.mul_zero]) hz; exact h)
 exact h _ _ (hH.newF css.flatten xs h1 h2 e hb n (by omega) (by unfold maxN; omega)) (Fr.newO hb _).gro
theorem o_lit0H {K : Kd α} {O : Ow K} {t e : TypeId} {z : Value} {by_ : Nat} (hH : Hp sb s0 F0 s cs) (hu : P.underlying t = some (.slice e)) (ht : TI P e z K.sz by_)
  (h : ∀ A s', Hp sb s0 F0 s' (addC cs [Ck.ol O e A 0 ([] : List α)]) → Gro s s' → Kl (yh l d (.slice A 0 0)) s') : HO P false ⟨d, .buildSlice t 0 #[], ty, pos, af, gd⟩ l s Kl :=
 o_lit0 hu ht fun b hb => h _ _ (by simpa using hH.newF (O := O) [] ([] : List α) (by simp) (by simp) e hb 0 (Nat.le_refl _) (Nat.zero_le _)) (Fr.newO hb _).gro
end
end Go.Proofs.GL

