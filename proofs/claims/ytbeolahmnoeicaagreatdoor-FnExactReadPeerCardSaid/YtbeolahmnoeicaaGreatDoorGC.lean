/- A logic of what is known of memory, over the kit's weakest preconditions: one part. No conditions: lemmas. -/
import Derived.Test.YtbeolahmnoeicaaGreatDoorGB
set_option linter.unusedVariables false
set_option linter.unusedSimpArgs false
namespace Go.Proofs.GL
open Go
section
variable {α β : Type} {sb s0 s : St} {F0 : Fp} {cs : List Ck}
theorem Rd.cells2 {K : Kd α} {A c xs} (h : Rd K sb A c xs) (hm : Mono sb s) : ∃ vs : List Value, vs.length = xs.length * K.sz ∧ (∀ v ∈ vs, isCell v = true) ∧ (∀ i x, xs[i]? = some x → K.rep sb ((vs.drop (0 + i * K.sz)).take K.sz) x) ∧ (xs ≠ [] → ∃ b o, A = some ⟨b, o, none⟩ ∧ ∀ j v, vs[j]? = some v → s.has ((⟨b, o, none⟩ : Addr).add j) v) := by
 obtain ⟨vs, h1, h2, h3, h4⟩ := h.cells
 by_cases hn : xs = []
 ·exact ⟨vs, h1, h2, fun i x hx => by rw [Nat.zero_add]; exact h3 i x hx, fun h => absurd hn h⟩
 obtain ⟨b, o, hA, hc⟩ := h.2.2 hn
 have key : ∀ (ys : List α) (k : Nat), (∀ i x, ys[i]? = some x → ∃ cs, K.rep sb cs x ∧ ∀ j v, cs[j]? = some v → sb.row b (o + (k + i) * K.sz + j) v) →
   ∃ cs : List Value, cs.length = ys.length * K.sz ∧ (∀ v ∈ cs, isCell v = true) ∧ (∀ i x, ys[i]? = some x → K.rep sb ((cs.drop (i * K.sz)).take K.sz) x) ∧ ∀ j v, cs[j]? = some v → sb.row b (o + k * K.sz + j) v := by
  intro ys
  induction ys with
  | nil => intro k _; exact ⟨[], by simp, by simp, by simp, by simp⟩
  | cons y ys ih =>
   intro k hh
   obtain ⟨c1, r1, f1⟩ := hh 0 y rfl
   obtain ⟨c2, l2, o2, r2, f2⟩ := ih (k + 1) (fun i x hx => by
    obtain ⟨cs, a1, a2⟩ := hh (i + 1) x (by simpa using hx)
    exact ⟨cs, a1, fun j v hj => by have := a2 j v hj; rwa [show k + (i + 1) = k + 1 + i by omega] at this⟩)
   have l1 := K.len r1
   refine ⟨c1 ++ c2, by simp [l1, l2, Nat.add_mul]; omega, ?_, ?_, ?_⟩
   ·intro v hv
    rcases List.mem_append.1 hv with hv | hv
    ·exact K.one r1 v hv
    ·exact o2 v hv
   ·intro i x hx
    cases i with
    | zero =>
     have : y = x := by simpa using hx
     subst this
     simpa [← l1] using r1
    | succ i =>
     have e : (i + 1) * K.sz = c1.length + i * K.sz := by rw [l1, Nat.add_mul]; omega
     rw [e, List.drop_append, List.drop_eq_nil_of_le (by omega), List.nil_append, Nat.add_sub_cancel_left]
     exact r2 i x (by simpa using hx)
   ·intro j v hj
    by_cases hjl : j < c1.length
    ·rw [List.getElem?_append_left hjl] at hj
     have := f1 j v hj
     simpa using this
    ·rw [List.getElem?_append_right (by omega)] at hj
     have := f2 _ v hj
     have e : o + (k + 1) * K.sz + (j - c1.length) = o + k * K.sz + j := by
      rw [l1] at hjl ⊢
      rw [Nat.add_mul]
      omega
     rwa [e] at this
 obtain ⟨vs, g1, g2, g3, g4⟩ := key xs 0 (fun i x hx => by simpa using hc i x hx)
 refine ⟨vs, g1, g2, fun i x hx => by rw [Nat.zero_add]; exact g3 i x hx, fun _ => ⟨b, o, hA, fun j v hj => ?_⟩⟩
 rw [addp]
 exact ⟨rfl, .inl (hm _ _ _ (by simpa using g4 j v hj))⟩
def Src {K : Kd α} (O : Ow K) (sb s : St) (FY : Fp) (B : Option Addr) (c2 : Nat) (ys : List α) : Prop :=
 ys.length ≤ c2 ∧ ∃ vs : List Value, vs.length = ys.length * K.sz ∧ (∀ v ∈ vs, isCell v = true) ∧ (ys ≠ [] → ∃ b o, B = some ⟨b, o, none⟩ ∧ ∀ j v, vs[j]? = some v → s.has ((⟨b, o, none⟩ : Addr).add j) v) ∧ els O sb s FY vs 0 ys
class Ow.Fl {K : Kd α} (O : Ow K) : Prop where
 fl : ∀ {sb s cs x}, K.rep s cs x → O.own sb s no cs x
instance {K : Kd α} (hf : K.Flat) : (Ow.flat hf).Fl := ⟨fun h => h⟩
instance {K : Kd α} {L : Kd β} (O : Ow K) (O' : Ow L) [O.Fl] [O'.Fl] : (O.pair O').Fl := ⟨fun ⟨c1, c2, h, h1, h2⟩ => ⟨c1, c2, h, no, no, fun _ h => h.elim, fun _ h => h, fun _ h => h, Ow.Fl.fl h1, Ow.Fl.fl h2⟩⟩
theorem Src.flat {K : Kd α} {O : Ow K} [O.Fl] {B c2 ys} (h : Rd K s B c2 ys) : Src O sb s no B c2 ys := by
 obtain ⟨vs, h1, h2, h3, h4⟩ := h.cells2 (Mono.refl s)
 exact ⟨h.1, vs, h1, h2, h4, fun _ => no, fun i x hx => Ow.Fl.fl (h3 i x hx), fun _ _ _ _ h => h.elim, fun _ _ h => h.elim⟩
theorem Src.lent {K : Kd α} {B c2 ys} (hb : Bs sb s) (h : Rd K sb B c2 ys) : Src (Ow.lent K) sb s no B c2 ys := by
 obtain ⟨vs, h1, h2, h3, h4⟩ := h.cells2 hb.mono
 exact ⟨h.1, vs, h1, h2, h4, fun _ => no, fun i x hx => h3 i x hx, fun _ _ _ _ h => h.elim, fun _ _ h => h.elim⟩
theorem Src.own {K : Kd α} {O : Ow K} {e B c2 ys F} (hp : 0 < K.sz) (hb : Bs sb s) (h : ol O e B c2 ys sb s F) : Src O sb s F B c2 ys := by
 rcases h with ⟨rfl, rfl⟩ | ⟨b, o, y, rfl, a2, a3, a4, a5, a6, a7, a8, FE, b1, b2, b3⟩
 ·exact ⟨Nat.le_refl _, [], by simp, by simp, fun h => absurd rfl h, fun _ => no, by simp, fun _ _ _ _ h => h.elim, fun _ _ h => h.elim⟩
 ·have hpart : ∀ i x, ys[i]? = some x → ((((y.cs.drop o).take (ys.length * K.sz)).drop (0 + i * K.sz)).take K.sz) = (y.cs.drop (o + i * K.sz)).take K.sz := fun i x hx => by
   have hi := (List.getElem?_eq_some_iff.1 hx).1
   have hm : i * K.sz + K.sz ≤ ys.length * K.sz := by rw [← Nat.succ_mul]; exact Nat.mul_le_mul_right _ hi
   apply List.ext_getElem?
   intro j
   simp only [List.getElem?_take, List.getElem?_drop]
   split
   ·rw [if_pos (by omega)]
    congr 1
    omega
   ·rfl
  refine ⟨a6, (y.cs.drop o).take (ys.length * K.sz), by simp; omega, fun v hv => ?_, fun _ => ⟨b, o, rfl, fun j v hj => ?_⟩, FE, fun i x hx => ?_, b2, fun i k hk => (b3 i k hk).1⟩
  ·obtain ⟨j, hj⟩ := List.getElem?_of_mem hv
   rw [List.getElem?_take] at hj
   split at hj
   ·rename_i hjl
    rw [List.getElem?_drop] at hj
    have hi : j / K.sz < ys.length := by
     rw [Nat.div_lt_iff_lt_mul hp]; exact hjl
    have hr := O.rep (b1 (j / K.sz) _ (List.getElem?_eq_getElem hi)) hb
    refine K.one hr v (List.mem_of_getElem? (i := j % K.sz) ?_)
    rw [List.getElem?_take, if_pos (Nat.mod_lt _ hp), List.getElem?_drop, ← hj]
    congr 1
    have := Nat.div_add_mod j K.sz
    rw [Nat.mul_comm] at this
    omega
   ·cases hj
  ·rw [addp]
   rw [List.getElem?_take] at hj
   split at hj
   ·rw [List.getElem?_drop] at hj
    exact ⟨rfl, .inl (.inr ⟨y, a2, hj⟩)⟩
   ·cases hj
  ·rw [hpart i x hx]; exact b1 i x hx
variable {P : Program} {ro : Bool}
theorem GOk_first {K : Kd α} {O : Ow K} {FY A c xs} (h : Src O sb s FY A c xs) {KU : Array Value → St → Prop} (n : Nat) (hn : n = xs.length) (hk : ∀ vs : List Value, vs.length = xs.length * K.sz → (∀ v ∈ vs, isCell v = true) → els O sb s FY vs 0 xs → KU vs.toArray s) :
  GOk P ro (Builtin.firstCells K.sz n (.slice A xs.length c)) s KU := by
 subst hn
 obtain ⟨_, vs, h1, h2, h3, h4⟩ := h
 by_cases hx : xs = []
 ·subst hx
  obtain rfl : vs = [] := List.eq_nil_of_length_eq_zero (by simpa using h1)
  cases A with
  | none => exact hk [] (by simp) (by simp) h4
  | some a =>
   unfold Builtin.firstCells
   refine GOk_loadCells (cs := []) (by simp) (by simp) (hk [] (by simp) (by simp) h4)
 ·obtain ⟨b, o, rfl, h5⟩ := h3 hx
  unfold Builtin.firstCells
  exact GOk_loadCells h1.symm h5 (hk vs h1 h2 h4)
theorem els.app {K : Kd α} {O : Ow K} {s' : St} {F1 FY F' G : Fp} {c0 vs c1 : List Value} {o o' : Nat} {xs ys : List α} (h1 : els O sb s F1 c0 o xs) (h2 : els O sb s FY vs 0 ys) (he : Eqo G s s') (hd : Dj F1 FY) (g1 : ∀ b, F1 b → ¬ G b) (g2 : ∀ b, FY b → ¬ G b) (f1 : ∀ b, F1 b → F' b) (f2 : ∀ b, FY b → F' b)
  (hc0 : ∀ i, i < xs.length → (c1.drop (o' + i * K.sz)).take K.sz = (c0.drop (o + i * K.sz)).take K.sz) (hc1 : ∀ i, i < ys.length → (c1.drop (o' + (xs.length + i) * K.sz)).take K.sz = (vs.drop (0 + i * K.sz)).take K.sz) : els O sb s' F' c1 o' (xs ++ ys) := by
 obtain ⟨FE, a1, a2, a3⟩ := h1
 obtain ⟨FZ, b1, b2, b3⟩ := h2
 refine ⟨fun i => if i < xs.length then FE i else FZ (i - xs.length), fun i x hx => ?_, fun i j hij b hb hb' => ?_, fun i b hb => ?_⟩
 ·by_cases hi : i < xs.length
  ·rw [List.getElem?_append_left hi] at hx
   rw [hc0 i hi]
   simp only [hi, if_true]
   exact O.fr (a1 i x hx) he fun b hb => g1 b (a3 i b hb)
  ·rw [List.getElem?_append_right (by omega)] at hx
   have hi2 := (List.getElem?_eq_some_iff.1 hx).1
   have := hc1 (i - xs.length) hi2
   rw [show xs.length + (i - xs.length) = i by omega] at this
   rw [this]
   simp only [hi, if_false]
   exact O.fr (b1 _ x hx) he fun b hb => g2 b (b3 _ b hb)
 ·dsimp only at hb hb'
  split at hb
  ·split at hb'
   ·exact a2 i j hij b hb hb'
   ·exact hd b (a3 i b hb) (b3 _ b hb')
  ·split at hb'
   ·exact hd b (a3 j b hb') (b3 _ b hb)
   ·exact b2 _ _ (by omega) b hb hb'
 ·dsimp only at hb
  split at hb
  ·exact f1 b (a3 i b hb)
  ·exact f2 b (b3 _ b hb)
theorem o_appC {K : Kd α} {O : Ow K} {Kl : List Value → St → Prop} {l : List Value} {d : Option Tmp} {ty : TypeId} {pos : String} {af : Array Edge} {gd : Option (Nat × Bool)} {x y : Operand} {t e : TypeId} {z : Value} {by_ : Nat} {A B : Option Addr} {c c2 : Nat} {xs ys : List α} {F1 FY : Fp}
  (hx : evL l x = .slice A xs.length c) (hy : evL l y = .slice B ys.length c2) (hu : P.underlying t = some (.slice e)) (ht : TI P e z K.sz by_) (hz : z.cells.size = K.sz) (hpos : 0 < K.sz) (hby : 0 < by_) (hb : Bs sb s) (ho : ol O e A c xs sb s F1) (hg : ∀ b, F1 b → s.g b = none ∧ s.dom b = true) (hr : Src O sb s FY B c2 ys) (hgY : ∀ b, FY b → s.dom b = true) (hd : Dj F1 FY) (hl : (xs.length + ys.length) * by_ ≤ 140737488355328)
  (h : ∀ A' c' s' F', ol O e A' c' (xs ++ ys) sb s' F' → Fr F1 s s' → (∀ b, F' b → F1 b ∨ FY b ∨ s.fresh b ∧ s'.dom b = true) → Kl (yh l d (.slice A' (xs ++ ys).length c')) s') : HO P false ⟨d, .call { callee := .builtin .append, args := #[x, y], argTypes := #[t, t] }, ty, pos, af, gd⟩ l s Kl := by
 have hlen : xs.length + ys.length ≤ 140737488355328 := Nat.le_trans (Nat.le_mul_of_pos_right _ hby) hl
 obtain ⟨i, hi, hi1, hi2, hi3⟩ := ht.get
 unfold HO execOp
 simp only [resolve, y5, y8, invoke, builtin, Builtin.append_]
 simp only [List.map_toArray, List.map_cons, List.map_nil, hx, hy, List.getElem?_toArray, List.getElem?_cons_zero, List.getElem?_cons_succ, y5, yb hu, y8, GOk_sizeOf ht, Builtin.lenOf, Bool.false_eq_true, if_false]
 by_cases hfit : xs.length + ys.length ≤ c
 ·simp only [hfit, if_true, y5]
  refine GOk_first hr _ rfl (fun vs h1 h2 h3 => ?_)
  by_cases hcz : c = 0
  ·subst hcz
   obtain rfl : xs = [] := List.eq_nil_of_length_eq_zero (by omega)
   have : ys = [] := by
    apply List.eq_nil_of_length_eq_zero
    simpa using hfit
   subst this
   obtain rfl : vs = [] := List.eq_nil_of_length_eq_zero (by simpa using h1)
   cases A with
   | none =>
    simp only [y8]
    exact h none 0 s no (.inl ⟨rfl, rfl⟩) (Fr.refl _ _) (fun _ h => h.elim)
   | some a =>
    simp only [y5]
    unfold storeCells
    simp only [y8]
    exact h (some a) 0 s no (.inl ⟨rfl, rfl⟩) (Fr.refl _ _) (fun _ h => h.elim)
  rcases ho with ⟨hcz', _⟩ | ⟨b, o, y, rfl, hob, hye, hF, hroom, hc0, hm0, hl0, hE⟩
  ·exact absurd hcz' hcz
  ·simp only [y5]
   rw [addp]
   have hmul : (xs.length + ys.length) * K.sz ≤ c * K.sz := Nat.mul_le_mul_right _ hfit
   rw [Nat.add_mul] at hmul
   refine GOk_storeC (KU := fun _ s' => GOk P false (pure (.slice (some ⟨b, o, none⟩) (xs.length + ys.length) c) : Sem Value) s' _) vs y 0 s hob (hg b hF).1 (by omega) (by rw [h1]; omega) h2 ?_
   simp only [y8, Nat.add_zero]
   have hb2 : ∀ k, FY k → k ≠ b := fun k hk e => hd b hF (e ▸ hk)
   have := h (some ⟨b, o, none⟩) c (s.setO b { y with cs := spl y.cs (o + xs.length * K.sz) vs }) (fun k => F1 k ∨ FY k) (.inr ⟨b, o, { y with cs := spl y.cs (o + xs.length * K.sz) vs }, rfl, by simp [St.setO], hye, .inl hF, hroom, by rw [List.length_append]; exact hfit, hm0, ?_, ?_⟩) ((Fr.setO _).weak fun k hk => hk ▸ hF) (fun k hk => hk.elim .inl fun h => .inr (.inl h))
   ·rw [List.length_append] at this
    exact this
   ·show _ ≤ (spl _ _ _).length
    rw [spl_len hl0, h1, List.length_append, Nat.add_mul]
    omega
   ·refine hE.app h3 (G := fun k => k = b) (s' := s.setO b { y with cs := spl y.cs (o + xs.length * K.sz) vs }) (Fr.setO _).toEqo (fun k hk hk' => hd k hk.1 hk') (fun k hk => hk.2) (fun k hk => hb2 k hk) (fun k hk => ⟨.inl hk.1, hk.2⟩) (fun k hk => ⟨.inr hk, hb2 k hk⟩) (fun i hi => ?_) (fun i hi => ?_)
    ·have : i * K.sz + K.sz ≤ xs.length * K.sz := by rw [← Nat.succ_mul]; exact Nat.mul_le_mul_right _ hi
     exact spl_part hl0 _ _ (.inl (by omega))
    ·have : i * K.sz + K.sz ≤ ys.length * K.sz := by rw [← Nat.succ_mul]; exact Nat.mul_le_mul_right _ hi
     rw [Nat.zero_add, Nat.add_mul, ← Nat.add_assoc]
     exact spl_at hl0 _ _ (by omega)
 ·simp only [hfit, if_false, y5, GOk_typeInfo hi, hi3]
  have n2 : ¬ (Builtin.nextslicecap (xs.length + ys.length) c * by_ > 2 ^ 48) := by
   have := growslice_fits (need := xs.length + ys.length) (old := c) (bytes := by_) (by omega) hl
   have e2 : (2 : Nat) ^ 48 = 281474976710656 := by decide
   omega
  have n1 : ¬ (((xs.length + ys.length : Nat) : Int) > IntKind.i64.max ∧ (False ∨ by_ = 0)) := by
   rintro ⟨_, h | h⟩
   ·exact h
   ·omega
  rw [if_neg n1]
  simp only [y5, GOk_typeInfo hi, hi3, if_neg n2]
  unfold choose
  refine (show _ ∧ ∀ n, _ from ⟨rfl, fun n => ?_⟩ : GOk P false (Sem.choose (Question.appendCap (xs.length + ys.length) c e) Sem.pure) s _)
  show GOk P false (Sem.pure (xs.length + ys.length + n % (2 ^ 63 - (xs.length + ys.length)))) s _
  generalize hnc : xs.length + ys.length + n % (2 ^ 63 - (xs.length + ys.length)) = nc
  have hnc1 : xs.length + ys.length ≤ nc := by omega
  have hnc2 : nc ≤ maxN := by
   have : n % (2 ^ 63 - (xs.length + ys.length)) < 2 ^ 63 - (xs.length + ys.length) := Nat.mod_lt _ (by omega)
   unfold maxN
   omega
  simp only [GOk_pure', y5]
  refine GOk_askRoom ?_
  refine GOk_first (Src.own hpos hb ho) _ rfl (fun c1 a1 a2 a3 => ?_)
  simp only [Bool.not_false, if_true]
  refine GOk_first hr _ rfl (fun c3 b1 b2 b3 => ?_)
  simp only [GOk_zeroValue ht, newRow, newObj, y5]
  refine ⟨rfl, some ((xs.length + ys.length) * K.sz), fun b hbf => ?_⟩
  simp only [y8, GOk_pure']
  have hcs : ((c1.toArray ++ c3.toArray ++ Builtin.zeroCells z.cells (nc - (xs.length + ys.length))).toList).take ((xs.length + ys.length) * K.sz) = c1 ++ c3 := by
   simp only [Array.toList_append, List.toList_toArray]
   rw [List.take_append_of_le_length (by simp [a1, b1, Nat.add_mul])]
   exact List.take_of_length_le (by simp [a1, b1, Nat.add_mul])
  have hsz : (c1.toArray ++ c3.toArray ++ Builtin.zeroCells z.cells (nc - (xs.length + ys.length))).size = nc * K.sz := by
   simp only [Array.size_append, List.size_toArray, Builtin.zeroCells, Array.size_map, Array.size_range, a1, b1, hz]
   rw [← Nat.add_mul, ← Nat.add_mul, Nat.add_sub_cancel' hnc1]
  show Kl (yh l d (.slice (some ⟨b, 0, none⟩) (xs.length + ys.length) nc)) (s.setO b ⟨_, _, e⟩)
  rw [hcs, hsz]
  have hnb : ∀ k, s.dom k = true → k ≠ b := fun k hk e => by rw [e, fresh_dom hbf] at hk; cases hk
  have := h (some ⟨b, 0, none⟩) nc (s.setO b ⟨c1 ++ c3, nc * K.sz, e⟩) (fun k => F1 k ∨ FY k ∨ k = b) (.inr ⟨b, 0, ⟨c1 ++ c3, nc * K.sz, e⟩, rfl, by simp [St.setO], rfl, .inr (.inr rfl), by simp, by rw [List.length_append]; exact hnc1, hnc2, ?_, ?_⟩) ((Fr.newO hbf _).weak fun _ h => h.elim) (fun k hk => hk.elim .inl fun h => h.elim (fun h => .inr (.inl h)) fun h => .inr (.inr ⟨h ▸ hbf, by rw [h]; simp [St.dom, St.setO]⟩))
  ·rw [List.length_append] at this
   exact this
  ·simp [a1, b1, Nat.add_mul]
  ·refine a3.app b3 (G := no) (s' := s.setO b ⟨c1 ++ c3, nc * K.sz, e⟩) (Fr.newO hbf _).toEqo hd (fun _ _ h => h) (fun _ _ h => h) (fun k hk => ⟨.inl hk, hnb k (hg k hk).2⟩) (fun k hk => ⟨.inr (.inl hk), hnb k (hgY k hk)⟩) (fun i hi => ?_) (fun i hi => ?_)
   ·have : i * K.sz + K.sz ≤ c1.length := by rw [a1, ← Nat.succ_mul]; exact Nat.mul_le_mul_right _ hi
    show (((c1 ++ c3).drop _).take _) = _
    rw [Nat.zero_add, List.drop_append_of_le_length (by omega), List.take_append_of_le_length (by rw [List.length_drop]; omega)]
   ·show (((c1 ++ c3).drop _).take _) = _
    have e1 : 0 + (xs.length + i) * K.sz = c1.length + i * K.sz := by rw [a1, Nat.add_mul]; omega
    rw [e1, List.drop_append, List.drop_eq_nil_of_le (by omega), List.nil_append, Nat.add_sub_cancel_left, Nat.zero_add]
section
variable {Kl : List Value → St → Prop} {l : List Value} {d : Option Tmp} {ty : TypeId} {pos : String} {af : Array Edge} {gd : Option (Nat × Bool)}
theorem o_appF {K : Kd α} {O : Ow K} {x y : Operand} {t e : TypeId} {z : Value} {by_ n : Nat} {A B : Option Addr} {c c2 : Nat} {xs ys zs : List α} (hH : Hp sb s0 F0 s cs) (i : Nat) (hi : Nat.blt i cs.length = true) (hk : getC cs i = Ck.ol O e A c xs)
  (hx : evL l x = .slice A xs.length c) (hy : evL l y = .slice B ys.length c2) (hu : P.underlying t = some (.slice e)) (ht : TI P e z K.sz by_) (hz : z.cells.size = K.sz) (hpos : 0 < K.sz) (hby : 0 < by_) (hn : n * by_ ≤ 140737488355328) (hr : Src O sb s no B c2 ys) (hl : app? n xs ys = some zs)
  (h : ∀ A' c' s', Hp sb s0 F0 s' (setC cs i (Ck.ol O e A' c' zs)) → Kl (yh l d (.slice A' zs.length c')) s') : HO P false ⟨d, .call { callee := .builtin .append, args := #[x, y], argTypes := #[t, t] }, ty, pos, af, gd⟩ l s Kl := by
 obtain ⟨h1, rfl⟩ := app?_some hl
 obtain ⟨Fi, g1, g2, g3⟩ := hH.upd i (Nat.le_of_ble_eq_true hi)
 rw [hk] at g1
 exact o_appC hx hy hu ht hz hpos hby hH.bs g1 (fun b hb => ⟨(g2 b hb).g, (g2 b hb).dom⟩) hr (fun _ h => h.elim) (fun _ _ h => h) (Nat.le_trans (Nat.mul_le_mul_right _ h1) hn) fun A' c' s' F' k1 k2 k3 => h A' c' s' (g3 s' _ F' k2 (fun b hb => (k3 b hb).elim .inl fun h => h.elim (fun h => h.elim) .inr) k1)
end
end
end Go.Proofs.GL

