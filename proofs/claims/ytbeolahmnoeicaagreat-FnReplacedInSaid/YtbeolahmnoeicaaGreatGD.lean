/- A logic of what is known of memory, over the kit's weakest preconditions: one part. No conditions: lemmas. -/
import Derived.Test.YtbeolahmnoeicaaGreatGC
set_option linter.unusedVariables false
set_option linter.unusedSimpArgs false
namespace Go.Proofs.GL
open Go
section
variable {α β : Type} {sb s0 s : St} {F0 : Fp} {cs : List Ck}
variable {P : Program} {ro : Bool} {Kl : List Value → St → Prop} {l : List Value} {d : Option Tmp} {ty : TypeId} {pos : String} {af : Array Edge} {gd : Option (Nat × Bool)}
theorem o_makeC {K : Kd α} {x : Operand} {t e : TypeId} {z : Value} {by_ n : Nat} {m : Int} {x0 : α} {zs : List α} (hx : evL l x = .int .i64 m) (hu : P.underlying t = some (.slice e)) (ht : TI P e z K.sz by_) (hz : z.cells.size = K.sz) (hpos : 0 < K.sz) (hby : 0 < by_) (hn : n * by_ ≤ 140737488355328) (hm : mk? n x0 m = some zs)
  (h : ∀ b k : Nat, k ≤ n → m = k → zs = List.replicate k x0 → s.fresh b → Kl (yv l d (.slice (some ⟨b, 0, none⟩) k k)) (s.setO b ⟨(List.replicate k z.cells.toList).flatten, k * K.sz, e⟩)) : HO P false ⟨d, .makeSlice t x x, ty, pos, af, gd⟩ l s Kl := by
 obtain ⟨⟨h0, h1⟩, rfl⟩ := mk?_some hm
 obtain ⟨i, hi, hi1, hi2, hi3⟩ := ht.get
 have hnn : n ≤ 140737488355328 := Nat.le_trans (Nat.le_mul_of_pos_right _ hby) hn
 obtain ⟨k, rfl⟩ := Int.eq_ofNat_of_zero_le h0
 have hk : k ≤ n := by omega
 have hw : IntKind.i64.wrap (k : Int) = k := by rw [IntKind.wrap_i64]; omega
 have hb : by_ * k ≤ 140737488355328 := by
  rw [Nat.mul_comm]
  exact Nat.le_trans (Nat.mul_le_mul_right _ hk) hn
 have hb' : ¬ ((by_ : Int) * (k : Int) > 2 ^ 48) := by
  have e2 : (2 : Int) ^ 48 = 281474976710656 := by rfl
  have := Int.ofNat_le.2 hb
  rw [e2, ← Int.natCast_mul]
  omega
 unfold HO execOp
 simp only [hx, Instr.makeSlice, ye, yq hu, asInt, asIntOf, ym, GOk_typeInfo hi, hi3, hw]
 rw [if_neg (by rw [Bool.or_eq_true, Bool.or_eq_true]; simp only [decide_eq_true_eq, Bool.or_eq_true]; rintro ((h | h) | h) <;> first | exact hb' h | omega | (rcases h with h | h <;> first | exact hb' h | omega))]
 simp only [ye]
 refine GOk_askRoom ?_
 have hkz : (Int.toNat (k : Int)) = k := by omega
 simp only [hkz, ye, GOk_sizeOf ht]
 have key : ∀ cs : Array Value, cs.toList = (List.replicate k z.cells.toList).flatten → GOk P false (do let a ← newRow e cs; pure (.slice (some a) k k) : Sem Value) s (afterOp P false ⟨d, .makeSlice t x x, ty, pos, af, gd⟩ l Kl ∘ Next.value) := fun cs hcs => by
  have hsz : cs.size = k * K.sz := by
   rw [← Array.length_toList, hcs]
   simp [hz]
  simp only [newRow, newObj, ye]
  refine ⟨rfl, some cs.size, fun b hb => ?_⟩
  have e4 : (s.allocAs (some cs.size) b (.cells cs e)) = s.setO b ⟨cs.toList, cs.size, e⟩ := by
   show s.setO b ⟨cs.toList.take cs.size, cs.size, e⟩ = _
   rw [List.take_of_length_le (by simp)]
  rw [e4]
  have := h b k hk rfl (by simp) hb
  rw [← hcs, ← hsz] at this
  exact this
 have hcells : ∀ n : Nat, ((Array.range (n * K.sz)).map (z.cells[· % z.cells.size]!)).toList = (List.replicate n z.cells.toList).flatten := fun n => by
  simp only [Array.toList_map, Array.toList_range]
  induction n with
  | zero => simp
  | succ n ih =>
   rw [Nat.succ_mul, List.range_add, List.map_append, ih, List.replicate_succ', List.flatten_append]
   congr 1
   apply List.ext_getElem?
   intro i
   simp only [List.map_map, List.getElem?_map, List.flatten_cons, List.flatten_nil, List.append_nil]
   by_cases hi : i < K.sz
   ·rw [List.getElem?_range hi]
    simp [hz, Nat.mod_eq_of_lt hi, Nat.add_mod, hi]
   ·rw [List.getElem?_eq_none (by simpa using hi), List.getElem?_eq_none (by simp [hz]; omega)]
    rfl
 by_cases hk0 : k * K.sz = 0
 ·rw [if_pos hk0]
  obtain rfl : k = 0 := by
   rcases Nat.mul_eq_zero.1 hk0 with h | h <;> omega
  exact key _ (by simp)
 ·rw [if_neg hk0]
  simp only [ye, GOk_zeroValue ht, ym]
  exact key _ (hcells k)
def elsL {K : Kd α} (O : Ow K) : List (List Value) → List α → List Ck
 | v :: vs, x :: xs => Ck.el O v x :: elsL O vs xs
 | _, _ => []
theorem elsL_get {K : Kd α} (O : Ow K) : ∀ (css : List (List Value)) (xs : List α), css.length = xs.length → ∀ i x, xs[i]? = some x → ∃ v, css[i]? = some v ∧ yy (elsL O css xs) i = Ck.el O v x
 | [], [], _, i, x, h => by simp at h
 | c :: css, y :: xs, hl, 0, x, h => by
  obtain rfl : y = x := by simpa using h
  exact ⟨c, by simp, by simp [elsL, yy]⟩
 | c :: css, y :: xs, hl, i + 1, x, h => by
  obtain ⟨v, h1, h2⟩ := elsL_get O css xs (by simpa using hl) i x (by simpa using h)
  exact ⟨v, by simpa using h1, by simpa [elsL, yy] using h2⟩
theorem Hp.newO {K : Kd α} (h : Hp sb s0 F0 s cs) (J : List Nat) (hJ : J.Nodup) {O : Ow K} (css : List (List Value)) (xs : List α) (hsel : selC cs J = elsL O css xs) (hlen : css.length = xs.length) (hsz : ∀ c ∈ css, c.length = K.sz) (e : TypeId) {b : Nat} (hb : s.fresh b) (c : Nat) (hc : xs.length ≤ c) (hm : c ≤ maxN) :
  Hp sb s0 F0 (s.setO b ⟨css.flatten, c * K.sz, e⟩) (addC (rmC cs J) [Ck.ol O e (some ⟨b, 0, none⟩) c xs]) := by
 obtain ⟨F1, hA, hB⟩ := h.take J hJ
 refine hB sb _ _ (Up.refl _ _ _) ?_
 obtain ⟨F, h1, h2, h3⟩ := hA.ck
 have hfr := Fr.newO hb ⟨css.flatten, c * K.sz, e⟩
 have hnb : ∀ i k, F i k → k ≠ b := fun i k hk e => by have := (h3 i k hk).dom; rw [e, fresh_dom hb] at this; cases this
 have hpart : ∀ (css : List (List Value)), (∀ c ∈ css, c.length = K.sz) → css.flatten.length = css.length * K.sz ∧ ∀ i v, css[i]? = some v → (css.flatten.drop (i * K.sz)).take K.sz = v := by
  intro css
  induction css with
  | nil => intro _; exact ⟨by simp, fun i v h => by simp at h⟩
  | cons c css ih =>
   intro hh
   obtain ⟨i1, i2⟩ := ih fun c hc => hh c (by simp [hc])
   have hc := hh c (by simp)
   refine ⟨by rw [List.flatten_cons, List.length_append, i1, hc, List.length_cons, Nat.succ_mul, Nat.add_comm], fun i v hv => ?_⟩
   cases i with
   | zero =>
    obtain rfl : c = v := by simpa using hv
    simp [← hc]
   | succ i =>
    rw [List.flatten_cons, Nat.succ_mul, Nat.add_comm, ← hc, List.drop_append, List.drop_eq_nil_of_le (by omega), List.nil_append, Nat.add_sub_cancel_left, hc]
    exact i2 i v (by simpa using hv)
 obtain ⟨p1, p2⟩ := hpart css hsz
 refine ⟨hfr.weak fun _ h => h.elim, ⟨fun k => hA.bs.g k, fun k y hk => hfr.o k y (fun h => h) (hA.bs.o k y hk)⟩, fun k => if k = 0 then (fun q => (∃ i, F i q) ∨ q = b) else no, fun k => ?_, fun j k hjk q hq hq' => ?_, fun k q hq => ?_⟩
 ·cases k with
  | succ k => exact trivial
  | zero =>
   refine .inr ⟨b, 0, ⟨css.flatten, c * K.sz, e⟩, rfl, by simp [St.setO], rfl, .inr rfl, by simp, hc, hm, by rw [p1, hlen]; simp, F, fun i x hx => ?_, h2, fun i q hq => ⟨.inl ⟨i, hq⟩, hnb i q hq⟩⟩
   obtain ⟨v, g1, g2⟩ := elsL_get O css xs hlen i x hx
   have := h1 i
   rw [hsel, g2] at this
   show O.own sb _ (F i) ((css.flatten.drop (0 + i * K.sz)).take K.sz) x
   rw [Nat.zero_add, p2 i v g1]
   exact O.fr this hfr.toEqo fun _ _ h => h
 ·dsimp only at hq hq'
  split at hq
  ·split at hq'
   ·omega
   ·exact hq'.elim
  ·exact hq.elim
 ·dsimp only at hq
  split at hq
  ·rcases hq with ⟨i, hi⟩ | rfl
   ·have := h3 i q hi
    exact ⟨hfr.dom q this.dom, this.g, this.sb, this.new⟩
   ·exact ⟨by simp [St.dom, St.setO], hb.1, fresh_sb hA.bs hb, .inr (fresh_dom hb)⟩
  ·exact hq.elim
theorem Hp.newF {K : Kd α} (h : Hp sb s0 F0 s cs) {O : Ow K} (vs : List Value) (xs : List α) (hlen : vs.length = xs.length * K.sz) (hE : ∀ i x, xs[i]? = some x → O.own sb s no ((vs.drop (i * K.sz)).take K.sz) x) (e : TypeId) {b : Nat} (hb : s.fresh b) (c : Nat) (hc : xs.length ≤ c) (hm : c ≤ maxN) :
  Hp sb s0 F0 (s.setO b ⟨vs, c * K.sz, e⟩) (addC cs [Ck.ol O e (some ⟨b, 0, none⟩) c xs]) := by
 have hfr := Fr.newO hb ⟨vs, c * K.sz, e⟩
 refine h.new (F' := fun k => k = b) hfr (fun k hk => by subst hk; exact ⟨hb, by simp [St.dom, St.setO]⟩) (.inr ⟨b, 0, ⟨vs, c * K.sz, e⟩, rfl, by simp [St.setO], rfl, rfl, by simp, hc, hm, by simp [hlen], fun _ => no, fun i x hx => ?_, fun _ _ _ _ h => h.elim, fun _ _ h => h.elim⟩)
 rw [Nat.zero_add]
 exact O.fr (hE i x hx) hfr.toEqo fun _ _ h => h
theorem o_makeH {K : Kd α} {O : Ow K} {x : Operand} {t e : TypeId} {z : Value} {by_ n : Nat} {m : Int} {x0 : α} {zs : List α} (hH : Hp sb s0 F0 s cs) (hx : evL l x = .int .i64 m) (hu : P.underlying t = some (.slice e)) (ht : TI P e z K.sz by_) (hz : z.cells.size = K.sz) (hpos : 0 < K.sz) (hby : 0 < by_) (hn : n * by_ ≤ 140737488355328) (h0 : ∀ sb s, O.own sb s no z.cells.toList x0) (hm : mk? n x0 m = some zs)
  (h : ∀ A c s', Hp sb s0 F0 s' (addC cs [Ck.ol O e A c zs]) → Gro s s' → Kl (yv l d (.slice A zs.length c)) s') : HO P false ⟨d, .makeSlice t x x, ty, pos, af, gd⟩ l s Kl := by
 refine o_makeC hx hu ht hz hpos hby hn hm fun b k hk hmk hzs hb => ?_
 have hnn : n ≤ 140737488355328 := Nat.le_trans (Nat.le_mul_of_pos_right _ hby) hn
 have := h (some ⟨b, 0, none⟩) k _ (hH.newF (O := O) (List.replicate k z.cells.toList).flatten zs (by rw [hzs]; simp [hz]) (fun i x hx => ?_) e hb k (by rw [hzs]; simp) (by unfold maxN; omega)) (Fr.newO hb _).gro
 ·rw [hzs, List.length_replicate] at this
  exact this
 ·rw [hzs] at hx
  obtain ⟨hi, hx⟩ := List.getElem?_eq_some_iff.1 hx
  rw [List.length_replicate] at hi
  rw [List.getElem_replicate] at hx
  subst hx
  have : (((List.replicate k z.cells.toList).flatten).drop (i * K.sz)).take K.sz = z.cells.toList := by
   obtain ⟨j, rfl⟩ := Nat.exists_eq_add_of_lt hi
   rw [show i + j + 1 = i + (j + 1) by omega, ← List.replicate_append_replicate, List.flatten_append, List.drop_append_of_le_length (by simp [hz])]
   rw [List.drop_of_length_le (by simp [hz])]
   simp [List.replicate_succ, hz]
  rw [this]
  exact h0 _ _
def OwL {K : Kd α} (O : Ow K) (sb s : St) : List (List Value) → List α → Prop
 | [], [] => True
 | c :: cs, x :: xs => c.length = K.sz ∧ O.own sb s no c x ∧ OwL O sb s cs xs
 | _, _ => False
theorem OwL.get {K : Kd α} {O : Ow K} : ∀ {css : List (List Value)} {xs : List α}, OwL O sb s css xs → css.flatten.length = xs.length * K.sz ∧ ∀ i x, xs[i]? = some x → O.own sb s no ((css.flatten.drop (i * K.sz)).take K.sz) x
 | [], [], _ => ⟨by simp, by simp⟩
 | c :: cs, x :: xs, ⟨hl, h1, h2⟩ => by
  obtain ⟨a1, a2⟩ := OwL.get h2
  refine ⟨by rw [List.flatten_cons, List.length_append, a1, hl, List.length_cons, Nat.succ_mul, Nat.add_comm], fun i y hy => ?_⟩
  cases i with
  | zero =>
   obtain rfl : x = y := by simpa using hy
   rw [List.flatten_cons, Nat.zero_mul, List.drop_zero, List.take_append_of_le_length (by omega), List.take_of_length_le (by omega)]
   exact h1
  | succ i =>
   have := a2 i y (by simpa using hy)
   rwa [List.flatten_cons, show (i + 1) * K.sz = c.length + i * K.sz by rw [Nat.succ_mul, hl]; omega, List.drop_append, List.drop_eq_nil_of_le (by omega), List.nil_append, Nat.add_sub_cancel_left]
theorem o_litF {K : Kd α} {O : Ow K} {t e : TypeId} {n : Nat} {parts : Array (Nat × Operand)} {z : Value} {by_ : Nat} {ca : Array Value} (css : List (List Value)) (xs : List α) (hH : Hp sb s0 F0 s cs) (hu : P.underlying t = some (.slice e)) (ht : TI P e z K.sz by_) (hn : Nat.ble (n * K.sz) 16777216 = true) (hz : n * K.sz ≠ 0) (hlen : xs.length = n)
  (hzc : z.cells.size = K.sz) (hc : Instr.fill (fun i => some (i * K.sz, K.sz)) ((List.replicate n z.cells.toList).flatten).toArray (parts.toList.map fun p => (p.1, evL l p.2)) = some ca) (hcs : ca.toList = css.flatten) (hr : OwL O sb s css xs)
  (h : ∀ A s', Hp sb s0 F0 s' (addC cs [Ck.ol O e A n xs]) → Gro s s' → Kl (yv l d (.slice A n n)) s') : HO P false ⟨d, .buildSlice t n parts, ty, pos, af, gd⟩ l s Kl := by
 obtain ⟨h1, h2⟩ := hr.get
 have hn' := Nat.le_of_ble_eq_true hn
 rw [← zcells z.cells n K.sz hzc] at hc
 refine o_lit hu ht hn' hz hc (fun b hb => ?_)
 have hs : ca.size = n * K.sz := by rw [← Array.length_toList, hcs, h1, hlen]
 rw [hs, hcs]
 have hnn : n ≤ n * K.sz := Nat.le_mul_of_pos_right _ (by rcases Nat.eq_zero_or_pos K.sz with h | h; exact absurd (by rw [h, Nat.mul_zero]) hz; exact h)
 exact h _ _ (hH.newF css.flatten xs h1 h2 e hb n (by omega) (by unfold maxN; omega)) (Fr.newO hb _).gro
theorem o_litD {K : Kd α} {O : Ow K} {t e : TypeId} {n : Nat} {parts : Array (Nat × Operand)} {z : Value} {by_ : Nat} {ca : Array Value} (css : List (List Value)) (xs : List α) (hH : Hp sb s0 F0 s cs) (J : List Nat) (hJ : J.Nodup) (hsel : selC cs J = elsL O css xs) (hu : P.underlying t = some (.slice e)) (ht : TI P e z K.sz by_) (hn : Nat.ble (n * K.sz) 16777216 = true) (hz : n * K.sz ≠ 0) (hlen : xs.length = n) (hlen2 : css.length = n)
  (hszs : css.all (fun c => c.length == K.sz) = true) (hzc : z.cells.size = K.sz) (hc : Instr.fill (fun i => some (i * K.sz, K.sz)) ((List.replicate n z.cells.toList).flatten).toArray (parts.toList.map fun p => (p.1, evL l p.2)) = some ca) (hcs : ca.toList = css.flatten)
  (h : ∀ A s', Hp sb s0 F0 s' (addC (rmC cs J) [Ck.ol O e A n xs]) → Gro s s' → Kl (yv l d (.slice A n n)) s') : HO P false ⟨d, .buildSlice t n parts, ty, pos, af, gd⟩ l s Kl := by
 have hn' := Nat.le_of_ble_eq_true hn
 have hs1 : ∀ c ∈ css, c.length = K.sz := fun c hc => by simpa using List.all_eq_true.1 hszs c hc
 rw [← zcells z.cells n K.sz hzc] at hc
 refine o_lit hu ht hn' hz hc (fun b hb => ?_)
 have hfl : ∀ (css : List (List Value)), (∀ c ∈ css, c.length = K.sz) → css.flatten.length = css.length * K.sz := by
  intro css
  induction css with
  | nil => intro _; simp
  | cons c css ih => intro hh; rw [List.flatten_cons, List.length_append, ih fun c hc => hh c (by simp [hc]), hh c (by simp), List.length_cons, Nat.succ_mul, Nat.add_comm]
 have hs : ca.size = n * K.sz := by rw [← Array.length_toList, hcs, hfl css hs1, hlen2]
 rw [hs, hcs]
 have hnn : n ≤ n * K.sz := Nat.le_mul_of_pos_right _ (by rcases Nat.eq_zero_or_pos K.sz with h | h; exact absurd (by rw [h, Nat.mul_zero]) hz; exact h)
 exact h _ _ (hH.newO J hJ css xs hsel (by omega) hs1 e hb n (by omega) (by unfold maxN; omega)) (Fr.newO hb _).gro
theorem o_lit0H {K : Kd α} {O : Ow K} {t e : TypeId} {z : Value} {by_ : Nat} (hH : Hp sb s0 F0 s cs) (hu : P.underlying t = some (.slice e)) (ht : TI P e z K.sz by_)
  (h : ∀ A s', Hp sb s0 F0 s' (addC cs [Ck.ol O e A 0 ([] : List α)]) → Gro s s' → Kl (yv l d (.slice A 0 0)) s') : HO P false ⟨d, .buildSlice t 0 #[], ty, pos, af, gd⟩ l s Kl :=
 o_lit0 hu ht fun b hb => h _ _ (by simpa using hH.newF (O := O) [] ([] : List α) (by simp) (by simp) e hb 0 (Nat.le_refl _) (Nat.zero_le _)) (Fr.newO hb _).gro
theorem o_setC {K : Kd α} {O : Ow K} {xs ys : List α} {x y : Operand} {e : TypeId} {z : Value} {by_ : Nat} {A : Option Addr} {b o c : Nat} {i : Int} {v : Value} {vs : List Value} {u : α} {F1 FY : Fp} (hx : evL l x = .pointer (some ⟨b, o + i.toNat * K.sz, none⟩)) (hy : evL l y = v) (hv : v.cells.toList = vs) (ht : TI P e z K.sz by_) (hA : A = some ⟨b, o, none⟩) (hb : Bs sb s) (ho : ol O e A c xs sb s F1) (hg : ∀ b, F1 b → s.g b = none) (hd : Dj F1 FY) (hst : st? xs i u = some ys) (hrep : O.own sb s FY vs u)
  (h : ∀ s' F', ol O e A c ys sb s' F' → Fr F1 s s' → (∀ b, F' b → F1 b ∨ FY b) → Kl (yv l d undef) s') : HO P false ⟨d, .store e x y, ty, pos, af, gd⟩ l s Kl := by
 obtain ⟨⟨h0, h1⟩, rfl⟩ := st?_some hst
 subst hA
 have hlen := K.len (O.rep hrep hb)
 rcases ho with ⟨_, h⟩ | ⟨b', o', y', hA, a2, a3, a4, a5, a6, a7, a8, FE, b1, b2, b3⟩
 ·subst h
  simp at h1
  omega
 injection hA with hA
 injection hA with hA hA2 _
 subst hA hA2
 have hil : i.toNat < xs.length := by omega
 have hroom : i.toNat * K.sz + K.sz ≤ xs.length * K.sz := by rw [← Nat.succ_mul]; exact Nat.mul_le_mul_right _ hil
 have hle : o + i.toNat * K.sz ≤ y'.cs.length := by omega
 have hcl := Nat.mul_le_mul_right K.sz a6
 have hsz : v.cells.size = K.sz := by rw [← Array.length_toList, hv, hlen]
 unfold HO execOp
 simp only [hx, hy, Instr.storeAt, Instr.sureAddr, ye, ym, storeVar, GOk_sizeOf ht, hsz, ne_eq, not_true_eq_false, if_false, hv]
 refine GOk_storeC vs y' 0 s a2 (hg _ a4) (by omega) (by rw [hlen]; omega) (K.one (O.rep hrep hb)) ?_
 have hE := Fr.setO (s := s) (b := b) { y' with cs := spl y'.cs (o + i.toNat * K.sz + 0) vs }
 rw [Nat.add_zero] at hE ⊢
 refine ⟨rfl, h _ (fun k => F1 k ∨ FY k) (.inr ⟨b, o, { y' with cs := spl y'.cs (o + i.toNat * K.sz) vs }, rfl, by simp [St.setO], a3, .inl a4, a5, by rw [List.length_set]; exact a6, a7, ?_, fun j => if j = i.toNat then FY else FE j, fun j w hj => ?_, fun j k hjk q hq hq' => ?_, fun j q hq => ?_⟩) (hE.weak fun k hk => hk ▸ a4) (fun k hk => hk)⟩
 ·show _ ≤ (spl _ _ _).length
  rw [spl_len hle, List.length_set]; omega
 ·by_cases hji : j = i.toNat
  ·subst hji
   rw [List.getElem?_set_self (by omega)] at hj
   obtain rfl := Option.some.inj hj
   have := spl_at (vs := vs) hle 0 K.sz (by omega)
   have e2 : vs.take K.sz = vs := List.take_of_length_le (Nat.le_of_eq hlen)
   rw [Nat.add_zero, List.drop_zero, e2] at this
   simp only [if_true]
   show O.own sb _ FY (((spl _ _ _).drop _).take _) u
   rw [this]
   exact O.fr hrep hE.toEqo fun q hq e => hd b a4 (e ▸ hq)
  ·rw [List.getElem?_set_ne (by omega)] at hj
   simp only [hji, if_false]
   show O.own sb _ (FE j) (((spl _ _ _).drop _).take _) w
   rw [spl_part hle]
   ·exact O.fr (b1 j w hj) hE.toEqo fun q hq => (b3 j q hq).2
   ·rw [hlen]
    rcases Nat.lt_or_gt_of_ne hji with hlt | hgt
    ·left
     have : j * K.sz + K.sz ≤ i.toNat * K.sz := by rw [← Nat.succ_mul]; exact Nat.mul_le_mul_right _ hlt
     omega
    ·right
     have : i.toNat * K.sz + K.sz ≤ j * K.sz := by rw [← Nat.succ_mul]; exact Nat.mul_le_mul_right _ hgt
     omega
 ·dsimp only at hq hq'
  split at hq
  ·split at hq'
   ·omega
   ·exact hd q (b3 k q hq').1 hq
  ·split at hq'
   ·exact hd q (b3 j q hq).1 hq'
   ·exact b2 j k hjk q hq hq'
 ·dsimp only at hq
  split at hq
  ·exact ⟨.inr hq, fun e => hd b a4 (e ▸ hq)⟩
  ·exact ⟨.inl (b3 j q hq).1, (b3 j q hq).2⟩
theorem o_setF {K : Kd α} {O : Ow K} {xs ys : List α} {x y : Operand} {e : TypeId} {z : Value} {by_ : Nat} {A : Option Addr} {b o c : Nat} {i : Int} {v : Value} {vs : List Value} {u : α} (hH : Hp sb s0 F0 s cs) (k : Nat) (hl : Nat.blt k cs.length = true) (hk : yy cs k = Ck.ol O e A c xs) (hx : evL l x = .pointer (some ⟨b, o + i.toNat * K.sz, none⟩)) (hy : evL l y = v) (hv : v.cells.toList = vs) (ht : TI P e z K.sz by_) (hA : A = some ⟨b, o, none⟩) (hst : st? xs i u = some ys) (hrep : O.own sb s no vs u)
  (h : ∀ s', Hp sb s0 F0 s' (setC cs k (Ck.ol O e A c ys)) → Kl (yv l d undef) s') : HO P false ⟨d, .store e x y, ty, pos, af, gd⟩ l s Kl := by
 obtain ⟨Fi, g1, g2, g3⟩ := hH.upd k (Nat.le_of_ble_eq_true hl)
 rw [hk] at g1
 exact o_setC hx hy hv ht hA hH.bs g1 (fun b hb => (g2 b hb).g) (fun _ _ h => h) hst hrep fun s' F' k1 k2 k3 => h s' (g3 s' _ F' k2 (fun b hb => (k3 b hb).elim .inl fun h => h.elim) k1)
theorem o_setD {K : Kd α} {O : Ow K} {xs ys : List α} {x y : Operand} {e : TypeId} {z : Value} {by_ : Nat} {A : Option Addr} {b o c : Nat} {i : Int} {v : Value} {vs : List Value} {u : α} (hH : Hp sb s0 F0 s cs) (k j : Nat) (hkj : k ≠ j) (hl : Nat.blt k cs.length = true) (hk : yy cs k = Ck.ol O e A c xs) (hj : yy cs j = Ck.el O vs u) (hx : evL l x = .pointer (some ⟨b, o + i.toNat * K.sz, none⟩)) (hy : evL l y = v) (hv : v.cells.toList = vs) (ht : TI P e z K.sz by_) (hA : A = some ⟨b, o, none⟩) (hst : st? xs i u = some ys)
  (h : ∀ s', Hp sb s0 F0 s' (setC (setC cs k (Ck.ol O e A c ys)) j Ck.emp) → Kl (yv l d undef) s') : HO P false ⟨d, .store e x y, ty, pos, af, gd⟩ l s Kl := by
 obtain ⟨Fi, Fj, g1, g2, g3, g4, g5, g6⟩ := hH.upd2 k j hkj (Nat.le_of_ble_eq_true hl)
 rw [hk] at g1
 rw [hj] at g2
 exact o_setC hx hy hv ht hA hH.bs g1 (fun b hb => (g4 b hb).g) g3 hst g2 fun s' F' k1 k2 k3 => h s' (g6 s' _ F' k2 (fun b hb => (k3 b hb).elim .inl fun h => .inr (.inl h)) k1)
end
end Go.Proofs.GL

