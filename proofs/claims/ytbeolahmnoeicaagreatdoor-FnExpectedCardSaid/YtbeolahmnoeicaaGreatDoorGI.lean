/- A logic of what is known of memory, over the kit's weakest preconditions: one part. No conditions: lemmas. -/
import Derived.Test.YtbeolahmnoeicaaGreatDoorGH
set_option autoImplicit false
set_option relaxedAutoImplicit false
set_option linter.unusedVariables false
set_option linter.unusedSimpArgs false
namespace Go.Proofs.GL
open Go
def textB (xs : List Int) : ByteArray := xs.foldl (fun s n => s.push (UInt8.ofNat n.toNat)) .empty
def yd (s : ByteArray) : List Int := s.data.toList.map fun b => (b.toNat : Int)
theorem bytesB_len (s : ByteArray) : (yd s).length = s.size := by
 unfold yd
 simp
section
variable {P : Program} {ro : Bool} {s : St} {Kl : List Value → St → Prop} {l : List Value} {d : Option Tmp} {ty : TypeId} {pos : String} {af : Array Edge} {gd : Option (Nat × Bool)}
theorem GOk_pushes (KU : ByteArray → St → Prop) : ∀ (xs : List Int) (acc : ByteArray), KU (xs.foldl (fun s n => s.push (UInt8.ofNat n.toNat)) acc) s →
  GOk P ro (forIn (xs.map fun n => Value.int .u8 n) acc (fun c r => do
   let s := r
   match c with
   | .int .u8 n => pure (ForInStep.yield (s.push (UInt8.ofNat n.toNat)))
   | _ => stuck "bytesToString: byte expected")) s KU := by
 intro xs
 induction xs with
 | nil => intro acc h; simpa [yi] using h
 | cons x xs ih =>
  intro acc h
  rw [List.map_cons, List.forIn_cons]
  simp only [ye, yi]
  exact ih _ h
theorem o_b2s {x : Operand} {st dt e : TypeId} {A : Option Addr} {c : Nat} {xs : List Int} (hx : evL l x = .slice A xs.length c) (hs : P.underlying st = some (.slice e)) (he : P.underlying e = some (.int .u8)) (hd : P.underlying dt = some .string) (hr : Rd (Kd.int .u8) s A c xs) (h : Kl (yy l d (.string (textB xs))) s) : HO P ro ⟨d, .convert st dt x, ty, pos, af, gd⟩ l s Kl := by
 unfold HO execOp
 simp only [hx, convert, ye, yn hs, yn hd, yn he, Conv.bytesToString]
 obtain ⟨cs, h1, h2, h3, h4⟩ := hr.cells
 have hcs : cs = xs.map fun n => Value.int .u8 n := by
  apply List.ext_getElem?
  intro i
  have hl : cs.length = xs.length := by rw [h1]; exact Nat.mul_one _
  rw [List.getElem?_map]
  cases hi : xs[i]? with
  | none =>
   rw [List.getElem?_eq_none_iff] at hi
   rw [List.getElem?_eq_none (by omega)]
   rfl
  | some x =>
   have h5 : ((cs.drop (i * 1)).take 1) = [Value.int .u8 x] := h3 i x hi
   have := congrArg (fun q => q[0]?) h5
   simpa using this
 cases A with
 | none =>
  have : xs = [] := by
   cases xs with
   | nil => rfl
   | cons a as =>
    obtain ⟨b, o, h5, _⟩ := h4 (by simp)
    cases h5
  subst this
  exact h
 | some a =>
  simp only [ye]
  refine GOk_loadCells (s := s) (cs := cs) (by rw [h1]; exact (Nat.mul_one _).symm) ?_ ?_
  ·by_cases hx0 : xs = []
   ·subst hx0
    subst hcs
    intro j v hj
    simp at hj
   ·obtain ⟨b, o, h5, h6⟩ := h4 hx0
    cases h5
    exact h6
  ·rw [hcs, List.forIn_toArray]
   exact GOk_pushes _ xs _ h
theorem GOk_firstS {O : Ow (Kd.int .u8)} [O.Fl] {sb : St} (S : ByteArray) {ys : List Int} (hys : yd S = ys) {KU : Array Value → St → Prop} (hk : ∀ vs : List Value, vs.length = ys.length * (Kd.int .u8).sz → (∀ v ∈ vs, isCell v = true) → els O sb s no vs 0 ys → KU vs.toArray s) :
  GOk P ro (Builtin.firstCells (Kd.int .u8).sz ys.length (.string S)) s KU := by
 subst hys
 unfold Builtin.firstCells
 simp only [yi]
 have e : ((S.extract 0 (yd S).length).data.map fun b => Value.int .u8 b.toNat) = ((yd S).map fun n => Value.int .u8 n).toArray := by
  rw [bytesB_len]
  have : S.extract 0 S.size = S := by
   apply ByteArray.ext
   simp
  rw [this]
  unfold yd
  apply Array.ext'
  simp
 rw [e]
 refine hk _ (by simp [Kd.int, Kd.scalar]) (fun v hv => ?_) ⟨fun _ => no, fun i x hx => Ow.Fl.fl ?_, fun _ _ _ _ h => h.elim, fun _ _ h => h.elim⟩
 ·obtain ⟨n, _, rfl⟩ := List.mem_map.1 hv
  rfl
 ·show (((yd S).map fun n => Value.int .u8 n).drop (0 + i * 1)).take 1 = [Value.int .u8 x]
  rw [Nat.zero_add, Nat.mul_one]
  obtain ⟨h1, h2⟩ := List.getElem?_eq_some_iff.1 hx
  rw [List.drop_eq_getElem_cons (by simpa using h1)]
  simp [h2]
theorem o_appCS {O : Ow (Kd.int .u8)} [O.Fl] {sb : St} {Kl : List Value → St → Prop} {l : List Value} {d : Option Tmp} {ty : TypeId} {pos : String} {af : Array Edge} {gd : Option (Nat × Bool)} {x y : Operand} {t t2 e : TypeId} {z : Value} {by_ : Nat} {A : Option Addr} {c : Nat} {xs : List Int} {S : ByteArray} {F1 : Fp}
  (hx : evL l x = .slice A xs.length c) (hy : evL l y = .string S) (hu : P.underlying t = some (.slice e)) (hu2 : P.underlying t2 = some .string) (ht : TI P e z (Kd.int .u8).sz by_) (hz : z.cells.size = (Kd.int .u8).sz) (hpos : 0 < (Kd.int .u8).sz) (hby : 0 < by_) (hb : Bs sb s) (ho : ol O e A c xs sb s F1) (hg : ∀ b, F1 b → s.g b = none ∧ s.dom b = true) (hl : (xs.length + (yd S).length) * by_ ≤ 140737488355328)
  (h : ∀ A' c' s' F', ol O e A' c' (xs ++ (yd S)) sb s' F' → Fr F1 s s' → (∀ b, F' b → F1 b ∨ no b ∨ s.fresh b ∧ s'.dom b = true) → Kl (yy l d (.slice A' (xs ++ (yd S)).length c')) s') : HO P false ⟨d, .call { callee := .builtin .append, args := #[x, y], argTypes := #[t, t2] }, ty, pos, af, gd⟩ l s Kl := by
 have hgY : ∀ b, (no : Fp) b → s.dom b = true := fun _ h => h.elim
 have hd : Dj F1 no := fun _ _ h => h
 have hlen : xs.length + (yd S).length ≤ 140737488355328 := Nat.le_trans (Nat.le_mul_of_pos_right _ hby) hl
 obtain ⟨i, hi, hi1, hi2, hi3⟩ := ht.get
 unfold HO execOp
 simp only [resolve, ye, yi, invoke, builtin, Builtin.append_]
 simp only [List.map_toArray, List.map_cons, List.map_nil, hx, hy, List.getElem?_toArray, List.getElem?_cons_zero, List.getElem?_cons_succ, ye, yn hu, yn hu2, yi, GOk_sizeOf ht, Builtin.lenOf, Bool.false_eq_true, if_false, ← bytesB_len S]
 generalize hys : yd S = ys at h hl hlen ⊢
 by_cases hfit : xs.length + ys.length ≤ c
 ·simp only [hfit, if_true, ye]
  refine GOk_firstS (O := O) (sb := sb) S hys (fun vs h1 h2 h3 => ?_)
  by_cases hcz : c = 0
  ·subst hcz
   obtain rfl : xs = [] := List.eq_nil_of_length_eq_zero (by omega)
   have : ys = [] := by
    apply List.eq_nil_of_length_eq_zero
    simpa using hfit
   subst this
   obtain rfl : vs = [] := List.eq_nil_of_length_eq_zero (by simpa using h1)
   cases A with
   | none =>
    simp only [yi]
    exact h none 0 s no (.inl ⟨rfl, rfl⟩) (Fr.refl _ _) (fun _ h => h.elim)
   | some a =>
    simp only [ye]
    unfold storeCells
    simp only [yi]
    exact h (some a) 0 s no (.inl ⟨rfl, rfl⟩) (Fr.refl _ _) (fun _ h => h.elim)
  rcases ho with ⟨hcz', _⟩ | ⟨b, o, y, rfl, hob, hye, hF, hroom, hc0, hm0, hl0, hE⟩
  ·exact absurd hcz' hcz
  ·simp only [ye]
   rw [addp]
   have hmul : (xs.length + ys.length) * (Kd.int .u8).sz ≤ c * (Kd.int .u8).sz := Nat.mul_le_mul_right _ hfit
   rw [Nat.add_mul] at hmul
   refine GOk_storeC (KU := fun _ s' => GOk P false (pure (.slice (some ⟨b, o, none⟩) (xs.length + ys.length) c) : Sem Value) s' _) vs y 0 s hob (hg b hF).1 (by omega) (by rw [h1]; omega) h2 ?_
   simp only [yi, Nat.add_zero]
   have hb2 : ∀ k, no k → k ≠ b := fun k hk e => hd b hF (e ▸ hk)
   have := h (some ⟨b, o, none⟩) c (s.setO b { y with cs := spl y.cs (o + xs.length * (Kd.int .u8).sz) vs }) (fun k => F1 k ∨ no k) (.inr ⟨b, o, { y with cs := spl y.cs (o + xs.length * (Kd.int .u8).sz) vs }, rfl, by simp [St.setO], hye, .inl hF, hroom, by rw [List.length_append]; exact hfit, hm0, ?_, ?_⟩) ((Fr.setO _).weak fun k hk => hk ▸ hF) (fun k hk => hk.elim .inl fun h => .inr (.inl h))
   ·rw [List.length_append] at this
    exact this
   ·show _ ≤ (spl _ _ _).length
    rw [spl_len hl0, h1, List.length_append, Nat.add_mul]
    omega
   ·refine hE.app h3 (G := fun k => k = b) (s' := s.setO b { y with cs := spl y.cs (o + xs.length * (Kd.int .u8).sz) vs }) (Fr.setO _).toEqo (fun k hk hk' => hd k hk.1 hk') (fun k hk => hk.2) (fun k hk => hb2 k hk) (fun k hk => ⟨.inl hk.1, hk.2⟩) (fun k hk => ⟨.inr hk, hb2 k hk⟩) (fun i hi => ?_) (fun i hi => ?_)
    ·have : i * (Kd.int .u8).sz + (Kd.int .u8).sz ≤ xs.length * (Kd.int .u8).sz := by rw [← Nat.succ_mul]; exact Nat.mul_le_mul_right _ hi
     exact spl_part hl0 _ _ (.inl (by omega))
    ·have : i * (Kd.int .u8).sz + (Kd.int .u8).sz ≤ ys.length * (Kd.int .u8).sz := by rw [← Nat.succ_mul]; exact Nat.mul_le_mul_right _ hi
     rw [Nat.zero_add, Nat.add_mul, ← Nat.add_assoc]
     exact spl_at hl0 _ _ (by omega)
 ·simp only [hfit, if_false, ye, GOk_typeInfo hi, hi3]
  have n2 : ¬ (Builtin.nextslicecap (xs.length + ys.length) c * by_ > 2 ^ 48) := by
   have := growslice_fits (need := xs.length + ys.length) (old := c) (bytes := by_) (by omega) hl
   have e2 : (2 : Nat) ^ 48 = 281474976710656 := by decide
   omega
  have n1 : ¬ (((xs.length + ys.length : Nat) : Int) > IntKind.i64.max ∧ (False ∨ by_ = 0)) := by
   rintro ⟨_, h | h⟩
   ·exact h
   ·omega
  rw [if_neg n1]
  simp only [ye, GOk_typeInfo hi, hi3, if_neg n2]
  unfold choose
  refine (show _ ∧ ∀ n, _ from ⟨rfl, fun n => ?_⟩ : GOk P false (Sem.choose (Question.appendCap (xs.length + ys.length) c e) Sem.pure) s _)
  show GOk P false (Sem.pure (xs.length + ys.length + n % (2 ^ 63 - (xs.length + ys.length)))) s _
  generalize hnc : xs.length + ys.length + n % (2 ^ 63 - (xs.length + ys.length)) = nc
  have hnc1 : xs.length + ys.length ≤ nc := by omega
  have hnc2 : nc ≤ maxN := by
   have : n % (2 ^ 63 - (xs.length + ys.length)) < 2 ^ 63 - (xs.length + ys.length) := Nat.mod_lt _ (by omega)
   unfold maxN
   omega
  simp only [GOk_pure', ye]
  refine GOk_askRoom ?_
  refine GOk_first (Src.own hpos hb ho) _ rfl (fun c1 a1 a2 a3 => ?_)
  simp only [Bool.not_false, if_true]
  refine GOk_firstS (O := O) (sb := sb) S hys (fun c3 b1 b2 b3 => ?_)
  simp only [GOk_zeroValue ht, newRow, newObj, ye]
  refine ⟨rfl, some ((xs.length + ys.length) * (Kd.int .u8).sz), fun b hbf => ?_⟩
  simp only [yi, GOk_pure']
  have hcs : ((c1.toArray ++ c3.toArray ++ Builtin.zeroCells z.cells (nc - (xs.length + ys.length))).toList).take ((xs.length + ys.length) * (Kd.int .u8).sz) = c1 ++ c3 := by
   simp only [Array.toList_append, List.toList_toArray]
   rw [List.take_append_of_le_length (by simp [a1, b1, Nat.add_mul])]
   exact List.take_of_length_le (by simp [a1, b1, Nat.add_mul])
  have hsz : (c1.toArray ++ c3.toArray ++ Builtin.zeroCells z.cells (nc - (xs.length + ys.length))).size = nc * (Kd.int .u8).sz := by
   simp only [Array.size_append, List.size_toArray, Builtin.zeroCells, Array.size_map, Array.size_range, a1, b1, hz]
   rw [← Nat.add_mul, ← Nat.add_mul, Nat.add_sub_cancel' hnc1]
  show Kl (yy l d (.slice (some ⟨b, 0, none⟩) (xs.length + ys.length) nc)) (s.setO b ⟨_, _, e⟩)
  rw [hcs, hsz]
  have hnb : ∀ k, s.dom k = true → k ≠ b := fun k hk e => by rw [e, fresh_dom hbf] at hk; cases hk
  have := h (some ⟨b, 0, none⟩) nc (s.setO b ⟨c1 ++ c3, nc * (Kd.int .u8).sz, e⟩) (fun k => F1 k ∨ no k ∨ k = b) (.inr ⟨b, 0, ⟨c1 ++ c3, nc * (Kd.int .u8).sz, e⟩, rfl, by simp [St.setO], rfl, .inr (.inr rfl), by simp, by rw [List.length_append]; exact hnc1, hnc2, ?_, ?_⟩) ((Fr.newO hbf _).weak fun _ h => h.elim) (fun k hk => hk.elim .inl fun h => h.elim (fun h => .inr (.inl h)) fun h => .inr (.inr ⟨h ▸ hbf, by rw [h]; simp [St.dom, St.setO]⟩))
  ·rw [List.length_append] at this
   exact this
  ·simp [a1, b1, Nat.add_mul]
  ·refine a3.app b3 (G := no) (s' := s.setO b ⟨c1 ++ c3, nc * (Kd.int .u8).sz, e⟩) (Fr.newO hbf _).toEqo hd (fun _ _ h => h) (fun _ _ h => h) (fun k hk => ⟨.inl hk, hnb k (hg k hk).2⟩) (fun k hk => ⟨.inr (.inl hk), hnb k (hgY k hk)⟩) (fun i hi => ?_) (fun i hi => ?_)
   ·have : i * (Kd.int .u8).sz + (Kd.int .u8).sz ≤ c1.length := by rw [a1, ← Nat.succ_mul]; exact Nat.mul_le_mul_right _ hi
    show (((c1 ++ c3).drop _).take _) = _
    rw [Nat.zero_add, List.drop_append_of_le_length (by omega), List.take_append_of_le_length (by rw [List.length_drop]; omega)]
   ·show (((c1 ++ c3).drop _).take _) = _
    have e1 : 0 + (xs.length + i) * (Kd.int .u8).sz = c1.length + i * (Kd.int .u8).sz := by rw [a1, Nat.add_mul]; omega
    rw [e1, List.drop_append, List.drop_eq_nil_of_le (by omega), List.nil_append, Nat.add_sub_cancel_left, Nat.zero_add]
theorem o_appS {sb s0 : St} {F0 : Fp} {cs : List Ck} {O : Ow (Kd.int .u8)} [O.Fl] {x y : Operand} {t t2 e : TypeId} {z : Value} {by_ n : Nat} {A : Option Addr} {c : Nat} {xs zs : List Int} {S : ByteArray} (hH : Hp sb s0 F0 s cs) (i : Nat) (hi : Nat.blt i cs.length = true) (hk : y03 cs i = Ck.ol O e A c xs)
  (hx : evL l x = .slice A xs.length c) (hy : evL l y = .string S) (hu : P.underlying t = some (.slice e)) (hu2 : P.underlying t2 = some .string) (ht : TI P e z (Kd.int .u8).sz by_) (hz : z.cells.size = (Kd.int .u8).sz) (hpos : 0 < (Kd.int .u8).sz) (hby : 0 < by_) (hn : n * by_ ≤ 140737488355328) (hl : app? n xs (yd S) = some zs)
  (h : ∀ A' c' s', Hp sb s0 F0 s' (setC cs i (Ck.ol O e A' c' zs)) → Kl (yy l d (.slice A' zs.length c')) s') : HO P false ⟨d, .call { callee := .builtin .append, args := #[x, y], argTypes := #[t, t2] }, ty, pos, af, gd⟩ l s Kl := by
 obtain ⟨h1, rfl⟩ := app?_some hl
 obtain ⟨Fi, g1, g2, g3⟩ := hH.upd i (Nat.le_of_ble_eq_true hi)
 rw [hk] at g1
 exact o_appCS hx hy hu hu2 ht hz hpos hby hH.bs g1 (fun b hb => ⟨(g2 b hb).g, (g2 b hb).dom⟩) (Nat.le_trans (Nat.mul_le_mul_right _ h1) hn) fun A' c' s' F' k1 k2 k3 => h A' c' s' (g3 s' _ F' k2 (fun b hb => (k3 b hb).elim .inl fun h => h.elim (fun h => h.elim) .inr) k1)
end
end Go.Proofs.GL

