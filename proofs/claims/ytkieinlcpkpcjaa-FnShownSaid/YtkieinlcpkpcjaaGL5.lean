/- A logic of what is known of memory, over the kit's weakest preconditions: part GL5. No conditions: lemmas. -/
import Derived.Test.YtkieinlcpkpcjaaGL4
set_option linter.unusedVariables false
set_option linter.unusedSimpArgs false
namespace Go.Proofs.GL
open Go
section
variable {P : Program} {ro : Bool} {l : List Value} {s : St} {Kl : List Value → St → Prop} {d : Option Tmp} {ty : TypeId} {pos : String} {af : Array Edge} {gd : Option (Nat × Bool)}
theorem addp (b o j : Nat) : (⟨b, o, none⟩ : Addr).add j = ⟨b, o + j, none⟩ := by
  unfold Addr.add
  by_cases h : j = 0 <;> simp [h]
/-! ### 12. Fields, structs -/
theorem o_faddr {x : Operand} {T ft : TypeId} {fs : Array Field} {i off : Nat} {ad : Addr} {z : Value} {n by_ : Nat} (hx : evL l x = .pointer (some ad)) (hu : P.underlying T = some (.struct fs)) (hf : (fs[i]?).map (fun f => (f.type, f.offset)) = some (ft, off)) (ht : TI P ft z n by_) (hn : n ≠ 0)
    (h : Kl (putL l d (.pointer (some (ad.add off)))) s) : HO P ro ⟨d, .fieldAddr T x i, ty, pos, af, gd⟩ l s Kl := by
  obtain ⟨f, hf1, hf2⟩ := Option.map_eq_some_iff.1 hf
  simp only [Prod.mk.injEq] at hf2
  obtain ⟨rfl, rfl⟩ := hf2
  unfold HO execOp
  simp only [hx, Instr.fieldAt, GOk_bind, GOk_underlying hu, hf1, Instr.sureAddr, GOk_pure, fieldPlace, GOk_sizeOf ht, if_neg hn]
  exact h
theorem o_field {x : Operand} {T ft : TypeId} {td : TypeDesc} {fs : Array Field} {i off : Nat} {cs : Array Value} {v : Value} (hx : evL l x = .agg cs) (hu : P.underlying T = some (.struct fs)) (hf : (fs[i]?).map (fun f => (f.type, f.offset)) = some (ft, off)) (hu2 : P.underlying ft = some td) (hp : plainT td = true) (hv : cs[off]? = some v)
    (h : Kl (putL l d v) s) : HO P ro ⟨d, .field T x i, ty, pos, af, gd⟩ l s Kl := by
  obtain ⟨f, hf1, hf2⟩ := Option.map_eq_some_iff.1 hf
  simp only [Prod.mk.injEq] at hf2
  obtain ⟨rfl, rfl⟩ := hf2
  unfold HO execOp
  simp only [hx, Instr.field, GOk_bind, GOk_underlying hu, hf1, asAgg, GOk_pure, part, GOk_isAgg hu2, hp, Bool.not_true, Bool.false_eq_true, if_false, hv]
  exact h
theorem o_fields {x : Operand} {T ft : TypeId} {td : TypeDesc} {fs : Array Field} {i off : Nat} {cs vs : Array Value} {z : Value} {n by_ : Nat} (hx : evL l x = .agg cs) (hu : P.underlying T = some (.struct fs)) (hf : (fs[i]?).map (fun f => (f.type, f.offset)) = some (ft, off)) (hu2 : P.underlying ft = some td) (hp : plainT td = false) (ht : TI P ft z n by_) (hv : cs.extract off (off + n) = vs)
    (h : Kl (putL l d (.agg vs)) s) : HO P ro ⟨d, .field T x i, ty, pos, af, gd⟩ l s Kl := by
  obtain ⟨f, hf1, hf2⟩ := Option.map_eq_some_iff.1 hf
  simp only [Prod.mk.injEq] at hf2
  obtain ⟨rfl, rfl⟩ := hf2
  unfold HO execOp
  simp only [hx, Instr.field, GOk_bind, GOk_underlying hu, hf1, asAgg, GOk_pure, part, GOk_isAgg hu2, hp, Bool.not_false, if_true, GOk_sizeOf ht, hv]
  exact h
/-- How many cells a type has (0 where there is none such). -/
def szT (P : Program) (t : TypeId) : Nat := ((P.info? t).map (·.size)).getD 0
theorem GOk_sizeOf' {t : TypeId} (h : (P.info? t).isSome = true) (K : Nat → St → Prop) : GOk P ro (sizeOf t) s K ↔ K (szT P t) s := by
  obtain ⟨i, hi⟩ := Option.isSome_iff_exists.1 h
  unfold sizeOf
  rw [GOk_bind, GOk_typeInfo hi, GOk_pure]
  simp [szT, hi]
theorem GOk_places : ∀ (fs : List Field) (K : List (Nat × Nat) → St → Prop), fs.all (fun f => (P.info? f.type).isSome) = true → (GOk P ro (fs.mapM fun f => do pure (f.offset, ← sizeOf f.type)) s K ↔ K (fs.map fun f => (f.offset, szT P f.type)) s)
  | [], K, _ => by simp [GOk_pure]
  | f :: fs, K, h => by
    simp only [List.all_cons, Bool.and_eq_true] at h
    simp only [List.mapM_cons, GOk_bind, GOk_sizeOf' h.1, GOk_pure, List.map_cons]
    rw [GOk_places fs _ h.2]
theorem o_build {T : TypeId} {fs : List Field} {pl : List (Nat × Nat)} {parts : Array (Nat × Operand)} {z : Value} {n by_ : Nat} {cs : Array Value} (hu : P.underlying T = some (.struct fs.toArray)) (ht : TI P T z n by_) (ha : fs.all (fun f => (P.info? f.type).isSome) = true) (hpl : (fs.map fun f => (f.offset, szT P f.type)) = pl)
    (hc : Instr.fill (fun i => pl[i]?) z.cells (parts.toList.map fun p => (p.1, evL l p.2)) = some cs) (h : Kl (putL l d (.agg cs)) s) : HO P ro ⟨d, .build T parts, ty, pos, af, gd⟩ l s Kl := by
  unfold HO execOp
  have e : (fs.toArray.mapM fun f => (do pure (f.offset, ← sizeOf f.type) : Sem (Nat × Nat))) = (List.toArray <$> fs.mapM fun f => (do pure (f.offset, ← sizeOf f.type) : Sem (Nat × Nat))) := by simp [List.mapM_toArray]
  simp only [Instr.build, GOk_bind, GOk_zeroValue ht, GOk_underlying hu, e, GOk_map, GOk_places fs _ ha, hpl]
  have e2 : (parts.map fun x => (x.1, evL l x.2)).toList = parts.toList.map fun p => (p.1, evL l p.2) := by simp
  have e3 : (fun x : Nat => pl.toArray[x]?) = fun i => pl[i]? := by funext i; simp
  rw [e2, e3, hc]
  exact h

/-! ### 13. Slices -/
theorem o_lit {t e : TypeId} {n : Nat} {parts : Array (Nat × Operand)} {z : Value} {sz by_ : Nat} {cs : Array Value} (hu : P.underlying t = some (.slice e)) (ht : TI P e z sz by_) (hn : n * sz ≤ 16777216) (hz : n * sz ≠ 0)
    (hc : Instr.fill (fun i => some (i * sz, sz)) ((Array.range (n * sz)).map (fun i => z.cells[i % z.cells.size]!)) (parts.toList.map fun p => (p.1, evL l p.2)) = some cs) (h : ∀ b, s.fresh b → Kl (putL l d (.slice (some ⟨b, 0, none⟩) n n)) (s.setO b ⟨cs.toList, cs.size, e⟩)) : HO P false ⟨d, .buildSlice t n parts, ty, pos, af, gd⟩ l s Kl := by
  unfold HO execOp
  have e2 : (parts.map fun x => (x.1, evL l x.2)).toList = parts.toList.map fun p => (p.1, evL l p.2) := by simp
  have hn' : ¬ (n * sz > 2 ^ 24) := by
    have e2 : (2 : Nat) ^ 24 = 16777216 := by decide
    omega
  simp only [Instr.buildSlice, GOk_bind, GOk_underlying hu, GOk_sizeOf ht, if_neg hn', if_neg hz, GOk_zeroValue ht, GOk_pure, e2, hc, newRow, newObj]
  refine ⟨rfl, some cs.size, fun b hb => ?_⟩
  have e4 : (s.allocAs (some cs.size) b (.cells cs e)) = s.setO b ⟨cs.toList, cs.size, e⟩ := by
    show s.setO b ⟨cs.toList.take cs.size, cs.size, e⟩ = _
    rw [List.take_of_length_le (by simp)]
  rw [e4]
  exact h b hb
/-- The empty literal. -/
theorem o_lit0 {t e : TypeId} {z : Value} {sz by_ : Nat} (hu : P.underlying t = some (.slice e)) (ht : TI P e z sz by_) (h : ∀ b, s.fresh b → Kl (putL l d (.slice (some ⟨b, 0, none⟩) 0 0)) (s.setO b ⟨[], 0, e⟩)) : HO P false ⟨d, .buildSlice t 0 #[], ty, pos, af, gd⟩ l s Kl := by
  unfold HO execOp
  simp only [Instr.buildSlice, GOk_bind, GOk_underlying hu, GOk_sizeOf ht, Nat.zero_mul, if_true, GOk_pure]
  rw [if_neg (by decide)]
  simp only [GOk_bind, GOk_pure]
  have e1 : (Array.map (fun x => (#[] : Array Value)[x % (#[] : Array Value).size]!) (Array.range 0)) = #[] := by simp
  have e2 : (Array.map (fun x : Nat × Operand => (x.1, evL l x.2)) #[]).toList = [] := by simp
  simp only [e1, e2, Instr.fill, newRow, newObj, GOk_bind, GOk_pure]
  refine ⟨rfl, some 0, fun b hb => ?_⟩
  exact h b hb
theorem Own.lit {α : Type} (K : Kd α) (e : TypeId) {s : St} {b : Nat} (hb : s.fresh b) (cs : List Value) (xs : List α) (hl : cs.length = xs.length * K.sz) (hm : xs.length ≤ maxN) (hr : ∀ i x, xs[i]? = some x → K.rep s ((cs.drop (i * K.sz)).take K.sz) x) : Own.is K e (s.setO b ⟨cs, cs.length, e⟩) (some ⟨b, 0, none⟩) xs.length xs :=
  .inr ⟨b, cs, rfl, by simp [St.setO, hl], hb.1, hl, Nat.le_refl _, hm, fun i x hx => K.mono (row_setO_new hb _) (hr i x hx)⟩
theorem newA {s : St} {b : Nat} (hb : s.fresh b) : NewA s (some ⟨b, 0, none⟩) := by
  rintro k ⟨o, ho'⟩
  injection ho' with ho'
  injection ho' with h1 _ _
  subst h1
  exact ⟨fresh_dom hb, hb.1⟩
theorem o_iaddr' {α : Type} {K : Kd α} {xs : List α} {x ix : Operand} {t e : TypeId} {z : Value} {by_ : Nat} {A : Option Addr} {c : Nat} {k : IntKind} {i : Int} (hx : evL l x = .slice A xs.length c) (hi : evL l ix = .int k i) (hu : P.underlying t = some (.slice e)) (ht : TI P e z K.sz by_) (hr : Rd K s A c xs)
    (h0 : 0 ≤ i) (h1 : i < xs.length) (h : ∀ ad cs, (hlt : i.toNat < xs.length) → K.rep s cs xs[i.toNat] → (∀ j v, cs[j]? = some v → s.has (ad.add j) v) → Kl (putL l d (.pointer (some ad))) s) : HO P ro ⟨d, .indexAddr t x ix, ty, pos, af, gd⟩ l s Kl := by
  have hlt : i.toNat < xs.length := by omega
  obtain ⟨ad, cs, rfl, h2, h3⟩ := hr.at i.toNat hlt
  exact o_iaddr hx hi hu ht h0 h1 (h _ cs hlt h2 h3)
/-- A cut of a slice that is read. -/
theorem o_cut {α : Type} {K : Kd α} {xs : List α} {x : Operand} {lo hi : Option Operand} {t e : TypeId} {z : Value} {by_ : Nat} {A : Option Addr} {c : Nat} {kl kh : IntKind} {L H : Int} (hx : evL l x = .slice A xs.length c) (hlo : (lo.map (evL l)).getD (.int kl 0) = .int kl L) (hhi : (hi.map (evL l)).getD (.int kh xs.length) = .int kh H) (hu : P.underlying t = some (.slice e)) (ht : TI P e z K.sz by_) (hr : Rd K s A c xs)
    (h0 : 0 ≤ L) (h1 : L ≤ H) (h2 : H ≤ xs.length) (h : ∀ A', Rd K s A' (c - L.toNat) ((xs.take H.toNat).drop L.toNat) → Kl (putL l d (.slice A' ((xs.take H.toNat).drop L.toNat).length (c - L.toNat))) s) : HO P ro ⟨d, .slice t x lo hi none, ty, pos, af, gd⟩ l s Kl := by
  have hc := hr.1
  have hm := hr.2.1
  have hb : ∀ (y : Nat) (code : BoundsCode) (k : IntKind) (n : Int) (KK : Nat → St → Prop), 0 ≤ n → n ≤ y → KK n.toNat s → GOk P ro (Instr.sliceBound (.int k n) y code) s KK := fun y code k n KK g0 g1 hk => by
    unfold Instr.sliceBound
    simp only [GOk_bind, asIntOf, GOk_pure]
    rw [if_pos ⟨g0, g1⟩]
    exact hk
  have hbounds : ∀ KK : Nat × Nat × Nat → St → Prop, KK (L.toNat, H.toNat, c) s → GOk P ro (Instr.sliceBounds true xs.length c (lo.map (evL l)) (hi.map (evL l)) none) s KK := fun KK hk => by
    unfold Instr.sliceBounds
    cases hi with
    | none =>
      have eH : (xs.length : Int) = H := by injection hhi
      have eH' : xs.length = H.toNat := by omega
      cases lo with
      | none =>
        have : (0 : Int) = L := by injection hlo
        subst this
        simp only [Option.map_none, GOk_bind, GOk_pure, eH']
        exact hk
      | some ol =>
        have : evL l ol = .int kl L := hlo
        simp only [Option.map_none, Option.map_some, GOk_bind, GOk_pure, Option.isSome_none, Bool.false_eq_true, if_false, this, eH']
        exact hb _ _ _ _ _ h0 (by omega) hk
    | some oh =>
      have e1 : evL l oh = .int kh H := hhi
      cases lo with
      | none =>
        have : (0 : Int) = L := by injection hlo
        subst this
        simp only [Option.map_none, Option.map_some, GOk_bind, GOk_pure, e1, if_true]
        exact hb _ _ _ _ _ (by omega) (by omega) hk
      | some ol =>
        have e2 : evL l ol = .int kl L := hlo
        simp only [Option.map_none, Option.map_some, GOk_bind, GOk_pure, Option.isSome_none, Bool.false_eq_true, if_false, if_true, e1, e2]
        exact hb _ _ _ _ _ (by omega) (by omega) (hb _ _ _ _ _ h0 (by omega) hk)
  unfold HO execOp
  have hna : ∀ n e', P.underlying t ≠ some (.array n e') := fun n e' h' => by rw [hu] at h'; cases h'
  simp only [hx, Instr.sliceAt, GOk_bind, GOk_underlying hu, Option.map_none, Instr.slice]
  refine hbounds _ ?_
  simp only [GOk_sizeOf ht, GOk_pure]
  have hlen : H.toNat - L.toNat = ((xs.take H.toNat).drop L.toNat).length := by simp; omega
  rw [hlen]
  refine h _ ⟨by rw [← hlen]; omega, by omega, fun hne => ?_⟩
  have hne2 : L.toNat < H.toNat := by
    have : ((xs.take H.toNat).drop L.toNat).length ≠ 0 := fun e' => hne (List.eq_nil_of_length_eq_zero e')
    omega
  obtain ⟨b, o, rfl, hcell⟩ := hr.2.2 (fun e' => by have := congrArg List.length e'; rw [List.length_nil] at this; omega)
  refine ⟨b, o + L.toNat * K.sz, ?_, fun i u hu' => ?_⟩
  · rw [if_neg (by omega)]
    simp only [Option.map_some, addp]
  · rw [List.getElem?_drop, List.getElem?_take] at hu'
    split at hu'
    · obtain ⟨cs, r1, r2⟩ := hcell _ u hu'
      refine ⟨cs, r1, fun j v hj => ?_⟩
      have := r2 j v hj
      rwa [Nat.add_mul, ← Nat.add_assoc] at this
    · cases hu'

/-! ### 14. Small ones -/
theorem o_conv {x : Operand} {st dt : TypeId} {sd : TypeDesc} {k k' : IntKind} {n : Int} (hx : evL l x = .int k n) (hs : P.underlying st = some sd) (hd : P.underlying dt = some (.int k')) (h : Kl (putL l d (.int k' (k'.wrap n))) s) : HO P ro ⟨d, .convert st dt x, ty, pos, af, gd⟩ l s Kl := by
  unfold HO execOp
  simp only [hx, convert, GOk_bind, GOk_underlying hs, GOk_underlying hd]
  cases sd <;> exact h
theorem o_max2 {x y : Operand} {ts : Array TypeId} {k k' : IntKind} {n m : Int} (hx : evL l x = .int k n) (hy : evL l y = .int k' m) (h : Kl (putL l d (.int k (max n m))) s) : HO P ro ⟨d, .call { callee := .builtin .max, args := #[x, y], argTypes := ts }, ty, pos, af, gd⟩ l s Kl := by
  unfold HO execOp
  have e : (if m > n then m else n) = max n m := by omega
  simp [resolve, invoke, builtin, Builtin.max_, hx, hy, Builtin.max2, GOk_bind, GOk_pure, e]
  exact h
theorem o_min2 {x y : Operand} {ts : Array TypeId} {k k' : IntKind} {n m : Int} (hx : evL l x = .int k n) (hy : evL l y = .int k' m) (h : Kl (putL l d (.int k (min n m))) s) : HO P ro ⟨d, .call { callee := .builtin .min, args := #[x, y], argTypes := ts }, ty, pos, af, gd⟩ l s Kl := by
  unfold HO execOp
  have e : (if m < n then m else n) = min n m := by omega
  simp [resolve, invoke, builtin, Builtin.min_, hx, hy, Builtin.min2, GOk_bind, GOk_pure, e]
  exact h
theorem o_min3 {x y z : Operand} {ts : Array TypeId} {k k' k2 : IntKind} {n m q : Int} (hx : evL l x = .int k n) (hy : evL l y = .int k' m) (hz : evL l z = .int k2 q) (h : Kl (putL l d (.int k (min n (min m q)))) s) : HO P ro ⟨d, .call { callee := .builtin .min, args := #[x, y, z], argTypes := ts }, ty, pos, af, gd⟩ l s Kl := by
  unfold HO execOp
  have e : (if m < n then m else n) = min n m := by omega
  have e2 : (if q < min n m then q else min n m) = min n (min m q) := by omega
  simp [resolve, invoke, builtin, Builtin.min_, hx, hy, hz, Builtin.min2, GOk_bind, GOk_pure, e, e2]
  exact h
theorem o_func {fn : Fn} {first cap : Array Operand} {fs cs : List Value} (hf : first.toList.map (evL l) = fs) (hc : cap.toList.map (evL l) = cs) (h : Kl (putL l d (.func fn fs.toArray cs.toArray)) s) : HO P ro ⟨d, .makeFunc fn first cap, ty, pos, af, gd⟩ l s Kl := by
  unfold HO execOp
  have e1 : first.map (evL l) = fs.toArray := by apply Array.ext'; simpa using hf
  have e2 : cap.map (evL l) = cs.toArray := by apply Array.ext'; simpa using hc
  simp only [Instr.makeFunc, e1, e2, GOk_bind, GOk_pure]
  exact h
end
end Go.Proofs.GL
