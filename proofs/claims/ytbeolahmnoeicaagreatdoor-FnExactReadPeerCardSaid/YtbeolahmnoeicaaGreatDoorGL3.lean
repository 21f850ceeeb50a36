/- A logic of what is known of memory, over the kit's weakest preconditions: one part. No conditions: lemmas. -/
import Derived.Test.YtbeolahmnoeicaaGreatDoorGLmod
set_option linter.unusedVariables false
set_option linter.unusedSimpArgs false
namespace Go.Proofs.GL
open Go
theorem y5 {P : Program} {ro : Bool} {α β : Type} (m : Sem α) (f : α → Sem β) : ∀ (s : St) (K : β → St → Prop), GOk P ro (m >>= f) s K ↔ GOk P ro m s (fun x s' => GOk P ro (f x) s' K) := by
 show ∀ (s : St) (K : β → St → Prop), GOk P ro (Sem.bind m f) s K ↔ GOk P ro m s (fun x s' => GOk P ro (f x) s' K)
 induction m with
 | pure a => exact fun s K => Iff.rfl
 | load md a k ih =>
  intro s K
  simp only [Sem.bind, GOk]
  constructor
  ·rintro ⟨v, hv, h⟩; exact ⟨v, hv, (ih v s K).1 h⟩
  ·rintro ⟨v, hv, h⟩; exact ⟨v, hv, (ih v s K).2 h⟩
 | store md a v k ih =>
  intro s K
  simp only [Sem.bind, GOk]
  constructor
  ·rintro ⟨h0, hc, s', hp, h⟩; exact ⟨h0, hc, s', hp, (ih s' K).1 h⟩
  ·rintro ⟨h0, hc, s', hp, h⟩; exact ⟨h0, hc, s', hp, (ih s' K).2 h⟩
 | new o k ih =>
  intro s K
  simp only [Sem.bind, GOk]
  constructor
  ·rintro ⟨h0, v, h⟩; exact ⟨h0, v, fun b hb => (ih b _ K).1 (h b hb)⟩
  ·rintro ⟨h0, v, h⟩; exact ⟨h0, v, fun b hb => (ih b _ K).2 (h b hb)⟩
 | shape r k ih =>
  intro s K
  simp only [Sem.bind, GOk]
  constructor
  ·rintro ⟨y, hy, h⟩; exact ⟨y, hy, (ih _ s K).1 h⟩
  ·rintro ⟨y, hy, h⟩; exact ⟨y, hy, (ih _ s K).2 h⟩
 | freeze a n k ih => intro s K; simp only [Sem.bind, GOk]
 | frozen a k ih =>
  intro s K
  simp only [Sem.bind, GOk]
  constructor
  ·rintro ⟨hy, h⟩; exact ⟨hy, (ih _ s K).1 h⟩
  ·rintro ⟨hy, h⟩; exact ⟨hy, (ih _ s K).2 h⟩
 | getObj r k ih =>
  intro s K
  simp only [Sem.bind, GOk]
  constructor
  ·rintro ⟨y, hy, h⟩; exact ⟨y, hy, (ih _ s K).1 h⟩
  ·rintro ⟨y, hy, h⟩; exact ⟨y, hy, (ih _ s K).2 h⟩
 | setObj r o k ih =>
  intro s K
  simp only [Sem.bind, GOk]
  constructor
  ·rintro ⟨h0, h1, h2, h⟩; exact ⟨h0, h1, h2, (ih _ K).1 h⟩
  ·rintro ⟨h0, h1, h2, h⟩; exact ⟨h0, h1, h2, (ih _ K).2 h⟩
 | choose q k ih =>
  intro s K
  simp only [Sem.bind, GOk]
  split
  ·exact and_congr Iff.rfl (ih _ s K)
  ·constructor
   ·rintro ⟨h0, h⟩; exact ⟨h0, fun n => (ih _ s K).1 (h n)⟩
   ·rintro ⟨h0, h⟩; exact ⟨h0, fun n => (ih _ s K).2 (h n)⟩
 | sys c k ih => intro s K; simp only [Sem.bind, GOk]
 | program k ih => intro s K; simp only [Sem.bind, GOk]; exact ih P s K
 | mark md k ih => intro s K; simp only [Sem.bind, GOk]; exact ih s K
 | halt h => intro s K; simp only [Sem.bind, GOk]
theorem GOk_map {P : Program} {ro : Bool} {α β : Type} (m : Sem α) (f : α → β) (s : St) (K : β → St → Prop) : GOk P ro (f <$> m) s K ↔ GOk P ro m s (fun x s' => K (f x) s') := y5 m (fun x => pure (f x)) s K
theorem GOk.mono {P : Program} {ro : Bool} {α : Type} {K K' : α → St → Prop} (hk : ∀ x s, K x s → K' x s) : ∀ (m : Sem α) (s : St), GOk P ro m s K → GOk P ro m s K' := by
 intro m
 induction m with
 | pure a => exact fun s h => hk _ _ h
 | load md a k ih => rintro s ⟨v, hv, h⟩; exact ⟨v, hv, ih v s h⟩
 | store md a v k ih => rintro s ⟨h0, hc, s', hp, h⟩; exact ⟨h0, hc, s', hp, ih s' h⟩
 | new o k ih => rintro s ⟨h0, v, h⟩; exact ⟨h0, v, fun b hb => ih b _ (h b hb)⟩
 | shape r k ih => rintro s ⟨y, hy, h⟩; exact ⟨y, hy, ih _ s h⟩
 | freeze a n k ih => exact fun s h => h
 | frozen a k ih => rintro s ⟨hy, h⟩; exact ⟨hy, ih _ s h⟩
 | getObj r k ih => rintro s ⟨y, hy, h⟩; exact ⟨y, hy, ih _ s h⟩
 | setObj r o k ih => rintro s ⟨h0, h1, h2, h⟩; exact ⟨h0, h1, h2, ih _ h⟩
 | choose q k ih =>
  intro s h
  unfold GOk at h ⊢
  obtain ⟨h0, h⟩ := h
  split at h
  ·rename_i hq; rw [if_pos hq]; exact ⟨h0, ih _ s h⟩
  ·rename_i hq; rw [if_neg hq]; exact ⟨h0, fun n => ih _ s (h n)⟩
 | sys c k ih => exact fun s h => h
 | program k ih => exact fun s h => ih P s h
 | mark md k ih => exact fun s h => ih s h
 | halt h => exact fun s h => h
section
variable {P : Program} {ro : Bool} {s : St}
theorem y8 {α : Type} (x : α) (K : α → St → Prop) : GOk P ro (pure x : Sem α) s K ↔ K x s := Iff.rfl
theorem GOk_pure' {α : Type} (x : α) (K : α → St → Prop) : GOk P ro (Sem.pure x) s K ↔ K x s := Iff.rfl
theorem yb {t : TypeId} {d : TypeDesc} (h : P.underlying t = some d) (K : TypeDesc → St → Prop) : GOk P ro (underlying t) s K ↔ K d s := by
 unfold underlying
 rw [y5]
 show GOk P ro (match P.underlying t with | some d => pure d | none => stuck _) s K ↔ _
 rw [h]
 exact Iff.rfl
theorem GOk_typeInfo {t : TypeId} {d : TypeInfo} (h : P.info? t = some d) (K : TypeInfo → St → Prop) : GOk P ro (typeInfo t) s K ↔ K d s := by
 unfold typeInfo
 rw [y5]
 show GOk P ro (match P.info? t with | some d => pure d | none => stuck _) s K ↔ _
 rw [h]
 exact Iff.rfl
def TI (P : Program) (t : TypeId) (z : Value) (n bytes : Nat) : Prop := (P.info? t).map (fun i => (i.zero, i.size, i.bytes)) = some (some z, n, bytes)
theorem TI.get {t z n b} (h : TI P t z n b) : ∃ i, P.info? t = some i ∧ i.zero = some z ∧ i.size = n ∧ i.bytes = b := by
 obtain ⟨i, hi, hh⟩ := Option.map_eq_some_iff.1 h
 simp only [Prod.mk.injEq] at hh
 exact ⟨i, hi, hh⟩
theorem GOk_sizeOf {t z n b} (h : TI P t z n b) (K : Nat → St → Prop) : GOk P ro (sizeOf t) s K ↔ K n s := by
 obtain ⟨i, hi, _, h2, _⟩ := h.get
 unfold sizeOf
 rw [y5, GOk_typeInfo hi, y8, h2]
theorem GOk_zeroValue {t z n b} (h : TI P t z n b) (K : Value → St → Prop) : GOk P ro (zeroValue t) s K ↔ K z s := by
 obtain ⟨i, hi, h1, _, _⟩ := h.get
 unfold zeroValue
 rw [y5, GOk_typeInfo hi, h1]
 exact Iff.rfl
theorem GOk_load {a : Addr} {m : Mode} {v : Value} {K : Value → St → Prop} (h : s.has a v) (hk : K v s) : GOk P ro (load a m) s K := ⟨v, h, hk⟩
def plainT : TypeDesc → Bool
 | .struct _ | .array _ _ => false
 | _ => true
theorem GOk_isAgg {t : TypeId} {d : TypeDesc} (h : P.underlying t = some d) (K : Bool → St → Prop) : GOk P ro (isAgg t) s K ↔ K (!plainT d) s := by
 unfold isAgg
 rw [y5, yb h]
 cases d <;> exact Iff.rfl
theorem GOk_loadCellsFrom (a : Addr) : ∀ (cs : List Value) (i : Nat) (acc : Array Value) (K : Array Value → St → Prop), (∀ j v, cs[j]? = some v → s.has (a.add (i + j)) v) → K (acc ++ cs.toArray) s → GOk P ro (loadCellsFrom a i cs.length acc) s K := by
 intro cs
 induction cs with
 | nil =>
  intro i acc K _ hk
  have e : acc ++ ([] : List Value).toArray = acc := by simp
  rw [e] at hk
  exact hk
 | cons c cs ih =>
  intro i acc K h hk
  simp only [List.length_cons, loadCellsFrom]
  rw [y5]
  refine GOk_load (by simpa using h 0 c rfl) ?_
  refine ih (i + 1) _ K (fun j v hj => ?_) ?_
  ·have := h (j + 1) v (by simpa using hj)
   rwa [show i + (j + 1) = i + 1 + j by omega] at this
  ·have : acc.push c ++ cs.toArray = acc ++ (c :: cs).toArray := by
    apply Array.ext'
    simp
   rwa [this]
theorem GOk_loadCells {a : Addr} {cs : List Value} {n : Nat} {K : Array Value → St → Prop} (hn : n = cs.length) (h : ∀ j v, cs[j]? = some v → s.has (a.add j) v) (hk : K cs.toArray s) : GOk P ro (loadCells a n) s K := by
 subst hn
 exact GOk_loadCellsFrom a cs 0 #[] K (fun j v hj => by simpa using h j v hj) (by simpa using hk)
end
section
variable {P : Program} {ro : Bool} {l : List Value} {s : St} {K : List Value → St → Prop} {d : Option Tmp} {ty : TypeId} {pos : String} {af : Array Edge} {gd : Option (Nat × Bool)}
theorem y9 {x : Operand} (h : K (yh l d (evL l x)) s) : HO P ro ⟨d, .move x, ty, pos, af, gd⟩ l s K := h
theorem o_assign {x : Operand} (h : K (yh l d (evL l x)) s) : HO P ro ⟨d, .assign x, ty, pos, af, gd⟩ l s K := h
theorem o_pick {c x y : Operand} {b : Bool} (hc : evL l c = .bool b) (h : K (yh l d (if b then evL l x else evL l y)) s) : HO P ro ⟨d, .pick c x y, ty, pos, af, gd⟩ l s K := by
 unfold HO execOp
 simp only [hc]
 exact h
def binI (op : BinOp) (k : IntKind) (n m : Int) : Option Value :=
 match op with
 | .add => some (.int k (k.wrap (n + m)))
 | .sub => some (.int k (k.wrap (n - m)))
 | .mul => some (.int k (k.wrap (n * m)))
 | .eql => some (.bool (n == m))
 | .neq => some (.bool (n != m))
 | .lss => some (.bool (decide (n < m)))
 | .leq => some (.bool (decide (n ≤ m)))
 | .gtr => some (.bool (decide (n > m)))
 | .geq => some (.bool (decide (n ≥ m)))
 | .and => some (.int k (bits .and k n m))
 | .or => some (.int k (bits .or k n m))
 | .xor => some (.int k (bits .xor k n m))
 | _ => none
theorem o_bin {op : BinOp} {xt yt : TypeId} {x y : Operand} {k : IntKind} {n m : Int} {v : Value} (hx : evL l x = .int k n) (hy : evL l y = .int k m) (hv : binI op k n m = some v) (h : K (yh l d v) s) :
  HO P ro ⟨d, .binOp op xt x y yt, ty, pos, af, gd⟩ l s K := by
 unfold HO execOp
 cases op <;> simp only [binI] at hv <;> first | (cases hv; done) | (injection hv with hv; subst hv; simp [hx, hy, eqGuard, binOp, Op.intArith, Op.intCmp, Op.intBits, y5, y8]; exact h)
theorem o_quo {xt yt : TypeId} {x y : Operand} {k : IntKind} {n m : Int} (hx : evL l x = .int k n) (hy : evL l y = .int k m) (hm : m ≠ 0) (h : K (yh l d (.int k (k.wrap (n.tdiv m)))) s) :
  HO P ro ⟨d, .binOp .quo xt x y yt, ty, pos, af, gd⟩ l s K := by
 unfold HO execOp
 simp [hx, hy, eqGuard, binOp, Op.intDiv, y5, y8, hm]
 exact h
theorem o_rem {xt yt : TypeId} {x y : Operand} {k : IntKind} {n m : Int} (hx : evL l x = .int k n) (hy : evL l y = .int k m) (hm : m ≠ 0) (h : K (yh l d (.int k (n.tmod m))) s) :
  HO P ro ⟨d, .binOp .rem xt x y yt, ty, pos, af, gd⟩ l s K := by
 unfold HO execOp
 simp [hx, hy, eqGuard, binOp, Op.intDiv, y5, y8, hm]
 exact h
theorem o_not {xt : TypeId} {x : Operand} {b : Bool} (hx : evL l x = .bool b) (h : K (yh l d (.bool (!b))) s) : HO P ro ⟨d, .unOp .not xt x, ty, pos, af, gd⟩ l s K := by
 unfold HO execOp
 simp [hx, Op.unary, y5, y8]
 exact h
theorem o_len {xs : Operand} {t e : TypeId} {A : Option Addr} {n c : Nat} (hx : evL l xs = .slice A n c) (hu : P.underlying t = some (.slice e)) (h : K (yh l d (.int .i64 n)) s) :
  HO P ro ⟨d, .call { callee := .builtin .len, args := #[xs], argTypes := #[t] }, ty, pos, af, gd⟩ l s K := by
 unfold HO execOp
 simp [hx, resolve, invoke, builtin, Builtin.len_, y5, y8, yb hu, goInt]
 exact h
theorem o_lens {xs : Operand} {t : TypeId} {b : ByteArray} (hx : evL l xs = .string b) (hu : P.underlying t = some .string) (h : K (yh l d (.int .i64 b.size)) s) :
  HO P ro ⟨d, .call { callee := .builtin .len, args := #[xs], argTypes := #[t] }, ty, pos, af, gd⟩ l s K := by
 unfold HO execOp
 simp [hx, resolve, invoke, builtin, Builtin.len_, y5, y8, yb hu, goInt]
 exact h
theorem o_iaddr {xs ix : Operand} {t e : TypeId} {z : Value} {sz by_ : Nat} {b : Addr} {n c : Nat} {k : IntKind} {i : Int} (hx : evL l xs = .slice (some b) n c) (hi : evL l ix = .int k i) (hu : P.underlying t = some (.slice e)) (ht : TI P e z sz by_)
  (h0 : 0 ≤ i) (h1 : i < n) (h : K (yh l d (.pointer (some (b.add (i.toNat * sz))))) s) : HO P ro ⟨d, .indexAddr t xs ix, ty, pos, af, gd⟩ l s K := by
 unfold HO execOp
 simp [hx, hi, Instr.indexAt, asIntOf, y5, GOk_map, y8, yb hu, GOk_sizeOf ht, h0, h1]
 exact h
theorem o_load {x : Operand} {t : TypeId} {td : TypeDesc} {ad : Addr} {v : Value} (hx : evL l x = .pointer (some ad)) (hu : P.underlying t = some td) (hp : plainT td = true) (hc : s.has ad v) (h : K (yh l d v) s) : HO P ro ⟨d, .load t x, ty, pos, af, gd⟩ l s K := by
 unfold HO execOp
 simp only [hx, Instr.loadAt, Instr.sureAddr, loadVar, y5, y8, GOk_isAgg hu, hp, Bool.not_true, Bool.false_eq_true, if_false]
 exact GOk_load hc h
theorem o_loads {x : Operand} {t : TypeId} {td : TypeDesc} {ad : Addr} {z : Value} {sz by_ : Nat} {cs : List Value} (hx : evL l x = .pointer (some ad)) (hu : P.underlying t = some td) (hp : plainT td = false) (ht : TI P t z sz by_) (hn : sz = cs.length)
  (hc : ∀ j v, cs[j]? = some v → s.has (ad.add j) v) (h : K (yh l d (.agg cs.toArray)) s) : HO P ro ⟨d, .load t x, ty, pos, af, gd⟩ l s K := by
 unfold HO execOp
 simp only [hx, Instr.loadAt, Instr.sureAddr, loadVar, y5, y8, GOk_isAgg hu, hp, Bool.not_false, if_true, GOk_sizeOf ht]
 exact GOk_loadCells hn hc h
theorem yc {x : Operand} {i : Nat} {vs : Array Value} {v : Value} (hx : evL l x = .tuple vs) (hv : vs[i]? = some v) (h : K (yh l d v) s) : HO P ro ⟨d, .extract x i, ty, pos, af, gd⟩ l s K := by
 unfold HO execOp
 simp [hx, Instr.extract, hv, y5, y8]
 exact h
theorem enters_fn {f : FuncId} {fn : Func} {args : Array Value} {R : Next → St → Prop} (hf : P.funcs[f]? = some fn) (hname : (fn.name == "runtime.NumGoroutine") = false) (hb : fn.body.isSome = true) (h : R (.enter f args) s) : GOk P ro (callFunc f args) s R := by
 unfold callFunc
 rw [y5]
 show GOk P ro (match P.funcs[f]? with | none => _ | some fn => _) s R
 rw [hf]
 have : fn.body.isNone = false := by cases h : fn.body <;> simp_all
 simp only [hname, this, Bool.false_eq_true, if_false]
 exact h
theorem o_call {f : FuncId} {fn : Func} {as : Array Operand} {ts : Array TypeId} {args : Array Value} {R : Value → St → Prop} (hf : P.funcs[f]? = some fn) (hname : (fn.name == "runtime.NumGoroutine") = false) (hb : fn.body.isSome = true) (hargs : as.toList.map (evL l) = args.toList)
  (hc : yg P f args s R) (h : ∀ v s', R v s' → K (yh l d v) s') : HO P false ⟨d, .call { callee := .value (.func f), args := as, argTypes := ts }, ty, pos, af, gd⟩ l s K := by
 unfold HO execOp
 simp only [resolve, evL, Deferred.ofValue, y5, y8, invoke]
 refine enters_fn hf hname hb ?_
 have e : (#[] : Array Value) ++ as.map (evL l) ++ #[] = args := by
  apply Array.ext'
  simpa using hargs
 refine ⟨rfl, ?_⟩
 rw [show as.map (fun x => evL l x) = as.map (evL l) from rfl] at *
 rw [e]
 exact hc.mono h
theorem o_callv {g : Operand} {f : FuncId} {fn : Func} {as : Array Operand} {ts : Array TypeId} {first cap args : Array Value} {R : Value → St → Prop} (hg : evL l g = .func (.func f) first cap) (hf : P.funcs[f]? = some fn) (hname : (fn.name == "runtime.NumGoroutine") = false) (hb : fn.body.isSome = true) (vs : List Value) (hvs : as.toList.map (evL l) = vs) (hargs : first ++ vs.toArray ++ cap = args)
  (hc : yg P f args s R) (h : ∀ v s', R v s' → K (yh l d v) s') : HO P false ⟨d, .call { callee := .value g, args := as, argTypes := ts }, ty, pos, af, gd⟩ l s K := by
 unfold HO execOp
 simp only [resolve, hg, Deferred.ofValue, y5, y8, invoke]
 refine enters_fn hf hname hb ?_
 have e : first ++ as.map (evL l) ++ cap = args := by
  rw [← hargs, ← hvs]
  congr 2
  apply Array.ext'
  simp
 refine ⟨rfl, ?_⟩
 rw [e]
 exact hc.mono h
theorem o_alloc {e : TypeId} {z : Value} {sz by_ : Nat} (ht : TI P e z sz by_) (h : ∀ b, s.fresh b → K (yh l d (.pointer (some ⟨b, 0, none⟩))) (s.setT b (z.cells.toList, e))) : HO P false ⟨d, .alloc e, ty, pos, af, gd⟩ l s K := by
 unfold HO execOp
 simp only [Instr.alloc, y5, GOk_zeroValue ht, newVar, newRow, newObj, y8]
 refine ⟨rfl, none, fun b hb => ?_⟩
 exact h b hb
theorem o_box {e : TypeId} {x : Operand} {cs : Array Value} (hx : evL l x = .agg cs) (h : ∀ b, s.fresh b → K (yh l d (.pointer (some ⟨b, 0, none⟩))) (s.setT b (cs.toList, e))) : HO P false ⟨d, .box e x, ty, pos, af, gd⟩ l s K := by
 unfold HO execOp
 simp only [hx, Instr.box, y5, newVar, newRow, newObj, y8, Value.cells]
 refine ⟨rfl, none, fun b hb => ?_⟩
 exact h b hb
def setN : List Value → Nat → List Value → List Value
 | cs, _, [] => cs
 | cs, i, v :: vs => setN (cs.set i v) (i + 1) vs
theorem setT_setT (s : St) (b : Nat) (y z : List Value × TypeId) : (s.setT b y).setT b z = s.setT b z := by
 unfold St.setT
 congr 1
 funext k
 by_cases h : k = b <;> simp [h]
theorem setO_setO (s : St) (b : Nat) (y z : Own) : (s.setO b y).setO b z = s.setO b z := by
 unfold St.setO
 congr 1
 funext k
 by_cases h : k = b <;> simp [h]
theorem GOk_storeT {b off : Nat} {T : TypeId} {KU : Unit → St → Prop} : ∀ (vs cs : List Value) (i : Nat) (s : St), s.t b = some (cs, T) → s.g b = none → off + i + vs.length ≤ cs.length → (∀ v ∈ vs, isCell v = true) → KU () (match vs with | [] => s | _ => s.setT b (setN cs (off + i) vs, T)) → GOk P false (storeCells ⟨b, off, none⟩ vs i) s KU := by
 intro vs
 induction vs with
 | nil => intro cs i s _ _ _ _ hk; exact hk
 | cons v vs ih =>
  intro cs i s hb hg hl hc hk
  unfold storeCells
  rw [y5]
  have ha : (⟨b, off, none⟩ : Addr).add i = ⟨b, off + i, none⟩ := by unfold Addr.add; split <;> simp_all
  rw [ha]
  simp only [List.length_cons] at hl
  refine ⟨rfl, hc v (by simp), s.setT b (cs.set (off + i) v, T), ⟨rfl, .inr ?_⟩, ?_⟩
  ·simp only [St.putT, hb]
   rw [if_pos ⟨by omega, hg⟩]
  ·refine ih (cs.set (off + i) v) (i + 1) (s.setT b (cs.set (off + i) v, T)) (by simp [St.setT]) hg (by simp; omega) (fun u hu => hc u (by simp [hu])) ?_
   cases vs with
   | nil => simpa [setN] using hk
   | cons u us =>
    dsimp only at hk ⊢
    rw [setT_setT]
    simpa [setN, Nat.add_assoc] using hk
theorem o_storeT {x y : Operand} {e T : TypeId} {b off : Nat} {v : Value} {cs vs : List Value} {z : Value} {sz by_ : Nat} (hx : evL l x = .pointer (some ⟨b, off, none⟩)) (hy : evL l y = v) (hv : v.cells.toList = vs) (ht : TI P e z sz by_) (hn : sz = vs.length) (hne : vs ≠ []) (hb : s.t b = some (cs, T)) (hg : s.g b = none)
  (hl : off + vs.length ≤ cs.length) (hc : ∀ v ∈ vs, isCell v = true) (h : K (yh l d undef) (s.setT b (setN cs off vs, T))) : HO P false ⟨d, .store e x y, ty, pos, af, gd⟩ l s K := by
 unfold HO execOp
 have hsz : v.cells.size = sz := by rw [hn, ← hv]; simp
 simp only [hx, hy, Instr.storeAt, Instr.sureAddr, y5, y8, storeVar, GOk_sizeOf ht, hsz, ne_eq, not_true_eq_false, if_false, hv]
 refine GOk_storeT vs cs 0 s hb hg (by omega) hc ?_
 cases vs with
 | nil => exact absurd rfl hne
 | cons u us => exact ⟨rfl, h⟩
end
end Go.Proofs.GL

