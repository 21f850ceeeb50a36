/- A logic of what is known of memory, over the kit's weakest preconditions: one part. No conditions: lemmas. -/
import Derived.Test.YtbeolahmnoeicaaGreatDoorGL7
set_option linter.unusedVariables false
set_option linter.unusedSimpArgs false
namespace Go.Proofs.GL
open Go
section
variable {P : Program} {ro : Bool} {l : List Value} {s : St} {Kl : List Value → St → Prop} {d : Option Tmp} {ty : TypeId} {pos : String} {af : Array Edge} {gd : Option (Nat × Bool)}
def dstOf : List Oper → Nat → Option Tmp
 | [], _ => none
 | o :: _, 0 => o.dst
 | _ :: os, n + 1 => dstOf os n
theorem dstOf_eq : ∀ (os : List Oper) (j : Nat), dstOf os j = (os[j]?).bind (·.dst)
 | [], j => by simp [dstOf]
 | o :: os, 0 => by simp [dstOf]
 | o :: os, n + 1 => by simp [dstOf, dstOf_eq os n]
theorem wantT {ops : Array Oper} {o : Oper} {j : Nat} {b c : Bool} {t : Tmp} (hg : o.guard = some (j, b)) (hd : dstOf ops.toList j = some t) (hl : getL l t = .bool c) (hlen : Nat.ble (t + 1) l.length = true) (hc : c = b) : wantL ops o l = true := by
 rw [dstOf_eq, Array.getElem?_toList] at hd
 unfold wantL Region.wanted yielded
 have h1 : l[t]? = some (.bool c) := by
  have : t < l.length := Nat.le_of_ble_eq_true hlen
  rw [getL_eq, List.getElem?_eq_getElem this] at hl
  rw [List.getElem?_eq_getElem this]
  exact congrArg some hl
 simp [hg, hd, h1, hc]
theorem wantF {ops : Array Oper} {o : Oper} {j : Nat} {b c : Bool} {t : Tmp} (hg : o.guard = some (j, b)) (hd : dstOf ops.toList j = some t) (hl : getL l t = .bool c) (hlen : Nat.ble (t + 1) l.length = true) (hc : c = !b) : wantL ops o l = false := by
 rw [dstOf_eq, Array.getElem?_toList] at hd
 unfold wantL Region.wanted yielded
 have h1 : l[t]? = some (.bool c) := by
  have : t < l.length := Nat.le_of_ble_eq_true hlen
  rw [getL_eq, List.getElem?_eq_getElem this] at hl
  rw [List.getElem?_eq_getElem this]
  exact congrArg some hl
 simp [hg, hd, h1, hc]
theorem wantU {ops : Array Oper} {o : Oper} {j : Nat} {b : Bool} {t : Tmp} (hg : o.guard = some (j, b)) (hd : dstOf ops.toList j = some t) (hl : getL l t = undef) (hlen : Nat.ble (t + 1) l.length = true) : wantL ops o l = false := by
 rw [dstOf_eq, Array.getElem?_toList] at hd
 unfold wantL Region.wanted yielded
 have h1 : l[t]? = some undef := by
  have : t < l.length := Nat.le_of_ble_eq_true hlen
  rw [getL_eq, List.getElem?_eq_getElem this] at hl
  rw [List.getElem?_eq_getElem this]
  exact congrArg some hl
 simp [hg, hd, h1, undef]
theorem ye {c x y : Operand} {b : Bool} (hc : evL l c = .bool b) (hb : b = true) (h : Kl (yh l d (evL l x)) s) : HO P ro ⟨d, .pick c x y, ty, pos, af, gd⟩ l s Kl := by
 subst hb; exact o_pick hc h
theorem yd {c x y : Operand} {b : Bool} (hc : evL l c = .bool b) (hb : b = false) (h : Kl (yh l d (evL l y)) s) : HO P ro ⟨d, .pick c x y, ty, pos, af, gd⟩ l s Kl := by
 subst hb; exact o_pick hc h
theorem o_faddr' {x : Operand} {T ft : TypeId} {fs : Array Field} {i off : Nat} {b o : Nat} {z : Value} {n by_ : Nat} (hx : evL l x = .pointer (some ⟨b, o, none⟩)) (hu : P.underlying T = some (.struct fs)) (hf : (fs[i]?).map (fun f => (f.type, f.offset)) = some (ft, off)) (ht : TI P ft z n by_) (hn : n ≠ 0)
  (h : Kl (yh l d (.pointer (some ⟨b, o + off, none⟩))) s) : HO P ro ⟨d, .fieldAddr T x i, ty, pos, af, gd⟩ l s Kl := by
 refine o_faddr hx hu hf ht hn ?_
 rw [addp]
 exact h
theorem o_loads' {x : Operand} {t : TypeId} {td : TypeDesc} {b o : Nat} {z : Value} {sz by_ : Nat} (cs : List Value) (hx : evL l x = .pointer (some ⟨b, o, none⟩)) (hu : P.underlying t = some td) (hp : plainT td = false) (ht : TI P t z sz by_) (hn : sz = cs.length)
  (hc : ∀ j v, cs[j]? = some v → s.has ⟨b, o + j, none⟩ v) (h : Kl (yh l d (.agg cs.toArray)) s) : HO P ro ⟨d, .load t x, ty, pos, af, gd⟩ l s Kl :=
 o_loads hx hu hp ht hn (fun j v hj => by rw [addp]; exact hc j v hj) h
theorem o_load' {x : Operand} {t : TypeId} {td : TypeDesc} {b o : Nat} {v : Value} (hx : evL l x = .pointer (some ⟨b, o, none⟩)) (hu : P.underlying t = some td) (hp : plainT td = true) (hc : s.has ⟨b, o, none⟩ v) (h : Kl (yh l d v) s) : HO P ro ⟨d, .load t x, ty, pos, af, gd⟩ l s Kl := o_load hx hu hp hc h
theorem Var.of {D E : Nat → Prop} {s0 s s' : St} {b cs T} (h : Var s s' b cs T) (hs : Chg D E s0 s) : Var s0 s' b cs T := ⟨h.t, h.g, by
 cases e : s0.dom b with
 | false => rfl
 | true => have := hs.keep.dom b e; rw [h.new] at this; cases this⟩
theorem st?_len {α : Type} {xs ys : List α} {i : Int} {u : α} (h : st? xs i u = some ys) : ys.length = xs.length := by
 obtain ⟨_, rfl⟩ := st?_some h
 exact List.length_set
def RepL {α : Type} (K : Kd α) (s : St) : List (List Value) → List α → Prop
 | [], [] => True
 | c :: cs, x :: xs => K.rep s c x ∧ RepL K s cs xs
 | _, _ => False
theorem RepL.get {α : Type} {K : Kd α} {s : St} : ∀ {css : List (List Value)} {xs : List α}, RepL K s css xs → css.flatten.length = xs.length * K.sz ∧ ∀ i x, xs[i]? = some x → K.rep s ((css.flatten.drop (i * K.sz)).take K.sz) x
 | [], [], _ => ⟨by simp, by simp⟩
 | c :: cs, x :: xs, ⟨h1, h2⟩ => by
  have hl := K.len h1
  obtain ⟨a1, a2⟩ := RepL.get h2
  refine ⟨by rw [List.flatten_cons, List.length_append, a1, hl, List.length_cons, Nat.succ_mul, Nat.add_comm], fun i y hy => ?_⟩
  cases i with
  | zero =>
   obtain rfl : x = y := by simpa using hy
   rw [List.flatten_cons, Nat.zero_mul, List.drop_zero, List.take_append_of_le_length (by omega), List.take_of_length_le (by omega)]
   exact h1
  | succ i =>
   have := a2 i y (by simpa using hy)
   rwa [List.flatten_cons, show (i + 1) * K.sz = c.length + i * K.sz by rw [Nat.succ_mul, hl]; omega, List.drop_append, List.drop_eq_nil_of_le (by omega), List.nil_append, Nat.add_sub_cancel_left]
theorem zcells (c : Array Value) (n m : Nat) (hz : c.size = m) : ((Array.range (n * m)).map (c[· % c.size]!)) = ((List.replicate n c.toList).flatten).toArray := by
 apply Array.ext'
 simp only [Array.toList_map, Array.toList_range, List.toList_toArray]
 induction n with
 | zero => simp
 | succ n ih =>
  rw [Nat.succ_mul, List.range_add, List.map_append, ih, List.replicate_succ', List.flatten_append]
  congr 1
  apply List.ext_getElem?
  intro i
  simp only [List.map_map, List.getElem?_map, List.flatten_cons, List.flatten_nil, List.append_nil]
  by_cases hi : i < m
  ·rw [List.getElem?_range hi]
   simp [hz, Nat.mod_eq_of_lt hi, Nat.add_mod, hi]
  ·rw [List.getElem?_eq_none (by simpa using hi), List.getElem?_eq_none (by simp [hz]; omega)]
   rfl
theorem GOk_eqB {t : TypeId} {n m : Bool} (hu : P.underlying t = some .bool) (K : Bool → St → Prop) : GOk P ro (Op.equal t (.bool n) (.bool m)) s K ↔ K (n == m) s := by
 unfold Op.equal Op.maxDepth Op.equalIn
 simp only [y5, yb hu, y8]
theorem o_neb {xt yt : TypeId} {x y : Operand} {n m : Bool} (hx : evL l x = .bool n) (hy : evL l y = .bool m) (hu : P.underlying xt = some .bool) (h : Kl (yh l d (.bool (n != m))) s) : HO P ro ⟨d, .binOp .neq xt x y yt, ty, pos, af, gd⟩ l s Kl := by
 unfold HO execOp
 simp only [hx, hy, eqGuard, binOp, y5, GOk_eqB hu, y8]
 exact h
def strB (op : BinOp) (x y : ByteArray) : Option Value :=
 match op with
 | .eql => some (.bool (x.toList == y.toList))
 | .neq => some (.bool (!(x.toList == y.toList)))
 | .lss => some (.bool (Op.bytesLess x.toList y.toList))
 | _ => none
theorem o_strB {op : BinOp} {xt yt : TypeId} {x y : Operand} {n m : ByteArray} {v : Value} (hx : evL l x = .string n) (hy : evL l y = .string m) (hv : strB op n m = some v) (h : Kl (yh l d v) s) : HO P ro ⟨d, .binOp op xt x y yt, ty, pos, af, gd⟩ l s Kl := by
 unfold HO execOp
 cases op <;> simp only [strB] at hv <;> first | (cases hv; done) | (injection hv with hv; subst hv; simp [hx, hy, eqGuard, binOp, Op.stringOp, y5, y8]; exact h)
def cat? (n : Nat) (x y : ByteArray) : Option ByteArray := if x.size + y.size ≤ n then some (x ++ y) else none
theorem o_cat {xt yt : TypeId} {x y : Operand} {n m z : ByteArray} (hx : evL l x = .string n) (hy : evL l y = .string m) (hc : cat? 1000000000000 n m = some z) (h : Kl (yh l d (.string z)) s) : HO P ro ⟨d, .binOp .add xt x y yt, ty, pos, af, gd⟩ l s Kl := by
 unfold cat? at hc
 split at hc
 ·rename_i h0
  obtain rfl := Option.some.inj hc
  unfold HO execOp
  have e : ¬ (((n.size + m.size : Nat) : Int) > IntKind.i64.max) := by
   have : IntKind.i64.max = 9223372036854775807 := by decide
   omega
  simp only [hx, hy, eqGuard, binOp, Op.stringOp, y5, y8, if_neg e]
  exact h
 ·cases hc
end
end Go.Proofs.GL
namespace Go.Proofs.GL
open Go
section
variable {P : Program} {w0 : World} {o0 : Nat → Bool} {Q : Exit → List Value → St → Prop} {l : List Value} {s : St}
theorem HT_joinK {x y : Code} (J : List Value → St → Prop) (h1 : ∀ K : List Value → St → Prop, (∀ l s, J l s → K l s) → HT P w0 o0 x (thenG K Q) l s) (h2 : ∀ l s, J l s → HT P w0 o0 y Q l s) : HT P w0 o0 (.seq x y) Q l s :=
 HT_join J (h1 J fun _ _ h => h) h2
theorem HT_toK {x : Code} (J : List Value → St → Prop) (h1 : ∀ K : List Value → St → Prop, (∀ l s, J l s → K l s) → HT P w0 o0 x (thenG K Q) l s) (h2 : ∀ l s, J l s → Q .normal l s) : HT P w0 o0 x Q l s :=
 HT_to J (h1 J fun _ _ h => h) h2
theorem HT_loopK {c : Code} (I : Nat → List Value → St → Prop) (n : Nat) (h0 : I n l s) (round : ∀ n l s, I n l s → ∀ K : List Value → St → Prop, (∀ l' s', (∃ n', n' < n ∧ I n' l' s') → K l' s') → HT P w0 o0 c (thenG K Q) l s) : HT P w0 o0 (.loop c) Q l s :=
 HT_loop I n h0 fun n l s h => round n l s h _ fun _ _ h => h
theorem GCall_ofk {f : FuncId} {fn : Func} {c : Code} {args : Array Value} {s : St} {R : Value → St → Prop} (rs : List ResultVar) (l : List Value) (hf : P.funcs[f]? = some fn) (hb : fn.body = some c) (hr : fn.results = rs.toArray)
  (hl : args.toList ++ List.replicate (fn.ntmps - args.size) undef = l) (h : ∀ w (Q : Exit → List Value → St → Prop), (∀ l s vs, ResVs P l s rs vs → R (oneV vs) s → Q .ret l s) → (∀ l s vs, ResVs P l s rs vs → R (oneV vs) s → Q .normal l s) → (∀ c l s, ¬ Q (.panic c) l s) → HT P w s.dom c Q l s) : yg P f args s R :=
 GCall_ofc rs hf hb hr hl fun w => h w _ (fun _ _ vs h1 h2 => ⟨vs, h1, h2⟩) (fun _ _ vs h1 h2 => ⟨vs, h1, h2⟩) (fun _ _ _ h => h)
end
end Go.Proofs.GL

