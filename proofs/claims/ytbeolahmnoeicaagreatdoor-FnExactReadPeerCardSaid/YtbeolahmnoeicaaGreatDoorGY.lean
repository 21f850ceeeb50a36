/- A logic of what is known of memory, over the kit's weakest preconditions: one part. No conditions: lemmas. -/
import Derived.Test.YtbeolahmnoeicaaGreatDoorGP
set_option autoImplicit false
set_option relaxedAutoImplicit false
set_option linter.unusedVariables false
set_option linter.unusedSimpArgs false
namespace Go.Proofs.GL
open Go
theorem nm {A B : Prop} (h : B) (e : A = B := by (first | dsimp only [yh, setL, evL, getL] | skip); (first | done | rfl)) : A := e.mpr h
section
variable {P : Program} {w0 : World} {o0 : Nat → Bool} {ops : Array Oper} {Q : Exit → List Value → St → Prop} {l : List Value} {s : St} {rest : List Oper} {o : Oper}
variable {d : Option Tmp} {ty : TypeId} {pos : String} {af : Array Edge} {gd : Option (Nat × Bool)} {ro : Bool} {Kl : List Value → St → Prop}
variable {sb s0 : St} {F0 : Fp} {cs : List Ck}
theorem tw {j : Nat} {b c : Bool} {t : Tmp} (hc : c = b) (h : HO P false o l s fun l' s' => HL P w0 o0 ops Q rest l' s') (hg : o.guard = some (j, b) := by rfl) (hd : dstOf ops.toList j = some t := by rfl) (hl : getL l t = .bool c := by rfl) (hlen : Nat.ble (t + 1) l.length = true := by rfl) : HL P w0 o0 ops Q (o :: rest) l s := wt hg hd hl hlen hc h
theorem fw {j : Nat} {b b' c : Bool} {t : Tmp} (hc : c = b') (h : HL P w0 o0 ops Q rest (yh l o.dst undef) s) (hg : o.guard = some (j, b) := by rfl) (hd : dstOf ops.toList j = some t := by rfl) (hl : getL l t = .bool c := by rfl) (hlen : Nat.ble (t + 1) l.length = true := by rfl) (hn : b' = !b := by rfl) : HL P w0 o0 ops Q (o :: rest) l s := wf hg hd hl hlen (hc.trans hn) h
theorem uw {j : Nat} {b : Bool} {t : Tmp} (h : HL P w0 o0 ops Q rest (yh l o.dst undef) s) (hg : o.guard = some (j, b) := by rfl) (hd : dstOf ops.toList j = some t := by rfl) (hl : getL l t = undef := by rfl) (hlen : Nat.ble (t + 1) l.length = true := by rfl) : HL P w0 o0 ops Q (o :: rest) l s := wu hg hd hl hlen h
-- reads in regions that draw
theorem rP {R : St → Prop} {k : Nat} {L : Array Bool} {n : Nat} (i : Nat) {oi : Oper} {v : Value} (hi : opOf ops.toList i = some oi) (hy : ∀ s', ∀ K : List Value → St → Prop, K (yh l oi.dst v) s' → HO P true oi l s' K)
  (h : HK P w0 o0 R k ops Q n (L.setIfInBounds i true) (yh l oi.dst v) s) (hm : mayP ops k i L = true := by kernel_rfl) (hQ : ∀ c l s, ¬ Q (.panic c) l s := by assumption) (hw : wantL ops oi l = true := by rfl) (hd : oi.dst.isSome = true := by rfl) (hlen : Nat.ble (oi.dst.getD 0 + 1) l.length = true := by rfl) (hR : L.getD k false = false → R s := by intro _; assumption) : HK P w0 o0 R k ops Q (n + 1) L l s := HK_readP i hi hm hQ hw hy hd hlen hR h
theorem rK {R : St → Prop} {k : Nat} {L : Array Bool} {n : Nat} (i : Nat) {oi : Oper} {v : Value} (hi : opOf ops.toList i = some oi) (hy : ∀ s', R s' → ∀ K : List Value → St → Prop, K (yh l oi.dst v) s' → HO P true oi l s' K)
  (h : HK P w0 o0 R k ops Q n (L.setIfInBounds i true) (yh l oi.dst v) s) (hm : mayK ops k i L = true := by kernel_rfl) (hQ : ∀ c l s, ¬ Q (.panic c) l s := by assumption) (hw : wantL ops oi l = true := by rfl) (hd : oi.dst.isSome = true := by rfl) (hlen : Nat.ble (oi.dst.getD 0 + 1) l.length = true := by rfl) (hR : R s := by assumption) : HK P w0 o0 R k ops Q (n + 1) L l s := HK_read i hi hm hQ hw hy hd hlen hR h
theorem hxl {n : Nat} {L : Array Bool} (k2 : Nat) (h : HK P w0 o0 (fun s' => Gro s s') k2 ops Q n L l s) : HX P w0 o0 ops Q n L l s := HX_lim (R := fun _ => True) (k := 0) _ k2 h
theorem hm1 {R : St → Prop} {k : Nat} {L : Array Bool} {n : Nat} (i : Nat) {oi : Oper} (hi : opOf ops.toList i = some oi) (h : HO P false oi l s fun l' s' => HK P w0 o0 R k ops Q n (L.setIfInBounds i true) l' s') (hr : Region.ready .any ops L = [i] := by kernel_rfl) (hw : wantL ops oi l = true := by rfl) (hR : L.getD k false = false → R s := by intro _; assumption) : HK P w0 o0 R k ops Q (n + 1) L l s :=
 HK_more [i] hr rfl hR ⟨⟨_, hi, Or.inl ⟨hw, h⟩⟩, trivial⟩
-- operations
theorem cl {f : FuncId} {fn : Func} {as : Array Operand} {ts : Array TypeId} {args : Array Value} {R : Value → St → Prop} (hf : P.funcs[f]? = some fn) (hc : yg P f args s R) (h : ∀ v s', R v s' → Kl (yh l d v) s') (hname : (fn.name == "runtime.NumGoroutine") = false := by rfl) (hb : fn.body.isSome = true := by rfl) (hargs : as.toList.map (evL l) = args.toList := by rfl) : HO P false ⟨d, .call { callee := .value (.func f), args := as, argTypes := ts }, ty, pos, af, gd⟩ l s Kl := o_call hf hname hb hargs hc h
theorem addC_nil : ∀ cs : List Ck, addC cs [] = cs
 | [] => rfl
 | c :: cs => congrArg (c :: ·) (addC_nil cs)
theorem o_cH {β γ ρ : Type} {X : Option β} {g : β → Option γ} {G : γ → Option ρ} {r : ρ} {f : FuncId} {fn : Func} {as : Array Operand} {ts : Array TypeId} {args : Array Value} {v : β → Value} (hf : P.funcs[f]? = some fn) (hH : Hp sb s0 F0 s cs) (H : (X.bind g).bind G = some r) (hc : ∀ u, X = some u → yg P f args s fun w s' => w = v u ∧ Hp sb s no s' [])
  (h : ∀ u, X = some u → (g u).bind G = some r → ∀ s', Hp sb s0 F0 s' cs → Gro s s' → Kl (yh l d (v u)) s') (hname : (fn.name == "runtime.NumGoroutine") = false := by rfl) (hb : fn.body.isSome = true := by rfl) (hargs : as.toList.map (evL l) = args.toList := by rfl) : HO P false ⟨d, .call { callee := .value (.func f), args := as, argTypes := ts }, ty, pos, af, gd⟩ l s Kl := by
 obtain ⟨u, hu, H⟩ := ya H
 refine o_call hf hname hb hargs (hc u hu) ?_
 rintro _ s' ⟨rfl, hD⟩
 have := hH.back0 hD (Up.refl _ _ _)
 rw [addC_nil] at this
 exact h u hu H s' this hD.gro
theorem fa {x : Operand} {T ft : TypeId} {fs : Array Field} {i off : Nat} {b o : Nat} {z : Value} {n by_ : Nat} (hx : evL l x = .pointer (some ⟨b, o, none⟩)) (hu : P.underlying T = some (.struct fs)) (hf : (fs[i]?).map (fun f => (f.type, f.offset)) = some (ft, off)) (ht : TI P ft z n by_) (h : Kl (yh l d (.pointer (some ⟨b, o + off, none⟩))) s) (hn : n ≠ 0 := by decide) : HO P ro ⟨d, .fieldAddr T x i, ty, pos, af, gd⟩ l s Kl := o_faddr' hx hu hf ht hn h
theorem ld {x : Operand} {t : TypeId} {td : TypeDesc} {b o : Nat} {v : Value} (hu : P.underlying t = some td) (hc : s.has ⟨b, o, none⟩ v) (h : Kl (yh l d v) s) (hx : evL l x = .pointer (some ⟨b, o, none⟩) := by rfl) (hp : plainT td = true := by rfl) : HO P ro ⟨d, .load t x, ty, pos, af, gd⟩ l s Kl := o_load' hx hu hp hc h
theorem lds {x : Operand} {t : TypeId} {td : TypeDesc} {b o : Nat} {z : Value} {sz by_ : Nat} {cs : List Value} (hu : P.underlying t = some td) (ht : TI P t z sz by_) (hc : ∀ j v, cs[j]? = some v → s.has ⟨b, o + j, none⟩ v) (h : Kl (yh l d (.agg cs.toArray)) s) (hx : evL l x = .pointer (some ⟨b, o, none⟩) := by rfl) (hp : plainT td = false := by rfl) (hn : sz = cs.length := by rfl) : HO P ro ⟨d, .load t x, ty, pos, af, gd⟩ l s Kl := o_loads' cs hx hu hp ht hn hc h
theorem sv {x y : Operand} {e T : TypeId} {b off : Nat} {v : Value} {vs us us' : List Value} {z : Value} {sz by_ : Nat} (hH : Hp sb s0 F0 s cs) (k : Nat) (ht : TI P e z sz by_)
  (h : ∀ s', Hp sb s0 F0 s' (setC cs k (Ck.ov b us' T)) → Kl (yh l d undef) s') (hl0 : Nat.blt k cs.length = true := by rfl) (hk : getC cs k = Ck.ov b us T := by rfl) (hx : evL l x = .pointer (some ⟨b, off, none⟩) := by rfl) (hy : evL l y = v := by (first | dsimp only [yh, setL, evL, getL] | skip); (first | done | rfl)) (hv : v.cells.toList = vs := by (first | dsimp only [Value.cells, List.toList_toArray] | skip); (first | done | rfl)) (hn : sz = vs.length := by rfl) (hne : vs ≠ [] := by exact List.cons_ne_nil _ _) (hl : Nat.ble (off + vs.length) us.length = true := by rfl) (hc : (vs.all isCell) = true := by rfl) (hcs : setN us off vs = us' := by (first | dsimp only [setN, Nat.add_zero, Nat.zero_add, Nat.reduceAdd] | skip); (first | done | rfl)) : HO P false ⟨d, .store e x y, ty, pos, af, gd⟩ l s Kl :=
 o_stvH hH k hl0 hk hx hy hv ht hn hne hl hc hcs h
theorem lf {α : Type} {K : Kd α} {O : Ow K} {t e : TypeId} {n : Nat} {parts : Array (Nat × Operand)} {z : Value} {by_ : Nat} (css : List (List Value)) (xs : List α) (hH : Hp sb s0 F0 s cs) (hu : P.underlying t = some (.slice e)) (ht : TI P e z K.sz by_) (hr : OwL O sb s css xs)
  (h : ∀ A s', Hp sb s0 F0 s' (addC cs [Ck.ol O e A n xs]) → Gro s s' → Kl (yh l d (.slice A n n)) s') (hn : Nat.ble (n * K.sz) 16777216 = true := by rfl) (hz : n * K.sz ≠ 0 := by decide) (hlen : xs.length = n := by rfl) (hzc : z.cells.size = K.sz := by rfl) (hc : Instr.fill (fun i => some (i * K.sz, K.sz)) ((List.replicate n z.cells.toList).flatten).toArray (parts.toList.map fun p => (p.1, evL l p.2)) = some css.flatten.toArray := by kernel_rfl) : HO P false ⟨d, .buildSlice t n parts, ty, pos, af, gd⟩ l s Kl :=
 o_litF css xs hH hu ht hn hz hlen hzc hc (by simp) hr h
theorem bd {T : TypeId} {fs : List Field} {parts : Array (Nat × Operand)} {z : Value} {n by_ : Nat} (cs : Array Value) (hu : P.underlying T = some (.struct fs.toArray)) (ht : TI P T z n by_) (h : Kl (yh l d (.agg cs)) s) (ha : fs.all (fun f => (P.info? f.type).isSome) = true := by kernel_rfl) (hc : Instr.fill (fun i => ((fs.map fun f => (f.offset, szT P f.type)))[i]?) z.cells (parts.toList.map fun p => (p.1, evL l p.2)) = some cs := by kernel_rfl) : HO P ro ⟨d, .build T parts, ty, pos, af, gd⟩ l s Kl := o_build hu ht ha rfl hc h
end
end Go.Proofs.GL

