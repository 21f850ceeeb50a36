/- A logic of what is known of memory, over the kit's weakest preconditions: one part. No conditions: lemmas. -/
import Derived.Test.YtbeolahmnoeicaaGreatDoorGX
set_option autoImplicit false
set_option relaxedAutoImplicit false
set_option linter.unusedVariables false
set_option linter.unusedSimpArgs false
namespace Go.Proofs.GL
open Go
section
variable {P : Program} {w0 : World} {o0 : Nat → Bool} {ops : Array Oper} {Q : Exit → List Value → St → Prop} {l : List Value} {s : St} {rest : List Oper} {o : Oper}
variable {d : Option Tmp} {ty : TypeId} {pos : String} {af : Array Edge}
theorem sr {id : Nat} {r : List Oper} {y : Code} (h : ∀ K : List Value → St → Prop, (∀ l s, HT P w0 o0 y Q l s → K l s) → HL P w0 o0 r.toArray (thenG K Q) r l s) : HT P w0 o0 (.seq (.region id r.toArray false) y) Q l s :=
 y4 fun K hK => y6 (h K hK)
theorem sx {id : Nat} {r : List Oper} {y : Code} (hm : P.follows .mixedOrders = true) (h : ∀ K : List Value → St → Prop, (∀ l s, HT P w0 o0 y Q l s → K l s) → HX P w0 o0 r.toArray (thenG K Q) r.length (Array.replicate r.length false) l s) : HT P w0 o0 (.seq (.region id r.toArray true) y) Q l s :=
 y4 fun K hK => HX_draw hm (h K hK)
theorem hc (h : HO P false o l s fun l' s' => HL P w0 o0 ops Q rest l' s') (hg : o.guard = none := by rfl) : HL P w0 o0 ops Q (o :: rest) l s := HL_cons hg h
theorem mv {x : Operand} (h : HL P w0 o0 ops Q rest (yh l d (evL l x)) s) : HL P w0 o0 ops Q (⟨d, .move x, ty, pos, af, none⟩ :: rest) l s := HL_cons rfl (y9 h)
theorem ag {x : Operand} (h : HL P w0 o0 ops Q rest (yh l d (evL l x)) s) : HL P w0 o0 ops Q (⟨d, .assign x, ty, pos, af, none⟩ :: rest) l s := HL_cons rfl (o_assign h)
theorem bn {op : BinOp} {xt yt : TypeId} {x y : Operand} {k : IntKind} {n m : Int} {v : Value} (hx : evL l x = .int k n) (hy : evL l y = .int k m) (hv : binI op k n m = some v) (h : HL P w0 o0 ops Q rest (yh l d v) s) : HL P w0 o0 ops Q (⟨d, .binOp op xt x y yt, ty, pos, af, none⟩ :: rest) l s := HL_cons rfl (o_bin hx hy hv h)
theorem wt {j : Nat} {b c : Bool} {t : Tmp} (hg : o.guard = some (j, b)) (hd : dstOf ops.toList j = some t) (hl : getL l t = .bool c) (hlen : Nat.ble (t + 1) l.length = true) (hc : c = b) (h : HO P false o l s fun l' s' => HL P w0 o0 ops Q rest l' s') : HL P w0 o0 ops Q (o :: rest) l s := HL_want (wantT hg hd hl hlen hc) h
theorem wf {j : Nat} {b c : Bool} {t : Tmp} (hg : o.guard = some (j, b)) (hd : dstOf ops.toList j = some t) (hl : getL l t = .bool c) (hlen : Nat.ble (t + 1) l.length = true) (hc : c = !b) (h : HL P w0 o0 ops Q rest (yh l o.dst undef) s) : HL P w0 o0 ops Q (o :: rest) l s := HL_skip (wantF hg hd hl hlen hc) h
theorem wu {j : Nat} {b : Bool} {t : Tmp} (hg : o.guard = some (j, b)) (hd : dstOf ops.toList j = some t) (hl : getL l t = undef) (hlen : Nat.ble (t + 1) l.length = true) (h : HL P w0 o0 ops Q rest (yh l o.dst undef) s) : HL P w0 o0 ops Q (o :: rest) l s := HL_skip (wantU hg hd hl hlen) h
theorem ct {β ρ : Type} {c : Bool} {x y : Option β} {G : β → Option ρ} {r : ρ} {op : Operand} {cx cy : Code} (hc : evL l op = .bool c) (h1 : c = true → x.bind G = some r → HT P w0 o0 cx Q l s) (h2 : c = false → y.bind G = some r → HT P w0 o0 cy Q l s) : (if c = true then x else y).bind G = some r → HT P w0 o0 (.cond op cx cy) Q l s := fun H => by
 rcases Bool.eq_false_or_eq_true c with hb | hb
 ·exact HT_true (hc.trans (congrArg Value.bool hb)) (h1 hb (iteT hb H))
 ·exact HT_false (hc.trans (congrArg Value.bool hb)) (h2 hb (iteF hb H))
theorem it {β ρ : Type} {c : Bool} {x y : Option β} {G : β → Option ρ} {r : ρ} {goal : Prop} (h1 : c = true → x.bind G = some r → goal) (h2 : c = false → y.bind G = some r → goal) : (if c = true then x else y).bind G = some r → goal := fun H => by
 rcases Bool.eq_false_or_eq_true c with hb | hb
 ·exact h1 hb (iteT hb H)
 ·exact h2 hb (iteF hb H)
theorem GCall_ofr {ρ : Type} {f : FuncId} {fn : Func} {c : Code} {args : Array Value} {s : St} (R : ρ → Value → St → Prop) {r : ρ} (rs : List ResultVar) (l : List Value) (hf : P.funcs[f]? = some fn) (hb : fn.body = some c) (hr : fn.results = rs.toArray)
  (hl : args.toList ++ List.replicate (fn.ntmps - args.size) undef = l) (h : ∀ w (Q : Exit → List Value → St → Prop), (∀ l s vs p, ResVs P l s rs vs → some p = some r → R p (oneV vs) s → Q .ret l s) → (∀ l s vs p, ResVs P l s rs vs → some p = some r → R p (oneV vs) s → Q .normal l s) → (∀ c l s, ¬ Q (.panic c) l s) → HT P w s.dom c Q l s) : yg P f args s (R r) :=
 GCall_ofk rs l hf hb hr hl fun w Q h1 h2 h3 => h w Q (fun l s vs p hv hp hR => h1 l s vs hv (Option.some.inj hp ▸ hR)) (fun l s vs p hv hp hR => h2 l s vs hv (Option.some.inj hp ▸ hR)) h3
def un : Nat → List Value
 | 0 => []
 | n + 1 => undef :: un n
def ud : List Value → Nat → List Value
 | [], n => un n
 | a :: l, n => a :: ud l n
def skim : List Nat → List Value → List Value × Nat
 | [], l => ([], l.length + 1)
 | k :: ks, l => match l.drop k with
  | v :: t => (v :: (skim ks t).1, (skim ks t).2)
  | [] => ([], 0)
def Sk : Nat → ((List Value → Prop) → Prop) → (List Value → Prop) → Prop
 | 0, K, C => K C
 | k + 1, K, C => ∀ j, Sk k K fun l => C (j :: l)
def Al : List Nat → List Value → Nat → (List Value → Prop) → Prop
 | [], _, m, C => Sk m (fun C => C []) C
 | k :: ks, v :: vs, m, C => Sk k (fun C => Al ks vs m fun l => C (v :: l)) C
 | _ :: _, [], _, _ => False
theorem Sk.out {l : List Value} {m : Nat} : ∀ {k : Nat} {K : (List Value → Prop) → Prop} {C : List Value → Prop} (_ : Sk k K C), l.length = m + k → (∀ C', K C' → C' (l.drop k)) → C l := by
 intro k
 induction k generalizing l with
 | zero => intro K C h hl hK; exact hK C h
 | succ k ih =>
  intro K C h hl hK
  match l, hl with
  | j :: t, hl => exact ih (l := t) (C := fun l => C (j :: l)) (h j) (by simp at hl; omega) (fun C' hC => hK C' hC)
theorem skE {ks : List Nat} {vs : List Value} {m : Nat} {l : List Value} {C : List Value → Prop} (h : skim ks l = (vs, m + 1)) (k : Al ks vs m C) : C l := by
 induction ks generalizing vs l C with
 | nil =>
  simp only [skim, Prod.mk.injEq] at h
  obtain ⟨rfl, h⟩ := h
  refine Sk.out (l := l) (m := 0) k (by omega) fun C' hC => ?_
  rw [List.drop_of_length_le (by omega)]
  exact hC
 | cons k0 ks ih =>
  unfold skim at h
  split at h
  ·rename_i v t e
   simp only [Prod.mk.injEq] at h
   obtain ⟨h1, h2⟩ := h
   cases vs with
   | nil => cases h1
   | cons v' vs =>
    simp only [List.cons.injEq] at h1
    obtain ⟨rfl, h1⟩ := h1
    have hlen : l.length = t.length + 1 + k0 := by
     have := congrArg List.length e
     simp at this
     omega
    refine Sk.out (m := t.length + 1) k hlen fun C' hC => ?_
    rw [e]
    exact ih (C := fun l => C' (v :: l)) (by rw [← h1, ← h2]) hC
  ·simp only [Prod.mk.injEq] at h
   exact absurd h.2 (by omega)
theorem skA {ks : List Nat} {vs : List Value} {m : Nat} {C : List Value → Prop} (k : Al ks vs m C) : ∀ l, skim ks l = (vs, m + 1) → C l := fun _ h => skE h k
end
end Go.Proofs.GL

