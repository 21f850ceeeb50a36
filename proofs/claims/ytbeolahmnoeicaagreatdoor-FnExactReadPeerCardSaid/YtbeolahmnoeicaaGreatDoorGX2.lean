/- A logic of what is known of memory, over the kit's weakest preconditions: one part. No conditions: lemmas. -/
import Derived.Test.YtbeolahmnoeicaaGreatDoorGT
import Derived.Sort.Grow
import Derived.Deep.Draws
import Derived.Below
import Derived.Lib.ItoaNum
import Derived.Lib.LaidTab
set_option autoImplicit false
set_option relaxedAutoImplicit false
set_option linter.unusedVariables false
set_option linter.unusedSimpArgs false
namespace Go.Proofs.GL
open Go Go.RowKit Go.Sort
theorem Ok.below2 {w0 : World} {o0 : Nat → Bool} {w w' : World} {s : St} (h : Ok w0 o0 w s) (hb : Below w.heap.size w w') : Ok w0 o0 w' s where
 g b cs hg := by
  obtain ⟨c, t, fr, hh, hp⟩ := h.g b cs hg
  exact ⟨c, t, fr, (hb.block b (h.lt_g hg)).trans hh, hp⟩
 o b y ho := by
  obtain ⟨c, hh, hz⟩ := h.o b y ho
  exact ⟨c, (hb.block b (h.lt_o ho)).trans hh, hz⟩
 t b y ht := (hb.block b (h.lt_t ht)).trans (h.t b y ht)
 x b y hx := ⟨(hb.block b (h.lt_x hx)).trans (h.x b y hx).1, (h.x b y hx).2⟩
 go := h.go
 ot := h.ot
 os := hb.os.trans h.os
 tape := hb.tape.trans h.tape
 output := hb.output.trans h.output
 size := Nat.le_trans h.size hb.size
 blk b hlt ho := (hb.block b (Nat.lt_of_lt_of_le hlt h.size)).trans (h.blk b hlt ho)
 dom := h.dom
theorem below_drewN (B : Nat) (w : World) (n : Nat) : Below B w (w.drewN n) := ⟨rfl, rfl, rfl, Nat.le_refl _, fun _ _ => rfl⟩
theorem below_grow (w : World) (os : Array Obj) : Below w.heap.size w (grow w os) :=
 ⟨rfl, rfl, rfl, by simp [grow], fun k hk => by simp [grow, Array.getElem?_append_left hk]⟩
theorem below_dg (w : World) (n : Nat) (os : Array Obj) : Below w.heap.size w (grow (w.drewN n) os) := (below_drewN _ w n).trans (below_grow (w.drewN n) os)
section
variable {P : Program} {f : FuncId} {args : Array Value} {s : St} {R : Value → St → Prop}
theorem yg.pureB {v : Value} (hR : R v s) (hc : ∀ w, Ok w s.dom w s → Calls P f args w fun e w' => e = .returned v ∧ Below w.heap.size w w') : yg P f args s R := fun w hw =>
 (hc w hw).mono fun e w' ⟨he, hb⟩ => ⟨v, s, he, hR, hw.below2 hb⟩
theorem yg.newB {α : Type} {K : Kd α} {O : Ow K} {sb s0 : St} {F0 : Fp} {cs : List Ck} (hH : Hp sb s0 F0 s cs) (vs : List Value) (xs : List α) (e : TypeId) (hlen : vs.length = xs.length * K.sz) (hm : xs.length ≤ maxN) (hE : ∀ i x, xs[i]? = some x → O.own sb s no ((vs.drop (i * K.sz)).take K.sz) x)
  (hR : ∀ b s', Hp sb s0 F0 s' (addC cs [Ck.ol O e (some ⟨b, 0, none⟩) xs.length xs]) → R (.slice (some ⟨b, 0, none⟩) xs.length xs.length) s')
  (hc : ∀ w, Ok w s.dom w s → Calls P f args w fun r w' => r = .returned (.slice (some ⟨w.heap.size, 0, none⟩) xs.length xs.length) ∧ w' = w.alloc (.cells vs.toArray e)) : yg P f args s R := fun w hw =>
 (hc w hw).mono fun r w' ⟨he, hw'⟩ => by
  subst hw'
  have h1 := hw.alloc (.cells vs.toArray e)
  have h2 : s.alloc w.heap.size (.cells vs.toArray e) = s.setO w.heap.size ⟨vs, xs.length * K.sz, e⟩ := by
   show s.setO w.heap.size ⟨vs.toArray.toList, vs.toArray.size, e⟩ = _
   have hsz : vs.toArray.size = xs.length * K.sz := by simpa using hlen
   rw [hsz]
  rw [h2] at h1
  exact ⟨_, _, he, hR _ _ (hH.newF vs xs hlen hE e hw.fresh xs.length (Nat.le_refl _) hm), h1⟩
end
abbrev pow10U : List Int := Go.Lib.pow10Tab
def HasI (s : St) (g : Nat) : Prop := ∃ m : Int, s.row g 0 (.int .i64 m)
theorem HasI.mono {s s' : St} {g : Nat} (h : HasI s g) (k : Mono s s') : HasI s' g := let ⟨m, h⟩ := h; ⟨m, k _ _ _ h⟩
theorem HasI.cell {s : St} {g : Nat} (h : HasI s g) : ∃ m : Int, ∀ {w0 o0 w}, Ok w0 o0 w s → w.cell? ⟨g, 0, none⟩ = some (.int .i64 m) := let ⟨m, h⟩ := h; ⟨m, fun k => k.has ⟨rfl, .inl h⟩⟩
def HasE (s : St) (g : Nat) : Prop := ∃ v : Value, (v = .nilIface ∨ ∃ te pe, v = .iface te pe) ∧ s.row g 0 v
theorem HasE.mono {s s' : St} {g : Nat} (h : HasE s g) (k : Mono s s') : HasE s' g := let ⟨v, e, h⟩ := h; ⟨v, e, k _ _ _ h⟩
theorem HasE.cell {s : St} {g : Nat} (h : HasE s g) : ∃ v : Value, (v = .nilIface ∨ ∃ te pe, v = .iface te pe) ∧ ∀ {w0 o0 w}, Ok w0 o0 w s → w.cell? ⟨g, 0, none⟩ = some v := let ⟨v, e, h⟩ := h; ⟨v, e, fun k => k.has ⟨rfl, .inl h⟩⟩
def HasT (k : IntKind) (xs : List Int) (s : St) (g : Nat) : Prop := ∃ e, s.o g = some ⟨xs.map (Value.int k), xs.length, e⟩
theorem HasT.up {k : IntKind} {xs : List Int} {sb s : St} {g : Nat} (h : HasT k xs sb g) (hb : Bs sb s) : HasT k xs s g := let ⟨e, h⟩ := h; ⟨e, hb.o _ _ h⟩
theorem HasT.tab {k : IntKind} {xs : List Int} {sb s : St} {g : Nat} {P : Program} {n : String} (h : HasT k xs sb g) (hb : Bs sb s) (hn : P.globalNamed n = some g) {w0 : World} {o0 : Nat → Bool} {w : World} (hw : Ok w0 o0 w s) : Go.Lib.TabIs P w n k xs := by
 obtain ⟨e, h⟩ := h
 obtain ⟨c, h1, h2, h3⟩ := hw.o g _ (hb.o _ _ h)
 have hc : c = (xs.map (Value.int k)).toArray := by
  have : xs.map (Value.int k) = c.toList := h3.eq_of_length (by
   have : c.size = xs.length := h2
   simpa using this.symm)
  rw [this]
 subst hc
 show (P.globalNamed n).bind _ = _
 rw [hn]
 show (match w.heap[g]? with | some (.cells cs _ _) => some cs | _ => none) = _
 rw [h1]
end Go.Proofs.GL

