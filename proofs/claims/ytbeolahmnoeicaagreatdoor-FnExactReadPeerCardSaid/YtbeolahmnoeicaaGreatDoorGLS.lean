/- A logic of what is known of memory, over the kit's weakest preconditions: one part. No conditions: lemmas. -/
import Derived.Test.YtbeolahmnoeicaaGreatDoorGLR
import Derived.Test.YtbeolahmnoeicaaGreatDoorGW
import Derived.Test.YtbeolahmnoeicaaGreatDoorGX2
import Derived.Handed
import Derived.Shelf.Vars
import Derived.Stop.LaidErr
set_option linter.unusedVariables false
set_option linter.unusedSimpArgs false
namespace Go.Proofs.GL
open Go Go.RowKit Go.Lib
theorem returnsInHanded_open {H : Type} {enc : TypeId × Value → H} {a : Assume} {C : Checked} {os : Os} {f : FuncId} {fn : Func} {s : ChangeSpec} {conds : List PathCond} {apart fresh handsOn again : Bool} {X : World → Array Value → Prop}
  (hX : ∀ (w w' : World) (args : Array Value), w.heap = w'.heap → X w args → X w' args)
  (own : ownKnob C.prog.godebug = none) (started : os.Started) (noInit : C.prog.inits.idxOf? f = none) (hfn : C.prog.funcs[f]? = some fn)
  (witness : ∃ (w : World) (tape : Tape) (i : Input), w.os = os ∧ (w.forCall tape i).Shaped C.prog ∧ i.vars = [] ∧ Input.okWide C.prog (w.forCall tape i) .any w.heap.size f i ∧
   ((s.pre enc C.prog fn conds apart (w.forCall tape i).memory i.args ∧ X (w.forCall tape i).memory i.args) ∧ sizedMet enc C.prog fn (OpenSpec.ofChange s) apart (w.forCall tape i).memory i.args) ∧ a.holds C.prog (lone (Frame.enter C.prog f i.args .normal) [] (w.forCall tape i)))
  (contract : ∀ (W : World) (base : Nat) (args : Array Value) (ds gs : List (DataW H)) (before : List MemPlace),
   (∀ (j : Nat) t v, fn.params[j]? = some t → args[j]? = some v → Value.okWide C.prog W .any base t v) →
   DataW.Whole enc C.prog fn.params.toList s.vars apart W args.toList ds gs before →
   conds.all (PathCond.test C.prog ⟨fn.params.toList, ds, s.plain.varTypes C.prog, gs⟩) = true →
   (DataW.weightsEach C.prog (fn.params.toList ++ s.plain.varTypes C.prog) (ds ++ gs)).all (· ≤ reachBytes) = true → X W args → W.ShapedOpen C.prog →
   Calls C.prog f args W fun e W' => ∃ v, e = .returned v ∧ s.post enc C.prog fn apart fresh handsOn again W args v W') :
  ReturnsInHanded a C os f .any (fun w args => (s.pre enc C.prog fn conds apart w args ∧ X w args) ∧ sizedMet enc C.prog fn (OpenSpec.ofChange s) apart w args) (s.post enc C.prog fn apart fresh handsOn again) := by
 refine returnsInHanded_of_calls own started noInit witness ?_
 intro w tape i _ hsh _ hok hpre _
 obtain ⟨_, _, _, fn', hfn', _, _, _, _, hval⟩ := hok
 have e : fn' = fn := Option.some.inj (hfn'.symm.trans hfn)
 subst e
 obtain ⟨⟨⟨ds, gs, before, hw, hc⟩, hx⟩, hz⟩ := hpre
 have hw' := DataW.Whole.of_heap (w' := w.forCall tape i) (by rfl) hw
 refine (contract (w.forCall tape i) w.heap.size i.args ds gs before hval hw' hc (hz.weights hw) (hX _ _ _ (by rfl) hx) hsh).mono fun e W' ⟨v, he, hp⟩ => ?_
 subst he
 exact ChangeSpec.post_blind hp
def StT (W : World) (g : Nat) : St := match W.heap[g]? with
 | some (.cells c e (0, 0)) => (St0 W).setO g ⟨c.toList, c.size, e⟩
 | _ => St0 W
theorem StT.mono (W : World) (g : Nat) : Mono (St0 W) (StT W g) := by
 unfold StT
 split
 ·rintro b i v (h | ⟨y, h, _⟩)
  ·exact .inl h
  ·cases h
 ·exact Mono.refl _
theorem Ok.startT (W : World) (g : Nat) : Ok W (StT W g).dom W (StT W g) := by
 have h0 := Ok.start W
 unfold StT
 split
 ·rename_i c e hh
  refine ⟨h0.g, ?_, h0.t, h0.x, ?_, fun _ _ => rfl, rfl, rfl, rfl, Nat.le_refl _, fun _ _ _ => rfl, fun _ hb => .inl hb⟩
  ·intro b y hy
   by_cases hb : b = g
   ·subst hb
    simp only [St.setO, if_true, Option.some.injEq] at hy
    subst hy
    exact ⟨c, hh, rfl, List.prefix_refl _⟩
   ·simp only [St.setO, if_neg hb] at hy
    cases hy
  ·intro b cs y hg hy
   by_cases hb : b = g
   ·subst hb
    simp only [St.setO, if_true, Option.some.injEq] at hy
    subst hy
    have hg' : (match W.heap[b]? with | some (.cells c _ _) => some c.toList | _ => none) = some cs := hg
    rw [hh] at hg'
    cases hg'
    exact List.prefix_refl _
   ·simp only [St.setO, if_neg hb] at hy
    cases hy
 ·exact h0
theorem Ok.belowT {W W' : World} {g : Nat} {s' : St} (h : Ok W (StT W g).dom W' s') (hp : Bs (StT W g) s') : Below W.heap.size W W' := by
 refine ⟨h.os, h.tape, h.output, h.size, fun k hk => ?_⟩
 by_cases hd : (StT W g).dom k = false
 ·exact h.blk k hk hd
 ·unfold StT at hd hp
  split at hd
  ·rename_i c e hh
   rw [hh] at hp
   by_cases hb : k = g
   ·subst hb
    obtain ⟨c', h1, h2, h3⟩ := h.o k ⟨c.toList, c.size, e⟩ (hp.o _ _ (by simp [St.setO]))
    have h3 : c.toList <+: c'.toList := h3
    have h2 : c'.size = c.size := h2
    have : c.toList = c'.toList := h3.eq_of_length (by simpa using h2.symm)
    rw [h1, hh, Array.ext' this]
   ·refine absurd ?_ hd
    simp [St.dom, St.setO, hb, St0]
  ·exact absurd rfl hd
theorem HasT.start {P : Program} {W : World} {n : String} {k : IntKind} {xs : List Int} {g : Nat} (h : TabIs P W n k xs) (hg : P.globalNamed n = some g) (hs : ∃ cs t, W.heap[g]? = some (.cells cs t)) : HasT k xs (StT W g) g := by
 obtain ⟨cs, t, hs⟩ := hs
 have h' : (P.globalNamed n).bind (fun g => match W.heap[g]? with | some (.cells cs _ _) => some cs | _ => none) = some (xs.map fun z => Value.int k z).toArray := h
 rw [hg] at h'
 simp only [Option.bind_some, hs, Option.some.injEq] at h'
 subst h'
 refine ⟨t, ?_⟩
 unfold StT
 rw [hs]
 simp [St.setO]
theorem StT.row {W : World} {g b : Nat} {v : Value} (h : W.cell? ⟨b, 0, none⟩ = some v) : (StT W g).row b 0 v := StT.mono W g _ _ _ (St0.row h).2
theorem HasI.start {W : World} {g b : Nat} (h : ∃ m, W.cell? ⟨b, 0, none⟩ = some (.int .i64 m)) : HasI (StT W g) b := let ⟨m, h⟩ := h; ⟨m, StT.row h⟩
theorem HasE.start {P : Program} {W : World} {g b : Nat} {n : String} {tp : TypeId} {x : Value} (hb : P.globalNamed n = some b) (h : W.var? P n = some #[.iface tp x]) : HasE (StT W g) b := ⟨_, .inr ⟨_, _, rfl⟩, StT.row (by have h0 := World.var?_cell hb h 0; simpa using h0)⟩
theorem tab_is {P : Program} {W : World} {n : String} {g : Nat} {t e : TypeId} {N : Nat} {k : IntKind} {zs : List Int} (h : VarReads P W n (tabData k zs)) (hg : P.globalNamed n = some g) (hy : (P.globals[g]?).map (·.type) = some t) (ht : P.underlying t = some (.array N e)) (he : P.underlying e = some (.int k)) (hce : P.cellsOf e = 1) (hct : P.cellsOf t = N) : TabIs P W n k zs := by
 obtain ⟨g', t', cs, fuel, p, hg', hy', hv, hd⟩ := h
 obtain rfl := Option.some.inj (hg.symm.trans hg')
 obtain rfl := Option.some.inj (hy.symm.trans hy')
 unfold TabIs
 rw [hv, ← cells_of_tab ht he hce hct hd]
theorem heap_of_shapedOpen {P : Program} {w : World} {g : Nat} {t : TypeId} {zero : Array Value} (h : w.ShapedOpen P) (hg : g < P.globals.size) (h0 : ((begin P (fun _ _ => 0) default).world.heap[g]?).bind Obj.row? = some (zero, t)) : ∃ cs t, w.heap[g]? = some (.cells cs t) := by
 obtain ⟨cs, hh, _⟩ := h.1 g zero t hg h0
 exact ⟨cs, t, hh⟩
end Go.Proofs.GL

