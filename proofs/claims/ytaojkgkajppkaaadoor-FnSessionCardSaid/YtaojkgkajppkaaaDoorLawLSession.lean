/- The law FnSession: for every input it answers true and leaves its arguments as they were. No conditions beyond the row's own. -/
import Derived.Test.YtaojkgkajppkaaaDoorRows
import Derived.Test.YtaojkgkajppkaaaDoorWLSession4
import Derived.Test.YtaojkgkajppkaaaDoorPLSession
import Derived.Test.YtaojkgkajppkaaaDoorGLR
import Derived.Test.YtaojkgkajppkaaaDoorGW
import Derived.Test.YtaojkgkajppkaaaDoorCards
import Derived.Test.YtaojkgkajppkaaaDoorTie
import Derived.SevenTiedAt
set_option linter.unusedVariables false
namespace Go.Proofs.YtaojkgkajppkaaaDoor.fnSession
open Go Go.ChangeShapes Go.WideShapes Go.ChangeAt Go.RowKit Go.Proofs.GL Go.Lib
theorem own : ownKnob Tryd.prog.godebug = none := by kernel_rfl
theorem laidOut : laidOutB Tryd.prog = true := by kernel_rfl
noncomputable def laidWorld (os : Os) : World :=
  let w0 := World.holding Tryd.prog os ⟨#[], #[], []⟩
  let put (h : Array Obj) (g : Nat) (cs : Array Value) : Array Obj := h.modify g fun
    | .cells _ t frozen => .cells cs t frozen
    | o => o
  { w0 with heap := (put (put w0.heap 1 (y0b.flatMap fun z => [Value.int .u8 z.1, Value.int .u8 z.2]).toArray) 0 (u8First.map (Value.int .u8)).toArray) }
set_option maxRecDepth 100000 in
theorem laid_met (os : Os) (args : Array Value) : laidMetH Tryd.prog Rows.fnSessionRow.laid ((laidWorld os).forCall (fun _ _ => 0) ⟨#[], args, []⟩).memory :=
  laidMetH_of_parts3 (fuel := 8) (laidMet_of_run' 8 (by kernel_rfl) (by kernel_rfl)) (by kernel_rfl) (by kernel_rfl)
set_option maxRecDepth 100000 in
theorem tab1 {W : World} (h : laidMetH Tryd.prog Rows.fnSessionRow.laid W) : Rd ((Kd.int .u8).pair (Kd.int .u8)) (St0 W) (some ⟨1, 0, none⟩) y0b.length y0b := by
  rw [MakeChecks.laidMetH_plain _ _ _ (by kernel_rfl)] at h
  have e : Rows.laid_unicode_utf8_acceptRanges = (.agg (y0b.map fun z => .agg ([z.1, z.2].map fun z => .lit (.int .u8 z))) : DataW Unit) := by kernel_rfl
  have h := laidMet.reads h (List.Mem.head _)
  rw [e] at h
  exact rd_pairs (t := 165) (e := 164) (f := 5) (N := 16) h (by kernel_rfl) (by kernel_rfl) Tryd.underlying165 (by decide +kernel) Tryd.underlying164 (fun j f hj => by
    match j, hj with
    | 0, hj => simp at hj; subst hj; exact ⟨Tryd.underlying5, rfl, by kernel_rfl⟩
    | 1, hj => simp at hj; subst hj; exact ⟨Tryd.underlying5, rfl, by kernel_rfl⟩
    | j + 2, hj => simp at hj) rfl (by kernel_rfl) (by decide +kernel)
set_option maxRecDepth 100000 in
theorem tab0 {W : World} (h : laidMetH Tryd.prog Rows.fnSessionRow.laid W) : Rd (Kd.int .u8) (St0 W) (some ⟨0, 0, none⟩) u8First.length u8First := by
  rw [MakeChecks.laidMetH_plain _ _ _ (by kernel_rfl)] at h
  have e : Rows.laid_unicode_utf8_first = tabData .u8 u8First := by kernel_rfl
  have h := laidMet.reads h (List.Mem.tail _ (List.Mem.head _))
  rw [e] at h
  exact rd_tab (t := 162) (e := 5) (N := 256) h (by kernel_rfl) (by kernel_rfl) Tryd.underlying162 Tryd.underlying5 (by kernel_rfl) (by kernel_rfl) (by decide +kernel)
set_option maxRecDepth 100000 in
theorem lifted (os : Os) (started : os.Started) (H : Type) (enc : TypeId × Value → H) :
    ReturnsInHanded {} Tryd.checked os 6 .any (fun w args => (Rows.fnSessionSpec.pre enc Tryd.prog Tryd.f6 [] false w args ∧ laidMetH Tryd.prog Rows.fnSessionRow.laid w) ∧ sizedMet enc Tryd.prog Tryd.f6 (OpenSpec.ofChange Rows.fnSessionSpec) false w args) (Rows.fnSessionSpec.post enc Tryd.prog Tryd.f6 false true false false) := by
  refine returnsInHanded_of_change_and (C := Tryd.checked) (X := fun w _ => laidMetH Tryd.prog Rows.fnSessionRow.laid w) (fun _ _ _ hh h => h.of_heap hh) own started (by kernel_rfl) Tryd.func6
    (ChangeSpec.witness_shaped (enc := enc) (C := Tryd.checked) (os := os) (X := fun w _ => laidMetH Tryd.prog Rows.fnSessionRow.laid w) false (laidWorld os) #[.slice none 0 0, .slice none 0 0] 8 rfl (World.shaped_of_RefB (by kernel_rfl) (by kernel_rfl)) (by kernel_rfl) (by kernel_rfl) (by kernel_rfl) (laid_met os _)) ?_
  intro W base args ds gs before hval0 hW hcnd hsz0 hL _
  have hval : ∀ (j : Nat) t v, Tryd.f6.params[j]? = some t → args[j]? = some v → Value.okWide Tryd.prog W .any base t v := hval0
  have hW' := hW
  obtain ⟨p, q, hA0, hV, rfl, hfz, hnd⟩ := hW
  have hA : DataW.TrodAll enc Tryd.prog W 0 (fun _ => true) true Tryd.f6.params.toList args.toList ds p := hA0
  rw [Tryd.params6] at hA hval
  obtain ⟨v0, vs0, d0, ds0, p0, q0, hargs, rfl, rfl, h0, r0⟩ := trodAll_cons hA
  obtain ⟨v1, vs1, d1, ds1, p1, q1, rfl, rfl, rfl, h1, r1⟩ := trodAll_cons r0
  obtain ⟨rfl, rfl, rfl⟩ := trodAll_nil r1
  obtain rfl : args = #[v0, v1] := by cases args; simp_all
  obtain ⟨rfl, rfl⟩ := trodVars_none hV
  have lt0 : ∀ x ∈ p0, x.block < W.heap.size := by have hk := h0; obtain ⟨m, hm⟩ := hk; exact DataW.trod_lt m _ _ _ hm
  have o0 := (Opens.slice Tryd.underlying56 (by kernel_rfl) (by decide) (Opens.int Tryd.underlying5)).par h0
  obtain ⟨A0, L0, C0, rfl⟩ := okWide_slice Tryd.underlying56 (hval 0 56 v0 rfl rfl)
  obtain ⟨a0, ⟨A'0, c0, e0, R0⟩, w0⟩ := o0
  simp only [Value.cells, List.cons.injEq, and_true, Value.slice.injEq] at e0
  obtain ⟨rfl, rfl, rfl⟩ := e0
  have lt1 : ∀ x ∈ p1, x.block < W.heap.size := by have hk := h1; obtain ⟨m, hm⟩ := hk; exact DataW.trod_lt m _ _ _ hm
  have o1 := (Opens.slice Tryd.underlying56 (by kernel_rfl) (by decide) (Opens.int Tryd.underlying5)).par h1
  obtain ⟨A1, L1, C1, rfl⟩ := okWide_slice Tryd.underlying56 (hval 1 56 v1 rfl rfl)
  obtain ⟨a1, ⟨A'1, c1, e1, R1⟩, w1⟩ := o1
  simp only [Value.cells, List.cons.injEq, and_true, Value.slice.injEq] at e1
  obtain ⟨rfl, rfl, rfl⟩ := e1
  clear hA0 hval0 hsz0
  have H := law_Session a0 a1 w0 w1
  refine (z23.ok (St0 W) (St0 W) no _ _ a0 _ _ a1 R0 R1 (tab0 hL) (tab1 hL) (Hp.own (Bs.refl _)) _ H W (Ok.start W)).mono fun e W' ⟨v, s', he, hp, hok⟩ => ?_
  obtain ⟨rfl, -⟩ := hp
  subst he
  have bel := hok.below
  exact ⟨_, rfl, _, _, _, [], _, [], hW', trodAll_mk1 (shut_bool Tryd.underlying4 _), (trodAll_cons_mk (Below.trod laidOut (by kernel_rfl) (of_decide_eq_true (by kernel_rfl)) h0 bel lt0) (trodAll_cons_mk (Below.trod laidOut (by kernel_rfl) (of_decide_eq_true (by kernel_rfl)) h1 bel lt1) trodAll_mk0)), rfl, bel.frame _, fun h => by cases h⟩
theorem over : Rows.fnSessionRow.holds Tryd.pinned (OpenSpec.ofChange Rows.fnSessionSpec) :=
  OpenClaim.holds_of_wide 6 Tryd.f6 rfl rfl rfl rfl rfl rfl rfl ⟨rfl, rfl, rfl, rfl, rfl⟩ rfl rfl rfl rfl rfl (by kernel_rfl) Tryd.func6 (by kernel_rfl)
    (of_decide_eq_true (by kernel_rfl)) (by unfold Func.isWrapper; first | (rw [if_pos (by decide +kernel)]; kernel_rfl) | (rw [if_neg (by decide +kernel)]; exact ⟨rfl, rfl⟩))
    (fun os started H enc _ => lifted os started H enc)
end Go.Proofs.YtaojkgkajppkaaaDoor.fnSession
namespace Go.Proofs.YtaojkgkajppkaaaDoor
theorem fnSession_holds : Rows.FnSessionCardSaid :=
  Claim7.holds_tied_plain_at .later [] [.data, .pinned] true (true, "75d40f4c2f222e0c4a490f9457a7f4685a816f111e4a2065f30f7c8d618f2876") false
    fnSession.over (fun _ h => by cases h) (by kernel_rfl) (fun _ h => by cases h) fnSession_row_tie rfl ⟨rfl, rfl⟩ (by kernel_rfl) rfl
    (fun f fn hf hfn => by
      obtain rfl : f = 6 := Option.some.inj ((show Tryd.prog.funcNamed "loop.example/g00692/laws.FnSession" = some 6 by kernel_rfl).symm.trans hf) |>.symm
      obtain rfl : fn = Tryd.f6 := (Option.some.inj (Tryd.func6.symm.trans hfn)).symm
      exact ⟨by kernel_rfl, fun j t ht => by
        rw [Tryd.params6] at ht
        have hm : t ∈ [56, 56] := by simpa using Array.mem_of_getElem? ht
        have hall : ([56, 56].all fun u => !Tryd.prog.wantsStandIn u) = true := by kernel_rfl
        exact (show Tryd.prog.wantsStandIn t = false by simpa using List.all_eq_true.1 hall t hm)⟩)
    (by kernel_rfl)
end Go.Proofs.YtaojkgkajppkaaaDoor
