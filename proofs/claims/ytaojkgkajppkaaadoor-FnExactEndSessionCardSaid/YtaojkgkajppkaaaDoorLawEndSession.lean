/- The law FnExactEndSession: for every input it answers true and leaves its arguments as they were. No conditions beyond the row's own. -/
import Derived.Test.YtaojkgkajppkaaaDoorRows
import Derived.Test.YtaojkgkajppkaaaDoorWEndSession2
import Derived.Test.YtaojkgkajppkaaaDoorPEndSession
import Derived.Test.YtaojkgkajppkaaaDoorGLR
import Derived.Test.YtaojkgkajppkaaaDoorGW
import Derived.Test.YtaojkgkajppkaaaDoorCards
import Derived.Test.YtaojkgkajppkaaaDoorTie
import Derived.SevenTiedAt
set_option linter.unusedVariables false
namespace Go.Proofs.YtaojkgkajppkaaaDoor.fnExactEndSession
open Go Go.ChangeShapes Go.WideShapes Go.ChangeAt Go.RowKit Go.Proofs.GL Go.Lib
theorem own : ownKnob Tryd.prog.godebug = none := by kernel_rfl
theorem laidOut : laidOutB Tryd.prog = true := by kernel_rfl
noncomputable def laidWorld (os : Os) : World :=
  let w0 := World.holding Tryd.prog os ⟨#[], #[], []⟩
  let put (h : Array Obj) (g : Nat) (cs : Array Value) : Array Obj := h.modify g fun
    | .cells _ t frozen => .cells cs t frozen
    | o => o
  { w0 with heap := (put (put w0.heap 1 (u8Accept.flatMap fun z => [Value.int .u8 z.1, Value.int .u8 z.2]).toArray) 0 (u8First.map (Value.int .u8)).toArray) }
set_option maxRecDepth 100000 in
theorem laid_met (os : Os) (args : Array Value) : laidMetH Tryd.prog Rows.fnExactEndSessionRow.laid ((laidWorld os).forCall (fun _ _ => 0) ⟨#[], args, []⟩).memory :=
  laidMetH_of_parts3 (fuel := 8) (laidMet_of_run' 8 (by kernel_rfl) (by kernel_rfl)) (by kernel_rfl) (by kernel_rfl)
set_option maxRecDepth 100000 in
theorem tab1 {W : World} (h : laidMetH Tryd.prog Rows.fnExactEndSessionRow.laid W) : Rd ((Kd.int .u8).pair (Kd.int .u8)) (St0 W) (some ⟨1, 0, none⟩) u8Accept.length u8Accept := by
  rw [MakeChecks.laidMetH_plain _ _ _ (by kernel_rfl)] at h
  have e : Rows.laid_unicode_utf8_acceptRanges = (.agg (u8Accept.map fun z => .agg ([z.1, z.2].map fun z => .lit (.int .u8 z))) : DataW Unit) := by kernel_rfl
  have h := laidMet.reads h (List.Mem.head _)
  rw [e] at h
  exact rd_pairs (t := 165) (e := 164) (f := 5) (N := 16) h (by kernel_rfl) (by kernel_rfl) Tryd.underlying165 (by decide +kernel) Tryd.underlying164 (fun j f hj => by
    match j, hj with
    | 0, hj => simp at hj; subst hj; exact ⟨Tryd.underlying5, rfl, by kernel_rfl⟩
    | 1, hj => simp at hj; subst hj; exact ⟨Tryd.underlying5, rfl, by kernel_rfl⟩
    | j + 2, hj => simp at hj) rfl (by kernel_rfl) (by decide +kernel)
set_option maxRecDepth 100000 in
theorem tab0 {W : World} (h : laidMetH Tryd.prog Rows.fnExactEndSessionRow.laid W) : Rd (Kd.int .u8) (St0 W) (some ⟨0, 0, none⟩) u8First.length u8First := by
  rw [MakeChecks.laidMetH_plain _ _ _ (by kernel_rfl)] at h
  have e : Rows.laid_unicode_utf8_first = tabData .u8 u8First := by kernel_rfl
  have h := laidMet.reads h (List.Mem.tail _ (List.Mem.head _))
  rw [e] at h
  exact rd_tab (t := 162) (e := 5) (N := 256) h (by kernel_rfl) (by kernel_rfl) Tryd.underlying162 Tryd.underlying5 (by kernel_rfl) (by kernel_rfl) (by decide +kernel)
set_option maxRecDepth 100000 in
theorem lifted (os : Os) (started : os.Started) (H : Type) (enc : TypeId × Value → H) :
    ReturnsInHanded {} Tryd.checked os 3 .any (fun w args => (Rows.fnExactEndSessionSpec.pre enc Tryd.prog Tryd.f3 [] false w args ∧ laidMetH Tryd.prog Rows.fnExactEndSessionRow.laid w) ∧ sizedMet enc Tryd.prog Tryd.f3 (OpenSpec.ofChange Rows.fnExactEndSessionSpec) false w args) (Rows.fnExactEndSessionSpec.post enc Tryd.prog Tryd.f3 false true false false) := by
  refine returnsInHanded_of_change_and (C := Tryd.checked) (X := fun w _ => laidMetH Tryd.prog Rows.fnExactEndSessionRow.laid w) (fun _ _ _ hh h => h.of_heap hh) own started (by kernel_rfl) Tryd.func3
    (ChangeSpec.witness_shaped (enc := enc) (C := Tryd.checked) (os := os) (X := fun w _ => laidMetH Tryd.prog Rows.fnExactEndSessionRow.laid w) false (laidWorld os) #[.agg #[.int .i64 0, .int .i64 0, .int .i64 0, .string ⟨#[]⟩, .int .i64 0, .slice none 0 0, .slice none 0 0, .int .i64 0, .bool false]] 8 rfl (World.shaped_of_RefB (by kernel_rfl) (by kernel_rfl)) (by kernel_rfl) (by kernel_rfl) (by kernel_rfl) (laid_met os _)) ?_
  intro W base args ds gs before hval0 hW hcnd hsz0 hL _
  have hval : ∀ (j : Nat) t v, Tryd.f3.params[j]? = some t → args[j]? = some v → Value.okWide Tryd.prog W .any base t v := hval0
  have hW' := hW
  obtain ⟨p, q, hA0, hV, rfl, hfz, hnd⟩ := hW
  have hA : DataW.TrodAll enc Tryd.prog W 0 (fun _ => true) true Tryd.f3.params.toList args.toList ds p := hA0
  rw [Tryd.params3] at hA hval
  obtain ⟨v0, vs0, d0, ds0, p0, q0, hargs, rfl, rfl, h0, r0⟩ := trodAll_cons hA
  obtain ⟨rfl, rfl, rfl⟩ := trodAll_nil r0
  obtain rfl : args = #[v0] := by cases args; simp_all
  obtain ⟨rfl, rfl⟩ := trodVars_none hV
  have lt0 : ∀ x ∈ p0, x.block < W.heap.size := by have hk := h0; obtain ⟨m, hm⟩ := hk; exact DataW.trod_lt m _ _ _ hm
  have o0 := (Opens.struct _ Tryd.underlying28 (by kernel_rfl) (OpensF.cons rfl (by kernel_rfl) rfl (Opens.struct _ Tryd.underlying23 (by kernel_rfl) (OpensF.cons rfl (by kernel_rfl) rfl (Opens.int Tryd.underlying3) (OpensF.cons rfl (by kernel_rfl) rfl (Opens.int Tryd.underlying3) (OpensF.cons rfl (by kernel_rfl) rfl (Opens.int Tryd.underlying3) (OpensF.one rfl (by kernel_rfl) (Opens.str Tryd.underlying9)))))) (OpensF.cons rfl (by kernel_rfl) rfl (Opens.struct _ Tryd.underlying26 (by kernel_rfl) (OpensF.cons rfl (by kernel_rfl) rfl (Opens.int Tryd.underlying3) (OpensF.cons rfl (by kernel_rfl) rfl (Opens.slice Tryd.underlying24 (by kernel_rfl) (by decide) (Opens.int Tryd.underlying3)) (OpensF.cons rfl (by kernel_rfl) rfl (Opens.slice Tryd.underlying24 (by kernel_rfl) (by decide) (Opens.int Tryd.underlying3)) (OpensF.one rfl (by kernel_rfl) (Opens.int Tryd.underlying3)))))) (OpensF.one rfl (by kernel_rfl) (Opens.bool Tryd.underlying4))))).par h0
  obtain ⟨L0, rfl, -⟩ := okWide_struct Tryd.underlying28 (hval 0 28 v0 rfl rfl)
  obtain ⟨a0, e0, w0⟩ := o0
  obtain ⟨l0, rfl⟩ : ∃ l : List Value, L0 = l.toArray := ⟨L0.toList, by simp⟩
  replace e0 : Kd.rep _ (St0 W) l0 a0 := e0
  obtain ⟨_, _, rfl, ⟨_, _, rfl, rfl, ⟨_, _, rfl, rfl, ⟨_, _, rfl, rfl, rfl⟩⟩⟩, ⟨_, _, rfl, ⟨_, _, rfl, rfl, ⟨_, _, rfl, ⟨A0_0, C0_0, rfl, R0_0⟩, ⟨_, _, rfl, ⟨A0_1, C0_1, rfl, R0_1⟩, rfl⟩⟩⟩, rfl⟩⟩ := e0
  obtain ⟨⟨w0_0, w0_1, w0_2, w0_3⟩, ⟨w0_4, w0_5, w0_6, w0_7⟩, w0_8⟩ := w0
  clear hA0 hval0 hsz0
  have H := law_EndSession a0.1.1 a0.1.2.1 a0.1.2.2.1 a0.1.2.2.2 a0.2.1.1 a0.2.1.2.1 a0.2.1.2.2.1 a0.2.1.2.2.2 a0.2.2 w0_0 w0_1 w0_2 w0_3 w0_4 w0_5 w0_6 w0_7 w0_8
  refine (z0z.ok (St0 W) (St0 W) no a0.1.1 a0.1.2.1 a0.1.2.2.1 a0.1.2.2.2 a0.2.1.1 _ _ a0.2.1.2.1 _ _ a0.2.1.2.2.1 a0.2.1.2.2.2 a0.2.2 R0_0 R0_1 (tab0 hL) (tab1 hL) (Hp.own (Bs.refl _)) _ H W (Ok.start W)).mono fun e W' ⟨v, s', he, hp, hok⟩ => ?_
  obtain ⟨rfl, -⟩ := hp
  subst he
  have bel := hok.below
  exact ⟨_, rfl, _, _, _, [], _, [], hW', trodAll_mk1 (shut_bool Tryd.underlying4 _), (trodAll_cons_mk (Below.trod laidOut (by kernel_rfl) (of_decide_eq_true (by kernel_rfl)) h0 bel lt0) trodAll_mk0), rfl, bel.frame _, fun h => by cases h⟩
theorem over : Rows.fnExactEndSessionRow.holds Tryd.pinned (OpenSpec.ofChange Rows.fnExactEndSessionSpec) :=
  OpenClaim.holds_of_wide 3 Tryd.f3 rfl rfl rfl rfl rfl rfl rfl ⟨rfl, rfl, rfl, rfl, rfl⟩ rfl rfl rfl rfl rfl (by kernel_rfl) Tryd.func3 (by kernel_rfl)
    (of_decide_eq_true (by kernel_rfl)) (by unfold Func.isWrapper; first | (rw [if_pos (by decide +kernel)]; kernel_rfl) | (rw [if_neg (by decide +kernel)]; exact ⟨rfl, rfl⟩))
    (fun os started H enc _ => lifted os started H enc)
end Go.Proofs.YtaojkgkajppkaaaDoor.fnExactEndSession
namespace Go.Proofs.YtaojkgkajppkaaaDoor
theorem fnExactEndSession_holds : Rows.FnExactEndSessionCardSaid :=
  Claim7.holds_tied_plain_at .later [] [.data, .pinned] true (true, "75d40f4c2f222e0c4a490f9457a7f4685a816f111e4a2065f30f7c8d618f2876") false
    fnExactEndSession.over (fun _ h => by cases h) (by kernel_rfl) (fun _ h => by cases h) fnExactEndSession_row_tie rfl ⟨rfl, rfl⟩ (by kernel_rfl) rfl
    (fun f fn hf hfn => by
      obtain rfl : f = 3 := Option.some.inj ((show Tryd.prog.funcNamed "loop.example/g00692/laws.FnExactEndSession" = some 3 by kernel_rfl).symm.trans hf) |>.symm
      obtain rfl : fn = Tryd.f3 := (Option.some.inj (Tryd.func3.symm.trans hfn)).symm
      exact ⟨by kernel_rfl, fun j t ht => by
        rw [Tryd.params3] at ht
        have hm : t ∈ [28] := by simpa using Array.mem_of_getElem? ht
        have hall : ([28].all fun u => !Tryd.prog.wantsStandIn u) = true := by kernel_rfl
        exact (show Tryd.prog.wantsStandIn t = false by simpa using List.all_eq_true.1 hall t hm)⟩)
    (by kernel_rfl)
end Go.Proofs.YtaojkgkajppkaaaDoor
