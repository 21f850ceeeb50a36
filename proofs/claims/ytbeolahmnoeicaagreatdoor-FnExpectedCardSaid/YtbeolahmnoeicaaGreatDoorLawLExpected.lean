/- The law FnExpected: for every input it answers true and leaves its arguments as they were. No conditions beyond the row's own. -/
import Derived.Test.YtbeolahmnoeicaaGreatDoorRows
import Derived.Test.YtbeolahmnoeicaaGreatDoorWLExpected5
import Derived.Test.YtbeolahmnoeicaaGreatDoorPLExpectedq0
import Derived.Test.YtbeolahmnoeicaaGreatDoorPLExpected
import Derived.Test.YtbeolahmnoeicaaGreatDoorGLR
import Derived.Test.YtbeolahmnoeicaaGreatDoorGW
import Derived.Test.YtbeolahmnoeicaaGreatDoorCards
import Derived.Test.YtbeolahmnoeicaaGreatDoorTie
import Derived.SevenTiedAt
set_option linter.unusedVariables false
namespace Go.Proofs.YtbeolahmnoeicaaGreatDoor.fnExpected
open Go Go.ChangeShapes Go.WideShapes Go.ChangeAt Go.RowKit Go.Proofs.GL Go.Lib
theorem own : ownKnob Tryz.prog.godebug = none := by kernel_rfl
theorem laidOut : laidOutB Tryz.prog = true := by kernel_rfl
noncomputable def laidWorld (os : Os) : World :=
  let w0 := World.holding Tryz.prog os ⟨#[], #[], []⟩
  let put (h : Array Obj) (g : Nat) (cs : Array Value) : Array Obj := h.modify g fun
    | .cells _ t frozen => .cells cs t frozen
    | o => o
  { w0 with heap := (put (put w0.heap 1 (u8Accept.flatMap fun z => [Value.int .u8 z.1, Value.int .u8 z.2]).toArray) 0 (u8First.map (Value.int .u8)).toArray) }
set_option maxRecDepth 100000 in
theorem laid_met (os : Os) (args : Array Value) : laidMetH Tryz.prog Rows.fnExpectedRow.laid ((laidWorld os).forCall (fun _ _ => 0) ⟨#[], args, []⟩).memory :=
  laidMetH_of_parts3 (fuel := 8) (laidMet_of_run' 8 (by kernel_rfl) (by kernel_rfl)) (by kernel_rfl) (by kernel_rfl)
set_option maxRecDepth 100000 in
theorem tab1 {W : World} (h : laidMetH Tryz.prog Rows.fnExpectedRow.laid W) : Rd ((Kd.int .u8).pair (Kd.int .u8)) (St0 W) (some ⟨1, 0, none⟩) u8Accept.length u8Accept := by
  rw [MakeChecks.laidMetH_plain _ _ _ (by kernel_rfl)] at h
  have e : Rows.laid_unicode_utf8_acceptRanges = (.agg (u8Accept.map fun z => .agg ([z.1, z.2].map fun z => .lit (.int .u8 z))) : DataW Unit) := by kernel_rfl
  have h := laidMet.reads h (List.Mem.head _)
  rw [e] at h
  exact rd_pairs (t := 263) (e := 262) (f := 5) (N := 16) h (by kernel_rfl) (by kernel_rfl) Tryz.underlying263 (by decide +kernel) Tryz.underlying262 (fun j f hj => by
    match j, hj with
    | 0, hj => simp at hj; subst hj; exact ⟨Tryz.underlying5, rfl, by kernel_rfl⟩
    | 1, hj => simp at hj; subst hj; exact ⟨Tryz.underlying5, rfl, by kernel_rfl⟩
    | j + 2, hj => simp at hj) rfl (by kernel_rfl) (by decide +kernel)
set_option maxRecDepth 100000 in
theorem tab0 {W : World} (h : laidMetH Tryz.prog Rows.fnExpectedRow.laid W) : Rd (Kd.int .u8) (St0 W) (some ⟨0, 0, none⟩) u8First.length u8First := by
  rw [MakeChecks.laidMetH_plain _ _ _ (by kernel_rfl)] at h
  have e : Rows.laid_unicode_utf8_first = tabData .u8 u8First := by kernel_rfl
  have h := laidMet.reads h (List.Mem.tail _ (List.Mem.head _))
  rw [e] at h
  exact rd_tab (t := 260) (e := 5) (N := 256) h (by kernel_rfl) (by kernel_rfl) Tryz.underlying260 Tryz.underlying5 (by kernel_rfl) (by kernel_rfl) (by decide +kernel)
set_option maxRecDepth 100000 in
theorem lifted (os : Os) (started : os.Started) (H : Type) (enc : TypeId × Value → H) :
    ReturnsInHanded {} Tryz.checked os 3 .any (fun w args => (Rows.fnExpectedSpec.pre enc Tryz.prog Tryz.f3 [] false w args ∧ laidMetH Tryz.prog Rows.fnExpectedRow.laid w) ∧ sizedMet enc Tryz.prog Tryz.f3 (OpenSpec.ofChange Rows.fnExpectedSpec) false w args) (Rows.fnExpectedSpec.post enc Tryz.prog Tryz.f3 false true false false) := by
  refine returnsInHanded_of_change_and (C := Tryz.checked) (X := fun w _ => laidMetH Tryz.prog Rows.fnExpectedRow.laid w) (fun _ _ _ hh h => h.of_heap hh) own started (by kernel_rfl) Tryz.func3
    (ChangeSpec.witness_shaped (enc := enc) (C := Tryz.checked) (os := os) (X := fun w _ => laidMetH Tryz.prog Rows.fnExpectedRow.laid w) false (laidWorld os) #[.slice none 0 0, .slice none 0 0] 8 rfl (World.shaped_of_RefB (by kernel_rfl) (by kernel_rfl)) (by kernel_rfl) (by kernel_rfl) (by kernel_rfl) (laid_met os _)) ?_
  intro W base args ds gs before hval0 hW hcnd hsz0 hL _
  have hval : ∀ (j : Nat) t v, Tryz.f3.params[j]? = some t → args[j]? = some v → Value.okWide Tryz.prog W .any base t v := hval0
  have hW' := hW
  obtain ⟨p, q, hA0, hV, rfl, hfz, hnd⟩ := hW
  have hA : DataW.TrodAll enc Tryz.prog W 0 (fun _ => true) true Tryz.f3.params.toList args.toList ds p := hA0
  rw [Tryz.params3] at hA hval
  obtain ⟨v0, vs0, d0, ds0, p0, q0, hargs, rfl, rfl, h0, r0⟩ := trodAll_cons hA
  obtain ⟨v1, vs1, d1, ds1, p1, q1, rfl, rfl, rfl, h1, r1⟩ := trodAll_cons r0
  obtain ⟨rfl, rfl, rfl⟩ := trodAll_nil r1
  obtain rfl : args = #[v0, v1] := by cases args; simp_all
  obtain ⟨rfl, rfl⟩ := trodVars_none hV
  have lt0 : ∀ x ∈ p0, x.block < W.heap.size := by have hk := h0; obtain ⟨m, hm⟩ := hk; exact DataW.trod_lt m _ _ _ hm
  have o0 := (Opens.slice Tryz.underlying22 (by kernel_rfl) (by decide) (Opens.int Tryz.underlying5)).par h0
  obtain ⟨A0, L0, C0, rfl⟩ := okWide_slice Tryz.underlying22 (hval 0 22 v0 rfl rfl)
  obtain ⟨a0, ⟨A'0, c0, e0, R0⟩, w0⟩ := o0
  simp only [Value.cells, List.cons.injEq, and_true, Value.slice.injEq] at e0
  obtain ⟨rfl, rfl, rfl⟩ := e0
  have lt1 : ∀ x ∈ p1, x.block < W.heap.size := by have hk := h1; obtain ⟨m, hm⟩ := hk; exact DataW.trod_lt m _ _ _ hm
  have o1 := (Opens.slice Tryz.underlying22 (by kernel_rfl) (by decide) (Opens.int Tryz.underlying5)).par h1
  obtain ⟨A1, L1, C1, rfl⟩ := okWide_slice Tryz.underlying22 (hval 1 22 v1 rfl rfl)
  obtain ⟨a1, ⟨A'1, c1, e1, R1⟩, w1⟩ := o1
  simp only [Value.cells, List.cons.injEq, and_true, Value.slice.injEq] at e1
  obtain ⟨rfl, rfl, rfl⟩ := e1
  clear hA0 hval0 hsz0
  have H := law_Expected a0 a1 w0 w1
  refine (z32.ok (St0 W) (St0 W) no _ _ a0 _ _ a1 R0 R1 (tab0 hL) (tab1 hL) (Hp.own (Bs.refl _)) _ H W (Ok.start W)).mono fun e W' ⟨v, s', he, hp, hok⟩ => ?_
  obtain ⟨rfl, -⟩ := hp
  subst he
  have bel := hok.below
  exact ⟨_, rfl, _, _, _, [], _, [], hW', trodAll_mk1 (shut_bool Tryz.underlying4 _), (trodAll_cons_mk (Below.trod laidOut (by kernel_rfl) (of_decide_eq_true (by kernel_rfl)) h0 bel lt0) (trodAll_cons_mk (Below.trod laidOut (by kernel_rfl) (of_decide_eq_true (by kernel_rfl)) h1 bel lt1) trodAll_mk0)), rfl, bel.frame _, fun h => by cases h⟩
theorem over : Rows.fnExpectedRow.holds Tryz.pinned (OpenSpec.ofChange Rows.fnExpectedSpec) :=
  OpenClaim.holds_of_wide 3 Tryz.f3 rfl rfl rfl rfl rfl rfl rfl ⟨rfl, rfl, rfl, rfl, rfl⟩ rfl rfl rfl rfl rfl (by kernel_rfl) Tryz.func3 (by kernel_rfl)
    (of_decide_eq_true (by kernel_rfl)) (by unfold Func.isWrapper; first | (rw [if_pos (by decide +kernel)]; kernel_rfl) | (rw [if_neg (by decide +kernel)]; exact ⟨rfl, rfl⟩))
    (fun os started H enc _ => lifted os started H enc)
end Go.Proofs.YtbeolahmnoeicaaGreatDoor.fnExpected
namespace Go.Proofs.YtbeolahmnoeicaaGreatDoor
theorem fnExpected_holds : Rows.FnExpectedCardSaid :=
  Claim7.holds_tied_plain_at .later [] [.data, .pinned] true (true, "71dcaf2fb17335835338daa9cbdcb2910e79d7ec5f3c233cbe97aa0a7b50b1bd") true
    fnExpected.over (fun _ h => by cases h) (by kernel_rfl) (fun _ h => by cases h) fnExpected_row_tie rfl ⟨rfl, rfl⟩ (by kernel_rfl) rfl
    (fun f fn hf hfn => by
      obtain rfl : f = 3 := Option.some.inj ((show Tryz.prog.funcNamed "loop.example/g00692/laws.FnExpected" = some 3 by kernel_rfl).symm.trans hf) |>.symm
      obtain rfl : fn = Tryz.f3 := (Option.some.inj (Tryz.func3.symm.trans hfn)).symm
      exact ⟨by kernel_rfl, fun j t ht => by
        rw [Tryz.params3] at ht
        have hm : t ∈ [22, 22] := by simpa using Array.mem_of_getElem? ht
        have hall : ([22, 22].all fun u => !Tryz.prog.wantsStandIn u) = true := by kernel_rfl
        exact (show Tryz.prog.wantsStandIn t = false by simpa using List.all_eq_true.1 hall t hm)⟩)
    (by kernel_rfl)
end Go.Proofs.YtbeolahmnoeicaaGreatDoor
