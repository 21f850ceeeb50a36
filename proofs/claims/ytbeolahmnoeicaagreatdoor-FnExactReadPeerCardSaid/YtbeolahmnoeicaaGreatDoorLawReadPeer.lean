/- The law FnExactReadPeer: for every input it answers true and leaves its arguments as they were. No conditions beyond the row's own. -/
import Derived.Test.YtbeolahmnoeicaaGreatDoorRows
import Derived.Test.YtbeolahmnoeicaaGreatDoorWReadPeer1
import Derived.Test.YtbeolahmnoeicaaGreatDoorPReadPeer
import Derived.Test.YtbeolahmnoeicaaGreatDoorGLR
import Derived.Test.YtbeolahmnoeicaaGreatDoorGW
import Derived.Test.YtbeolahmnoeicaaGreatDoorGLS
import Derived.Test.YtbeolahmnoeicaaGreatDoorCards
import Derived.Test.YtbeolahmnoeicaaGreatDoorTie
import Derived.SevenTiedAt
set_option linter.unusedVariables false
namespace Go.Proofs.YtbeolahmnoeicaaGreatDoor.fnExactReadPeer
open Go Go.ChangeShapes Go.WideShapes Go.ChangeAt Go.RowKit Go.Proofs.GL Go.Lib
theorem own : ownKnob Tryz.prog.godebug = none := by kernel_rfl
theorem laidOut : laidOutB Tryz.prog = true := by kernel_rfl
noncomputable def low : Nat := (World.holding Tryz.prog default ⟨#[], #[], []⟩).heap.size
noncomputable def laidWorld (os : Os) : World :=
  let w0 := World.holding Tryz.prog os ⟨#[.cells #[.string ⟨#[118, 97, 108, 117, 101, 32, 111, 117, 116, 32, 111, 102, 32, 114, 97, 110, 103, 101]⟩] 310, .cells #[.string ⟨#[105, 110, 118, 97, 108, 105, 100, 32, 115, 121, 110, 116, 97, 120]⟩] 310], #[], []⟩
  let put (h : Array Obj) (g : Nat) (cs : Array Value) : Array Obj := h.modify g fun
    | .cells _ t frozen => .cells cs t frozen
    | o => o
  { w0 with heap := (put (put (put (put (put (put (put w0.heap 6 ([0, 1, 28, 2, 29, 14, 24, 3, 30, 22, 20, 15, 25, 17, 4, 8, 31, 27, 13, 23, 21, 19, 16, 7, 26, 12, 18, 6, 11, 5, 10, 9].map (Value.int .u8)).toArray) 7 ([0, 1, 56, 2, 57, 49, 28, 3, 61, 58, 42, 50, 38, 29, 17, 4, 62, 47, 59, 36, 45, 43, 51, 22, 53, 39, 33, 30, 24, 18, 12, 5, 63, 55, 48, 27, 60, 41, 37, 16, 46, 35, 44, 21, 52, 32, 23, 11, 54, 26, 40, 15, 34, 20, 31, 10, 25, 14, 19, 9, 13, 8, 7, 6].map (Value.int .u8)).toArray) 3 (pow10U.map (Value.int .u64)).toArray) 1 (u8Accept.flatMap fun z => [Value.int .u8 z.1, Value.int .u8 z.2]).toArray) 5 #[.iface 308 (.pointer (some ⟨low + 0, 0, none⟩))]) 4 #[.iface 308 (.pointer (some ⟨low + 1, 0, none⟩))]) 0 (u8First.map (Value.int .u8)).toArray) }
set_option maxRecDepth 100000 in
theorem laid_met (os : Os) (args : Array Value) : laidMetH Tryz.prog Rows.fnExactReadPeerRow.laid ((laidWorld os).forCall (fun _ _ => 0) ⟨#[], args, []⟩).memory :=
  laidMetH_of_parts3 (fuel := 8) (laidMet_of_run' 8 (by kernel_rfl) (by kernel_rfl)) (by kernel_rfl) (by kernel_rfl)
theorem star : "*" ++ "errors.errorString" = "*errors.errorString" := by decide
theorem rowOf (u : TypeId) (h : Tryz.prog.typeName? 3 u = some "*errors.errorString") : u = 308 :=
  typeName_ptr_named (nm := "errors.errorString") (by rw [star]; kernel_rfl) (by kernel_rfl) (by decide) u (by rw [star]; exact h)
theorem tab2 {W : World} (hs : W.ShapedOpen Tryz.prog) : HasI (StT W 3) 2 :=
  HasI.start (cell_of_shapedOpen_int hs (of_decide_eq_true (by kernel_rfl)) (zero := #[.int .i64 0]) (t := 3) (by kernel_rfl) rfl (by kernel_rfl) (by kernel_rfl) Tryz.underlying3)
set_option maxRecDepth 100000 in
theorem tab3 {W : World} (h : laidMetH Tryz.prog Rows.fnExactReadPeerRow.laid W) (hs : W.ShapedOpen Tryz.prog) : HasT .u64 pow10U (StT W 3) 3 := by
  rw [MakeChecks.laidMetH_plain _ _ _ (by kernel_rfl)] at h
  have e : (Rows.laid_internal_strconv_uint64pow10 : DataW Unit) = tabData .u64 pow10U := by kernel_rfl
  have h := laidMet.reads h (List.Mem.tail _ (List.Mem.tail _ (List.Mem.head _)))
  rw [e] at h
  exact HasT.start (tab_is h (g := 3) (t := 295) (e := 104) (N := 20) (by kernel_rfl) (by kernel_rfl) Tryz.underlying295 Tryz.underlying104 (by kernel_rfl) (by kernel_rfl)) (by kernel_rfl) (heap_of_shapedOpen hs (of_decide_eq_true (by kernel_rfl)) (zero := (Array.replicate 20 (Value.int .u64 0))) (t := 295) (by kernel_rfl))
set_option maxRecDepth 100000 in
theorem tab4 {W : World} (h : laidMetH Tryz.prog Rows.fnExactReadPeerRow.laid W) : HasE (StT W 3) 4 := by
  rw [MakeChecks.laidMetH_plain _ _ _ (by kernel_rfl)] at h
  replace h := laidMet.tail h
  replace h := laidMet.tail h
  replace h := laidMet.tail h
  replace h := laidMet.tail h
  replace h := laidMet.tail h
  obtain ⟨_, _, hv, -⟩ := laid_sentinel h (g := 4) (ti := 225) (by kernel_rfl) (by kernel_rfl) Tryz.underlying225 rowOf Tryz.underlying308 Tryz.underlying310 rfl rfl Tryz.underlying9 (by kernel_rfl) (by kernel_rfl)
  exact HasE.start (by kernel_rfl) hv
set_option maxRecDepth 100000 in
theorem tab5 {W : World} (h : laidMetH Tryz.prog Rows.fnExactReadPeerRow.laid W) : HasE (StT W 3) 5 := by
  rw [MakeChecks.laidMetH_plain _ _ _ (by kernel_rfl)] at h
  replace h := laidMet.tail h
  replace h := laidMet.tail h
  replace h := laidMet.tail h
  replace h := laidMet.tail h
  obtain ⟨_, _, hv, -⟩ := laid_sentinel h (g := 5) (ti := 225) (by kernel_rfl) (by kernel_rfl) Tryz.underlying225 rowOf Tryz.underlying308 Tryz.underlying310 rfl rfl Tryz.underlying9 (by kernel_rfl) (by kernel_rfl)
  exact HasE.start (by kernel_rfl) hv
set_option maxRecDepth 100000 in
theorem lifted (os : Os) (started : os.Started) (H : Type) (enc : TypeId × Value → H) :
    ReturnsInHanded {} Tryz.checked os 4 .any (fun w args => (Rows.fnExactReadPeerSpec.pre enc Tryz.prog Tryz.f4 [] false w args ∧ laidMetH Tryz.prog Rows.fnExactReadPeerRow.laid w) ∧ sizedMet enc Tryz.prog Tryz.f4 (OpenSpec.ofChange Rows.fnExactReadPeerSpec) false w args) (Rows.fnExactReadPeerSpec.post enc Tryz.prog Tryz.f4 false true false false) := by
  refine returnsInHanded_open (C := Tryz.checked) (X := fun w _ => laidMetH Tryz.prog Rows.fnExactReadPeerRow.laid w) (fun _ _ _ hh h => h.of_heap hh) own started (by kernel_rfl) Tryz.func4
    (ChangeSpec.witness_shaped (enc := enc) (C := Tryz.checked) (os := os) (X := fun w _ => laidMetH Tryz.prog Rows.fnExactReadPeerRow.laid w) false (laidWorld os) #[.string ⟨#[]⟩, .int .i64 0] 8 rfl (World.shaped_of_RefB (by kernel_rfl) (by kernel_rfl)) (by kernel_rfl) (by kernel_rfl) (by kernel_rfl) (laid_met os _)) ?_
  intro W base args ds gs before hval0 hW hcnd hsz0 hL hSO
  have hval : ∀ (j : Nat) t v, Tryz.f4.params[j]? = some t → args[j]? = some v → Value.okWide Tryz.prog W .any base t v := hval0
  have hW' := hW
  obtain ⟨p, q, hA0, hV, rfl, hfz, hnd⟩ := hW
  have hA : DataW.TrodAll enc Tryz.prog W 0 (fun _ => true) true Tryz.f4.params.toList args.toList ds p := hA0
  rw [Tryz.params4] at hA hval
  obtain ⟨v0, vs0, d0, ds0, p0, q0, hargs, rfl, rfl, h0, r0⟩ := trodAll_cons hA
  obtain ⟨v1, vs1, d1, ds1, p1, q1, rfl, rfl, rfl, h1, r1⟩ := trodAll_cons r0
  obtain ⟨rfl, rfl, rfl⟩ := trodAll_nil r1
  obtain rfl : args = #[v0, v1] := by cases args; simp_all
  obtain ⟨rfl, rfl⟩ := trodVars_none hV
  have lt0 : ∀ x ∈ p0, x.block < W.heap.size := by have hk := h0; obtain ⟨m, hm⟩ := hk; exact DataW.trod_lt m _ _ _ hm
  have o0 := (Opens.str Tryz.underlying9).par h0
  obtain ⟨n0, rfl⟩ := okWide_string Tryz.underlying9 (hval 0 9 v0 rfl rfl)
  obtain ⟨a0, e0, w0⟩ := o0
  obtain rfl : n0 = a0 := by simpa [Kd.str, Kd.scalar, Value.cells] using e0
  have lt1 : ∀ x ∈ p1, x.block < W.heap.size := by have hk := h1; obtain ⟨m, hm⟩ := hk; exact DataW.trod_lt m _ _ _ hm
  have o1 := (Opens.int Tryz.underlying3).par h1
  obtain ⟨n1, rfl⟩ := okWide_int Tryz.underlying3 (hval 1 3 v1 rfl rfl)
  obtain ⟨a1, e1, w1⟩ := o1
  obtain rfl : n1 = a1 := by simpa [Kd.int, Kd.scalar, Value.cells] using e1
  clear hA0 hval0 hsz0
  have H := law_ReadPeer n0 n1 w0 w1
  refine (z0f.ok (StT W 3) (StT W 3) no n0 n1 (tab2 hSO) (tab3 hL hSO) (tab4 hL) (tab5 hL) (Hp.own (Bs.refl _)) _ H W (Ok.startT W 3)).mono fun e W' ⟨v, s', he, hp, hok⟩ => ?_
  obtain ⟨rfl, hp2⟩ := hp
  subst he
  have bel := hok.belowT hp2.bs
  exact ⟨_, rfl, _, _, _, [], _, [], hW', trodAll_mk1 (shut_bool Tryz.underlying4 _), (trodAll_cons_mk (Below.trod laidOut (by kernel_rfl) (of_decide_eq_true (by kernel_rfl)) h0 bel lt0) (trodAll_cons_mk (Below.trod laidOut (by kernel_rfl) (of_decide_eq_true (by kernel_rfl)) h1 bel lt1) trodAll_mk0)), rfl, bel.frame _, fun h => by cases h⟩
theorem over : Rows.fnExactReadPeerRow.holds Tryz.pinned (OpenSpec.ofChange Rows.fnExactReadPeerSpec) :=
  OpenClaim.holds_of_wide 4 Tryz.f4 rfl rfl rfl rfl rfl rfl rfl ⟨rfl, rfl, rfl, rfl, rfl⟩ rfl rfl rfl rfl rfl (by kernel_rfl) Tryz.func4 (by kernel_rfl)
    (of_decide_eq_true (by kernel_rfl)) (by unfold Func.isWrapper; first | (rw [if_pos (by decide +kernel)]; kernel_rfl) | (rw [if_neg (by decide +kernel)]; exact ⟨rfl, rfl⟩))
    (fun os started H enc _ => lifted os started H enc)
end Go.Proofs.YtbeolahmnoeicaaGreatDoor.fnExactReadPeer
namespace Go.Proofs.YtbeolahmnoeicaaGreatDoor
theorem fnExactReadPeer_holds : Rows.FnExactReadPeerCardSaid :=
  Claim7.holds_tied_plain_at .later [] [.data, .data, .data, .data, .sentinel, .sentinel, .pinned] true (true, "71dcaf2fb17335835338daa9cbdcb2910e79d7ec5f3c233cbe97aa0a7b50b1bd") true
    fnExactReadPeer.over (fun _ h => by cases h) (by kernel_rfl) (fun _ h => by cases h) fnExactReadPeer_row_tie rfl ⟨rfl, rfl⟩ (by kernel_rfl) rfl
    (fun f fn hf hfn => by
      obtain rfl : f = 4 := Option.some.inj ((show Tryz.prog.funcNamed "loop.example/g00692/laws.FnExactReadPeer" = some 4 by kernel_rfl).symm.trans hf) |>.symm
      obtain rfl : fn = Tryz.f4 := (Option.some.inj (Tryz.func4.symm.trans hfn)).symm
      exact ⟨by kernel_rfl, fun j t ht => by
        rw [Tryz.params4] at ht
        have hm : t ∈ [9, 3] := by simpa using Array.mem_of_getElem? ht
        have hall : ([9, 3].all fun u => !Tryz.prog.wantsStandIn u) = true := by kernel_rfl
        exact (show Tryz.prog.wantsStandIn t = false by simpa using List.all_eq_true.1 hall t hm)⟩)
    (by kernel_rfl)
end Go.Proofs.YtbeolahmnoeicaaGreatDoor
