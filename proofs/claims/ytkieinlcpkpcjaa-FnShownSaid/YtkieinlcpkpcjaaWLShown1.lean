/- The functions that the law reaches, as plain functions, each with its contract: printed by a program of the prover's. No conditions: lemmas. -/
import Derived.Test.YtkieinlcpkpcjaaWLShown0
set_option linter.unusedVariables false
set_option linter.unusedSimpArgs false
namespace Go.Proofs.Ytkieinlcpkpcjaa
open Go Go.Proofs.GL
attribute [local irreducible] HL HT HX HK
def slices_ContainsFunc_int_int_impl_GoodScreen_1.f (p0 : List (Int)) : Option Bool := (slices_IndexFunc_int_int_impl_GoodScreen_1.f p0).bind fun u3 => some (decide (u3 ≥ 0))
def slices_ContainsFunc_int_int_impl_GoodScreen_1.post (sb s : St) (F0 : Fp) (r : Bool) : Value → St → Prop := fun v s' => v = .bool r ∧ Hp sb s F0 s' []
set_option maxRecDepth 100000 in
set_option maxHeartbeats 4000000 in
theorem slices_ContainsFunc_int_int_impl_GoodScreen_1.ok (sb s : St) (F0 : Fp) (A0p : Option Addr) (c0p : Nat) (p0 : List (Int)) (HRp0 : Rd KI sb A0p c0p p0) (hH : Hp sb s F0 s []) (r : Bool) (H : slices_ContainsFunc_int_int_impl_GoodScreen_1.f p0 = some r) : GCall Try.prog 114 #[.slice A0p p0.length c0p, .func (.func 145) #[] #[]] s (slices_ContainsFunc_int_int_impl_GoodScreen_1.post sb s F0 r) := by
 refine GCall_ofr (slices_ContainsFunc_int_int_impl_GoodScreen_1.post sb s F0) [.tmp 4] (ud [.slice A0p p0.length c0p, .func (.func 145) #[] #[]] 7) Try.func114 rfl rfl rfl fun w Q hQr hQn hQp => ?_
 replace H := topE H
 unfold slices_ContainsFunc_int_int_impl_GoodScreen_1.f at H
 dsimp only [ud, un]
 refine sr fun K1 hK1 => ag (HL_nil (hK1 _ _ ?_))
 dsimp only [putL, setL, evL, getL]
 refine sr fun K2 hK2 => mv (mv ?_)
 replace H := headE H
 obtain ⟨u3, hu3, H⟩ := H
 refine hc (o_call (args := #[.slice A0p p0.length c0p, .func (.func 145) #[] #[]]) Try.func184 rfl rfl rfl (slices_IndexFunc_int_int_impl_GoodScreen_1.ok sb s no A0p c0p p0 HRp0 (Hp.own hH.bs) _ hu3) ?_)
 rintro _ s3 ⟨rfl, hD⟩
 replace hH := hH.back0 hD (Up.refl _ _ _)
 clear hD
 try dsimp only [putL, setL, evL, getL]
 refine bn rfl rfl rfl (ag (HL_nil (hK2 _ _ ?_)))
 dsimp only [putL, setL, evL, getL]
 refine HT_ret ?_
 exact hQr _ _ [.bool (decide (u3 ≥ 0))] _ ⟨rfl, trivial⟩ H ⟨rfl, hH⟩
def impl_GoodScreen.f (p0_0 : Int) (p0_1 : Int) (p0_2 : List (Int)) (p0_3 : Int) (p0_4 : Int) : Option Bool := (impl_inRange.f p0_0 1 20).bind fun u4 => if u4 = true then ((impl_inRange.f p0_1 1 8).bind fun u6 => if u6 = true then (if ((p0_2.length : Int) == (IntKind.i64.wrap (p0_0 * p0_1))) = true then ((impl_inRange.f p0_3 0 p0_0).bind fun u9 => if u9 = true then ((impl_isPlace.f p0_4 p0_1).bind fun u11 => if u11 = true then ((slices_ContainsFunc_int_int_impl_GoodScreen_1.f p0_2).bind fun u13 => some (!u13)) else (some false)) else (some false)) else (some false)) else (some false)) else (some false)
def impl_GoodScreen.post (sb s : St) (F0 : Fp) (r : Bool) : Value → St → Prop := fun v s' => v = .bool r ∧ Hp sb s F0 s' []
set_option maxRecDepth 100000 in
set_option maxHeartbeats 4000000 in
theorem impl_GoodScreen.ok (sb s : St) (F0 : Fp) (p0_0 : Int) (p0_1 : Int) (A0_2p : Option Addr) (c0_2p : Nat) (p0_2 : List (Int)) (p0_3 : Int) (p0_4 : Int) (HRp0_2 : Rd KI sb A0_2p c0_2p p0_2) (hH : Hp sb s F0 s []) (r : Bool) (H : impl_GoodScreen.f p0_0 p0_1 p0_2 p0_3 p0_4 = some r) : GCall Try.prog 52 #[.agg #[.int .i64 p0_0, .int .i64 p0_1, .slice A0_2p p0_2.length c0_2p, .int .i64 p0_3, .int .i64 p0_4]] s (impl_GoodScreen.post sb s F0 r) := by
 refine GCall_ofr (impl_GoodScreen.post sb s F0) [.tmp 2] (ud [.agg #[.int .i64 p0_0, .int .i64 p0_1, .slice A0_2p p0_2.length c0_2p, .int .i64 p0_3, .int .i64 p0_4]] 41) Try.func52 rfl rfl rfl fun w Q hQr hQn hQp => ?_
 replace H := topE H
 unfold impl_GoodScreen.f at H
 dsimp only [ud, un]
 refine sr fun K1 hK1 => hc (o_boxH hH rfl ?_)
 clear hH
 intro b2 s2 hH _
 refine ag (HL_nil (hK1 _ _ ?_))
 dsimp only [putL, setL, evL, getL]
 refine sr fun K3 hK3 => hc (o_faddr' (ft := 3) (off := 0) rfl Try.underlying66 rfl tI3 (by decide) (hc (o_load' rfl Try.underlying3 rfl (hH.hasv 0 rfl rfl) ?_)))
 replace H := headE H
 obtain ⟨u4, hu4, H⟩ := H
 refine hc (o_call (args := #[.int .i64 p0_0, .int .i64 1, .int .i64 20]) Try.func105 rfl rfl rfl (impl_inRange.ok sb s2 no p0_0 1 20 (Hp.own hH.bs) _ hu4) ?_)
 rintro _ s4 ⟨rfl, hD⟩
 replace hH := hH.back0 hD (Up.refl _ _ _)
 clear hD
 try dsimp only [putL, setL, evL, getL]
 refine mv ?_
 revert H
 refine it (fun hb5 H => ?_) (fun hb5 H => ?_)
 ·refine wt rfl rfl rfl rfl hb5 (o_faddr' (ft := 3) (off := 1) rfl Try.underlying66 rfl tI3 (by decide) (wt rfl rfl rfl rfl hb5 (o_load' rfl Try.underlying3 rfl (hH.hasv 0 rfl rfl) ?_)))
  replace H := headE H
  obtain ⟨u6, hu6, H⟩ := H
  try dsimp only [putL, setL, evL, getL]
  refine wt rfl rfl rfl rfl hb5 (o_call (args := #[.int .i64 p0_1, .int .i64 1, .int .i64 8]) Try.func105 rfl rfl rfl (impl_inRange.ok sb s4 no p0_1 1 8 (Hp.own hH.bs) _ hu6) ?_)
  rintro _ s6 ⟨rfl, hD⟩
  replace hH := hH.back0 hD (Up.refl _ _ _)
  clear hD
  refine hc (o_pickT rfl hb5 (mv ?_))
  revert H
  refine it (fun hb7 H => ?_) (fun hb7 H => ?_)
  ·refine wt rfl rfl rfl rfl hb7 (o_faddr' (ft := 24) (off := 2) rfl Try.underlying66 rfl tI24 (by decide) ?_)
   dsimp only [putL, setL, evL, getL]
   refine wt rfl rfl rfl rfl hb7 (o_load' rfl Try.underlying24 rfl (hH.hasv 0 rfl rfl) (wt rfl rfl rfl rfl hb7 (o_len rfl Try.underlying24 (wt rfl rfl rfl rfl hb7 (o_faddr' (ft := 3) (off := 0) rfl Try.underlying66 rfl tI3 (by decide) ?_)))))
   dsimp only [putL, setL, evL, getL]
   refine wt rfl rfl rfl rfl hb7 (o_load' rfl Try.underlying3 rfl (hH.hasv 0 rfl rfl) (wt rfl rfl rfl rfl hb7 (o_faddr' (ft := 3) (off := 1) rfl Try.underlying66 rfl tI3 (by decide) (wt rfl rfl rfl rfl hb7 (o_load' rfl Try.underlying3 rfl (hH.hasv 0 rfl rfl) ?_)))))
   dsimp only [putL, setL, evL, getL]
   refine wt rfl rfl rfl rfl hb7 (o_bin rfl rfl rfl (wt rfl rfl rfl rfl hb7 (o_bin rfl rfl rfl (hc (o_pickT rfl hb7 ?_)))))
   dsimp only [putL, setL, evL, getL]
   refine mv ?_
   revert H
   refine it (fun hb8 H => ?_) (fun hb8 H => ?_)
   ·refine wt rfl rfl rfl rfl hb8 (o_faddr' (ft := 3) (off := 3) rfl Try.underlying66 rfl tI3 (by decide) (wt rfl rfl rfl rfl hb8 (o_load' rfl Try.underlying3 rfl (hH.hasv 0 rfl rfl) ?_)))
    dsimp only [putL, setL, evL, getL]
    refine wt rfl rfl rfl rfl hb8 (o_faddr' (ft := 3) (off := 0) rfl Try.underlying66 rfl tI3 (by decide) (wt rfl rfl rfl rfl hb8 (o_load' rfl Try.underlying3 rfl (hH.hasv 0 rfl rfl) ?_)))
    replace H := headE H
    obtain ⟨u9, hu9, H⟩ := H
    refine wt rfl rfl rfl rfl hb8 (o_call (args := #[.int .i64 p0_3, .int .i64 0, .int .i64 p0_0]) Try.func105 rfl rfl rfl (impl_inRange.ok sb s6 no p0_3 0 p0_0 (Hp.own hH.bs) _ hu9) ?_)
    rintro _ s9 ⟨rfl, hD⟩
    replace hH := hH.back0 hD (Up.refl _ _ _)
    clear hD
    try dsimp only [putL, setL, evL, getL]
    refine hc (o_pickT rfl hb8 (mv ?_))
    revert H
    refine it (fun hb10 H => ?_) (fun hb10 H => ?_)
    ·refine wt rfl rfl rfl rfl hb10 (o_faddr' (ft := 3) (off := 4) rfl Try.underlying66 rfl tI3 (by decide) ?_)
     dsimp only [putL, setL, evL, getL]
     refine wt rfl rfl rfl rfl hb10 (o_load' rfl Try.underlying3 rfl (hH.hasv 0 rfl rfl) (wt rfl rfl rfl rfl hb10 (o_faddr' (ft := 3) (off := 1) rfl Try.underlying66 rfl tI3 (by decide) (wt rfl rfl rfl rfl hb10 (o_load' rfl Try.underlying3 rfl (hH.hasv 0 rfl rfl) ?_)))))
     replace H := headE H
     obtain ⟨u11, hu11, H⟩ := H
     try dsimp only [putL, setL, evL, getL]
     refine wt rfl rfl rfl rfl hb10 (o_call (args := #[.int .i64 p0_4, .int .i64 p0_1]) Try.func133 rfl rfl rfl (impl_isPlace.ok sb s9 no p0_4 p0_1 (Hp.own hH.bs) _ hu11) ?_)
     rintro _ s11 ⟨rfl, hD⟩
     replace hH := hH.back0 hD (Up.refl _ _ _)
     clear hD
     refine hc (o_pickT rfl hb10 (mv ?_))
     revert H
     refine it (fun hb12 H => ?_) (fun hb12 H => ?_)
     ·refine wt rfl rfl rfl rfl hb12 (o_faddr' (ft := 24) (off := 2) rfl Try.underlying66 rfl tI24 (by decide) ?_)
      dsimp only [putL, setL, evL, getL]
      refine wt rfl rfl rfl rfl hb12 (o_load' rfl Try.underlying24 rfl (hH.hasv 0 rfl rfl) ?_)
      replace H := headE H
      obtain ⟨u13, hu13, H⟩ := H
      refine wt rfl rfl rfl rfl hb12 (o_call (args := #[.slice A0_2p p0_2.length c0_2p, .func (.func 145) #[] #[]]) Try.func114 rfl rfl rfl (slices_ContainsFunc_int_int_impl_GoodScreen_1.ok sb s11 no A0_2p c0_2p p0_2 HRp0_2 (Hp.own hH.bs) _ hu13) ?_)
      rintro _ s13 ⟨rfl, hD⟩
      replace hH := hH.back0 hD (Up.refl _ _ _)
      clear hD
      refine wt rfl rfl rfl rfl hb12 (o_not rfl ?_)
      dsimp only [putL, setL, evL, getL]
      refine hc (o_pickT rfl hb12 (ag (HL_nil (hK3 _ _ ?_))))
      dsimp only [putL, setL, evL, getL]
      refine HT_ret ?_
      exact hQr _ _ [.bool (!u13)] _ ⟨rfl, trivial⟩ H ⟨rfl, hH.sel [] (by decide)⟩
     ·refine wf rfl rfl rfl rfl hb12 (wf rfl rfl rfl rfl hb12 (wf rfl rfl rfl rfl hb12 ?_))
      dsimp only [putL, setL, evL, getL]
      refine wf rfl rfl rfl rfl hb12 (hc (o_pickF rfl hb12 (ag (HL_nil (hK3 _ _ ?_)))))
      dsimp only [putL, setL, evL, getL]
      refine HT_ret ?_
      exact hQr _ _ [.bool false] _ ⟨rfl, trivial⟩ H ⟨rfl, hH.sel [] (by decide)⟩
    ·refine wf rfl rfl rfl rfl hb10 (wf rfl rfl rfl rfl hb10 (wf rfl rfl rfl rfl hb10 ?_))
     dsimp only [putL, setL, evL, getL]
     refine wf rfl rfl rfl rfl hb10 (wf rfl rfl rfl rfl hb10 (hc (o_pickF rfl hb10 ?_)))
     dsimp only [putL, setL, evL, getL]
     refine mv (wf rfl rfl rfl rfl rfl (wf rfl rfl rfl rfl rfl ?_))
     dsimp only [putL, setL, evL, getL]
     refine wf rfl rfl rfl rfl rfl (wf rfl rfl rfl rfl rfl (hc (o_pickF rfl rfl ?_)))
     dsimp only [putL, setL, evL, getL]
     refine ag (HL_nil (hK3 _ _ ?_))
     dsimp only [putL, setL, evL, getL]
     refine HT_ret ?_
     exact hQr _ _ [.bool false] _ ⟨rfl, trivial⟩ H ⟨rfl, hH.sel [] (by decide)⟩
   ·refine wf rfl rfl rfl rfl hb8 (wf rfl rfl rfl rfl hb8 (wf rfl rfl rfl rfl hb8 ?_))
    dsimp only [putL, setL, evL, getL]
    refine wf rfl rfl rfl rfl hb8 (wf rfl rfl rfl rfl hb8 (hc (o_pickF rfl hb8 ?_)))
    dsimp only [putL, setL, evL, getL]
    refine mv (wf rfl rfl rfl rfl rfl (wf rfl rfl rfl rfl rfl ?_))
    dsimp only [putL, setL, evL, getL]
    refine wf rfl rfl rfl rfl rfl (wf rfl rfl rfl rfl rfl (wf rfl rfl rfl rfl rfl ?_))
    dsimp only [putL, setL, evL, getL]
    refine hc (o_pickF rfl rfl (mv (wf rfl rfl rfl rfl rfl ?_)))
    dsimp only [putL, setL, evL, getL]
    refine wf rfl rfl rfl rfl rfl (wf rfl rfl rfl rfl rfl (wf rfl rfl rfl rfl rfl ?_))
    dsimp only [putL, setL, evL, getL]
    refine hc (o_pickF rfl rfl (ag (HL_nil (hK3 _ _ ?_))))
    dsimp only [putL, setL, evL, getL]
    refine HT_ret ?_
    exact hQr _ _ [.bool false] _ ⟨rfl, trivial⟩ H ⟨rfl, hH.sel [] (by decide)⟩
  ·refine wf rfl rfl rfl rfl hb7 (wf rfl rfl rfl rfl hb7 (wf rfl rfl rfl rfl hb7 ?_))
   dsimp only [putL, setL, evL, getL]
   refine wf rfl rfl rfl rfl hb7 (wf rfl rfl rfl rfl hb7 (wf rfl rfl rfl rfl hb7 ?_))
   dsimp only [putL, setL, evL, getL]
   refine wf rfl rfl rfl rfl hb7 (wf rfl rfl rfl rfl hb7 (wf rfl rfl rfl rfl hb7 ?_))
   dsimp only [putL, setL, evL, getL]
   refine hc (o_pickF rfl hb7 (mv (wf rfl rfl rfl rfl rfl ?_)))
   dsimp only [putL, setL, evL, getL]
   refine wf rfl rfl rfl rfl rfl (wf rfl rfl rfl rfl rfl (wf rfl rfl rfl rfl rfl ?_))
   dsimp only [putL, setL, evL, getL]
   refine wf rfl rfl rfl rfl rfl (hc (o_pickF rfl rfl (mv ?_)))
   dsimp only [putL, setL, evL, getL]
   refine wf rfl rfl rfl rfl rfl (wf rfl rfl rfl rfl rfl (wf rfl rfl rfl rfl rfl ?_))
   dsimp only [putL, setL, evL, getL]
   refine wf rfl rfl rfl rfl rfl (wf rfl rfl rfl rfl rfl (hc (o_pickF rfl rfl ?_)))
   dsimp only [putL, setL, evL, getL]
   refine mv (wf rfl rfl rfl rfl rfl (wf rfl rfl rfl rfl rfl ?_))
   dsimp only [putL, setL, evL, getL]
   refine wf rfl rfl rfl rfl rfl (wf rfl rfl rfl rfl rfl (hc (o_pickF rfl rfl ?_)))
   dsimp only [putL, setL, evL, getL]
   refine ag (HL_nil (hK3 _ _ ?_))
   dsimp only [putL, setL, evL, getL]
   refine HT_ret ?_
   exact hQr _ _ [.bool false] _ ⟨rfl, trivial⟩ H ⟨rfl, hH.sel [] (by decide)⟩
 ·refine wf rfl rfl rfl rfl hb5 (wf rfl rfl rfl rfl hb5 (wf rfl rfl rfl rfl hb5 ?_))
  dsimp only [putL, setL, evL, getL]
  refine hc (o_pickF rfl hb5 (mv (wf rfl rfl rfl rfl rfl ?_)))
  dsimp only [putL, setL, evL, getL]
  refine wf rfl rfl rfl rfl rfl (wf rfl rfl rfl rfl rfl (wf rfl rfl rfl rfl rfl ?_))
  dsimp only [putL, setL, evL, getL]
  refine wf rfl rfl rfl rfl rfl (wf rfl rfl rfl rfl rfl (wf rfl rfl rfl rfl rfl ?_))
  dsimp only [putL, setL, evL, getL]
  refine wf rfl rfl rfl rfl rfl (wf rfl rfl rfl rfl rfl (hc (o_pickF rfl rfl ?_)))
  dsimp only [putL, setL, evL, getL]
  refine mv (wf rfl rfl rfl rfl rfl (wf rfl rfl rfl rfl rfl ?_))
  dsimp only [putL, setL, evL, getL]
  refine wf rfl rfl rfl rfl rfl (wf rfl rfl rfl rfl rfl (wf rfl rfl rfl rfl rfl ?_))
  dsimp only [putL, setL, evL, getL]
  refine hc (o_pickF rfl rfl (mv (wf rfl rfl rfl rfl rfl ?_)))
  dsimp only [putL, setL, evL, getL]
  refine wf rfl rfl rfl rfl rfl (wf rfl rfl rfl rfl rfl (wf rfl rfl rfl rfl rfl ?_))
  dsimp only [putL, setL, evL, getL]
  refine wf rfl rfl rfl rfl rfl (hc (o_pickF rfl rfl (mv ?_)))
  dsimp only [putL, setL, evL, getL]
  refine wf rfl rfl rfl rfl rfl (wf rfl rfl rfl rfl rfl (wf rfl rfl rfl rfl rfl ?_))
  dsimp only [putL, setL, evL, getL]
  refine wf rfl rfl rfl rfl rfl (hc (o_pickF rfl rfl (ag (HL_nil (hK3 _ _ ?_)))))
  dsimp only [putL, setL, evL, getL]
  refine HT_ret ?_
  exact hQr _ _ [.bool false] _ ⟨rfl, trivial⟩ H ⟨rfl, hH.sel [] (by decide)⟩
def impl_areRunes_1.f (p0 : Int) : Option Bool := (impl_GoodRune.f p0).bind fun u3 => some (!u3)
def impl_areRunes_1.post (sb s : St) (F0 : Fp) (r : Bool) : Value → St → Prop := fun v s' => v = .bool r ∧ Hp sb s F0 s' []
set_option maxRecDepth 100000 in
set_option maxHeartbeats 4000000 in
theorem impl_areRunes_1.ok (sb s : St) (F0 : Fp) (p0 : Int) (hH : Hp sb s F0 s []) (r : Bool) (H : impl_areRunes_1.f p0 = some r) : GCall Try.prog 186 #[.int .i64 p0] s (impl_areRunes_1.post sb s F0 r) := by
 refine GCall_ofr (impl_areRunes_1.post sb s F0) [.tmp 2] (ud [.int .i64 p0] 5) Try.func186 rfl rfl rfl fun w Q hQr hQn hQp => ?_
 replace H := topE H
 unfold impl_areRunes_1.f at H
 dsimp only [ud, un]
 refine sr fun K1 hK1 => ag (HL_nil (hK1 _ _ ?_))
 dsimp only [putL, setL, evL, getL]
 refine sr fun K2 hK2 => mv ?_
 replace H := headE H
 obtain ⟨u3, hu3, H⟩ := H
 refine hc (o_call (args := #[.int .i64 p0]) Try.func146 rfl rfl rfl (impl_GoodRune.ok sb s no p0 (Hp.own hH.bs) _ hu3) ?_)
 rintro _ s3 ⟨rfl, hD⟩
 replace hH := hH.back0 hD (Up.refl _ _ _)
 clear hD
 refine hc (o_not rfl ?_)
 dsimp only [putL, setL, evL, getL]
 refine ag (HL_nil (hK2 _ _ ?_))
 dsimp only [putL, setL, evL, getL]
 refine HT_ret ?_
 exact hQr _ _ [.bool (!u3)] _ ⟨rfl, trivial⟩ H ⟨rfl, hH⟩
def slices_IndexFunc_int_int_impl_areRunes_1.l1 (p0 : List (Int)) : Nat → Int → Option (Lo Unit Int)
 | 0, _ => none
 | kf + 1, x48 => if (decide (x48 < (p0.length : Int))) = true then ((rd? p0 x48).bind fun u67 => (impl_areRunes_1.f u67).bind fun u68 => if u68 = true then ((some x48).bind fun z => some (Lo.ret z)) else (slices_IndexFunc_int_int_impl_areRunes_1.l1 p0 kf (IntKind.i64.wrap (x48 + 1)))) else (some (Lo.go ()))
def slices_IndexFunc_int_int_impl_areRunes_1.f (p0 : List (Int)) : Option Int := (slices_IndexFunc_int_int_impl_areRunes_1.l1 p0 ((((p0.length : Int)) - (0)).toNat + 2) 0).bind fun (o : Lo Unit Int) => match o with | .go () => (some (-1)) | .ret z => some z
def slices_IndexFunc_int_int_impl_areRunes_1.post (sb s : St) (F0 : Fp) (r : Int) : Value → St → Prop := fun v s' => v = .int .i64 r ∧ Hp sb s F0 s' []
set_option maxRecDepth 100000 in
set_option maxHeartbeats 4000000 in
theorem slices_IndexFunc_int_int_impl_areRunes_1.ok (sb s : St) (F0 : Fp) (A0p : Option Addr) (c0p : Nat) (p0 : List (Int)) (HRp0 : Rd KI sb A0p c0p p0) (hH : Hp sb s F0 s []) (r : Int) (H : slices_IndexFunc_int_int_impl_areRunes_1.f p0 = some r) : GCall Try.prog 184 #[.slice A0p p0.length c0p, .func (.func 186) #[] #[]] s (slices_IndexFunc_int_int_impl_areRunes_1.post sb s F0 r) := by
 refine GCall_ofr (slices_IndexFunc_int_int_impl_areRunes_1.post sb s F0) [.tmp 4] (ud [.slice A0p p0.length c0p, .func (.func 186) #[] #[]] 17) Try.func184 rfl rfl rfl fun w Q hQr hQn hQp => ?_
 replace H := topE H
 unfold slices_IndexFunc_int_int_impl_areRunes_1.f at H
 dsimp only [ud, un]
 refine sr fun K1 hK1 => ag (HL_nil (hK1 _ _ ?_))
 dsimp only [putL, setL, evL, getL]
 refine HT_seq_k fun K2 hK2 => sr fun K3 hK3 => mv (hc (o_len rfl Try.underlying24 (mv (HL_nil (hK3 _ _ ?_)))))
 dsimp only [putL, setL, evL, getL]
 refine joinH H fun G4 hG4 H => ?_
 refine HT_toK (fun l' s' => G4 (.go ()) = some r ∧ skim [] l' = ([], 20) ∧ Hp sb s F0 s' []) ?_ ?_
 ·intro K4 hK4
  refine HT_block ?_
  refine HT_loopK (fun kf l' s' => ∃ (x48 : Int), (slices_IndexFunc_int_int_impl_areRunes_1.l1 p0 kf x48).bind G4 = some r ∧ skim [0, 0, 5, 0] l' = ([.slice A0p p0.length c0p, .func (.func 186) #[] #[], .int .i64 (p0.length : Int), .int .i64 x48], 11) ∧ Hp sb s F0 s' []) ((((p0.length : Int)) - (0)).toNat + 2) ⟨0, H, rfl, hH⟩ ?_
  rintro kf l' s60 ⟨x48, H, hl, hH⟩ K60 hK60
  revert l'
  refine skA ?_
  dsimp only [Al, Sk]
  intros
  cases kf with
  | zero => simp [slices_IndexFunc_int_int_impl_areRunes_1.l1] at H
  | succ kf =>
   rw [slices_IndexFunc_int_int_impl_areRunes_1.l1] at H
   refine sr fun K61 hK61 => bn rfl rfl rfl (HL_nil (hK61 _ _ ?_))
   dsimp only [putL, setL, evL, getL]
   refine HT_seq_k fun K62 hK62 => ?_
   revert H
   refine ct rfl (fun hb63 H => ?_) (fun hb63 H => ?_)
   ·refine HT_skip (hK62 _ _ (HT_seq_k fun K64 hK64 => (HT_block (sr fun K65 hK65 => (mv (ag (HL_nil (hK65 _ _ ?_))))))))
    dsimp only [putL, setL, evL, getL]
    refine sr fun K66 hK66 => mv (mv (mv ?_))
    replace H := headE H
    obtain ⟨u67, hu67, H⟩ := H
    obtain ⟨b67, o67, cs67, hr67, hh67, hel67⟩ := Rd.elb HRp0 hu67
    obtain rfl := hr67
    try dsimp only [putL, setL, evL, getL]
    refine hc (hel67 s60 rfl rfl Try.underlying24 tI3 (hc (o_load' rfl Try.underlying3 rfl ((hh67 hH.bs.mono) 0 _ rfl) ?_)))
    replace H := headE H
    obtain ⟨u68, hu68, H⟩ := H
    refine hc (o_callv (first := #[]) (cap := #[]) (args := #[.int .i64 u67]) rfl Try.func186 rfl rfl [.int .i64 u67] rfl (by simp) (impl_areRunes_1.ok sb s60 no u67 (Hp.own hH.bs) _ hu68) ?_)
    rintro _ s68 ⟨rfl, hD⟩
    replace hH := hH.back0 hD (Up.refl _ _ _)
    clear hD
    refine HL_nil (hK66 _ _ ?_)
    try dsimp only [putL, setL, evL, getL]
    revert H
    refine ct rfl (fun hb69 H => ?_) (fun hb69 H => ?_)
    ·refine sr fun K70 hK70 => mv (ag (HL_nil (hK70 _ _ ?_)))
     dsimp only [putL, setL, evL, getL]
     refine HT_ret ?_
     replace H := escH (fun z hz => hG4 _ hz) H
     exact hQr _ _ [.int .i64 x48] _ ⟨rfl, trivial⟩ H ⟨rfl, hH⟩
    ·refine HT_skip (hK64 _ _ ?_)
     refine HT_region ?_
     refine bn rfl rfl rfl (mv (HL_nil ?_))
     exact hK60 _ _ ⟨kf, Nat.lt_succ_self kf, IntKind.i64.wrap (x48 + 1), H, rfl, hH⟩
   ·refine HT_exit ?_
    exact hK4 _ _ ⟨H, rfl, hH⟩
 ·rintro l' s71 ⟨H, hl, hH⟩
  revert l'
  refine skA ?_
  dsimp only [Al, Sk]
  intros
  replace H := hG4 _ H
  try dsimp only at H
  refine hK2 _ _ ?_
  refine sr fun K72 hK72 => ag (HL_nil (hK72 _ _ ?_))
  dsimp only [putL, setL, evL, getL]
  refine HT_ret ?_
  exact hQr _ _ [.int .i64 (-1)] _ ⟨rfl, trivial⟩ H ⟨rfl, hH⟩
def slices_ContainsFunc_int_int_impl_areRunes_1.f (p0 : List (Int)) : Option Bool := (slices_IndexFunc_int_int_impl_areRunes_1.f p0).bind fun u3 => some (decide (u3 ≥ 0))
def slices_ContainsFunc_int_int_impl_areRunes_1.post (sb s : St) (F0 : Fp) (r : Bool) : Value → St → Prop := fun v s' => v = .bool r ∧ Hp sb s F0 s' []
set_option maxRecDepth 100000 in
set_option maxHeartbeats 4000000 in
theorem slices_ContainsFunc_int_int_impl_areRunes_1.ok (sb s : St) (F0 : Fp) (A0p : Option Addr) (c0p : Nat) (p0 : List (Int)) (HRp0 : Rd KI sb A0p c0p p0) (hH : Hp sb s F0 s []) (r : Bool) (H : slices_ContainsFunc_int_int_impl_areRunes_1.f p0 = some r) : GCall Try.prog 114 #[.slice A0p p0.length c0p, .func (.func 186) #[] #[]] s (slices_ContainsFunc_int_int_impl_areRunes_1.post sb s F0 r) := by
 refine GCall_ofr (slices_ContainsFunc_int_int_impl_areRunes_1.post sb s F0) [.tmp 4] (ud [.slice A0p p0.length c0p, .func (.func 186) #[] #[]] 7) Try.func114 rfl rfl rfl fun w Q hQr hQn hQp => ?_
 replace H := topE H
 unfold slices_ContainsFunc_int_int_impl_areRunes_1.f at H
 dsimp only [ud, un]
 refine sr fun K1 hK1 => ag (HL_nil (hK1 _ _ ?_))
 dsimp only [putL, setL, evL, getL]
 refine sr fun K2 hK2 => mv (mv ?_)
 replace H := headE H
 obtain ⟨u3, hu3, H⟩ := H
 refine hc (o_call (args := #[.slice A0p p0.length c0p, .func (.func 186) #[] #[]]) Try.func184 rfl rfl rfl (slices_IndexFunc_int_int_impl_areRunes_1.ok sb s no A0p c0p p0 HRp0 (Hp.own hH.bs) _ hu3) ?_)
 rintro _ s3 ⟨rfl, hD⟩
 replace hH := hH.back0 hD (Up.refl _ _ _)
 clear hD
 try dsimp only [putL, setL, evL, getL]
 refine bn rfl rfl rfl (ag (HL_nil (hK2 _ _ ?_)))
 dsimp only [putL, setL, evL, getL]
 refine HT_ret ?_
 exact hQr _ _ [.bool (decide (u3 ≥ 0))] _ ⟨rfl, trivial⟩ H ⟨rfl, hH⟩
def impl_areRunes.f (p0 : List (Int)) (p1 : Int) : Option Bool := if (decide ((p0.length : Int) ≤ p1)) = true then ((slices_ContainsFunc_int_int_impl_areRunes_1.f p0).bind fun u4 => some (!u4)) else (some false)
def impl_areRunes.post (sb s : St) (F0 : Fp) (r : Bool) : Value → St → Prop := fun v s' => v = .bool r ∧ Hp sb s F0 s' []
set_option maxRecDepth 100000 in
set_option maxHeartbeats 4000000 in
theorem impl_areRunes.ok (sb s : St) (F0 : Fp) (A0p : Option Addr) (c0p : Nat) (p0 : List (Int)) (p1 : Int) (HRp0 : Rd KI sb A0p c0p p0) (hH : Hp sb s F0 s []) (r : Bool) (H : impl_areRunes.f p0 p1 = some r) : GCall Try.prog 118 #[.slice A0p p0.length c0p, .int .i64 p1] s (impl_areRunes.post sb s F0 r) := by
 refine GCall_ofr (impl_areRunes.post sb s F0) [.tmp 4] (ud [.slice A0p p0.length c0p, .int .i64 p1] 12) Try.func118 rfl rfl rfl fun w Q hQr hQn hQp => ?_
 replace H := topE H
 unfold impl_areRunes.f at H
 dsimp only [ud, un]
 refine sr fun K1 hK1 => ag (HL_nil (hK1 _ _ ?_))
 dsimp only [putL, setL, evL, getL]
 refine sr fun K2 hK2 => mv (hc (o_len rfl Try.underlying24 (mv ?_)))
 dsimp only [putL, setL, evL, getL]
 refine bn rfl rfl rfl (mv ?_)
 revert H
 refine it (fun hb3 H => ?_) (fun hb3 H => ?_)
 ·refine wt rfl rfl rfl rfl hb3 (o_move ?_)
  replace H := headE H
  obtain ⟨u4, hu4, H⟩ := H
  try dsimp only [putL, setL, evL, getL]
  refine wt rfl rfl rfl rfl hb3 (o_call (args := #[.slice A0p p0.length c0p, .func (.func 186) #[] #[]]) Try.func114 rfl rfl rfl (slices_ContainsFunc_int_int_impl_areRunes_1.ok sb s no A0p c0p p0 HRp0 (Hp.own hH.bs) _ hu4) ?_)
  rintro _ s4 ⟨rfl, hD⟩
  replace hH := hH.back0 hD (Up.refl _ _ _)
  clear hD
  refine wt rfl rfl rfl rfl hb3 (o_not rfl (hc (o_pickT rfl hb3 ?_)))
  dsimp only [putL, setL, evL, getL]
  refine ag (HL_nil (hK2 _ _ ?_))
  dsimp only [putL, setL, evL, getL]
  refine HT_ret ?_
  exact hQr _ _ [.bool (!u4)] _ ⟨rfl, trivial⟩ H ⟨rfl, hH⟩
 ·refine wf rfl rfl rfl rfl hb3 (wf rfl rfl rfl rfl hb3 (wf rfl rfl rfl rfl hb3 ?_))
  dsimp only [putL, setL, evL, getL]
  refine hc (o_pickF rfl hb3 (ag (HL_nil (hK2 _ _ ?_))))
  dsimp only [putL, setL, evL, getL]
  refine HT_ret ?_
  exact hQr _ _ [.bool false] _ ⟨rfl, trivial⟩ H ⟨rfl, hH⟩
def impl_Screen_row.f (p0_0 : Int) (p0_1 : Int) (p0_2 : List (Int)) (p0_3 : Int) (p0_4 : Int) (p1 : Int) : Option (List (Int)) := (cut? p0_2 (IntKind.i64.wrap (p1 * p0_0)) (IntKind.i64.wrap ((IntKind.i64.wrap (p1 + 1)) * p0_0))).bind fun x4 => some x4
def impl_Screen_row.post (sb s : St) (F0 : Fp) (r : (List (Int))) : Value → St → Prop := fun v s' => ∃ (A0 : Option Addr) (c0 : Nat), v = .slice A0 r.length c0 ∧ Hp sb s F0 s' [] ∧ Rd KI sb A0 c0 r
set_option maxRecDepth 100000 in
set_option maxHeartbeats 4000000 in
theorem impl_Screen_row.ok (sb s : St) (F0 : Fp) (p0_0 : Int) (p0_1 : Int) (A0_2p : Option Addr) (c0_2p : Nat) (p0_2 : List (Int)) (p0_3 : Int) (p0_4 : Int) (p1 : Int) (HRp0_2 : Rd KI sb A0_2p c0_2p p0_2) (hH : Hp sb s F0 s []) (r : (List (Int))) (H : impl_Screen_row.f p0_0 p0_1 p0_2 p0_3 p0_4 p1 = some r) : GCall Try.prog 166 #[.agg #[.int .i64 p0_0, .int .i64 p0_1, .slice A0_2p p0_2.length c0_2p, .int .i64 p0_3, .int .i64 p0_4], .int .i64 p1] s (impl_Screen_row.post sb s F0 r) := by
 refine GCall_ofr (impl_Screen_row.post sb s F0) [.tmp 4] (ud [.agg #[.int .i64 p0_0, .int .i64 p0_1, .slice A0_2p p0_2.length c0_2p, .int .i64 p0_3, .int .i64 p0_4], .int .i64 p1] 15) Try.func166 rfl rfl rfl fun w Q hQr hQn hQp => ?_
 replace H := topE H
 unfold impl_Screen_row.f at H
 dsimp only [ud, un]
 refine sr fun K1 hK1 => hc (o_boxH hH rfl ?_)
 clear hH
 intro b2 s2 hH _
 refine ag (HL_nil (hK1 _ _ ?_))
 dsimp only [putL, setL, evL, getL]
 refine sr fun K3 hK3 => hc (o_faddr' (ft := 24) (off := 2) rfl Try.underlying66 rfl tI24 (by decide) (hc (o_load' rfl Try.underlying24 rfl (hH.hasv 0 rfl rfl) (mv ?_))))
 dsimp only [putL, setL, evL, getL]
 refine hc (o_faddr' (ft := 3) (off := 0) rfl Try.underlying66 rfl tI3 (by decide) (hc (o_load' rfl Try.underlying3 rfl (hH.hasv 0 rfl rfl) (bn rfl rfl rfl ?_))))
 dsimp only [putL, setL, evL, getL]
 refine mv (bn rfl rfl rfl (hc (o_faddr' (ft := 3) (off := 0) rfl Try.underlying66 rfl tI3 (by decide) ?_)))
 dsimp only [putL, setL, evL, getL]
 refine hc (o_load' rfl Try.underlying3 rfl (hH.hasv 0 rfl rfl) (bn rfl rfl rfl ?_))
 replace H := headE H
 obtain ⟨x4, hx4, H⟩ := H
 refine hc (o_cutA (xs := p0_2) (kl := .i64) (kh := .i64) (L := IntKind.i64.wrap (p1 * p0_0)) (H := IntKind.i64.wrap ((IntKind.i64.wrap (p1 + 1)) * p0_0)) rfl rfl rfl Try.underlying24 tI3 HRp0_2.1 hx4 ?_)
 have D4 := HRp0_2.cut hx4
 try dsimp only [putL, setL, evL, getL]
 refine ag (HL_nil (hK3 _ _ ?_))
 dsimp only [putL, setL, evL, getL]
 refine HT_ret ?_
 exact hQr _ _ [.slice (cutA A0_2p c0_2p (Int.toNat (IntKind.i64.wrap (p1 * p0_0))) (Kd.sz KI)) x4.length (c0_2p - Int.toNat (IntKind.i64.wrap (p1 * p0_0)))] _ ⟨rfl, trivial⟩ H ⟨(cutA A0_2p c0_2p (Int.toNat (IntKind.i64.wrap (p1 * p0_0))) (Kd.sz KI)), c0_2p - Int.toNat (IntKind.i64.wrap (p1 * p0_0)), rfl, hH.sel [] (by decide), D4⟩
def slices_Equal_int_int.l1 (p0 : List (Int)) (p1 : List (Int)) : Nat → Int → Option (Lo Unit Bool)
 | 0, _ => none
 | kf + 1, x52 => if (decide (x52 < (p0.length : Int))) = true then ((rd? p0 x52).bind fun u71 => (rd? p1 x52).bind fun u72 => if (u71 != u72) = true then ((some false).bind fun z => some (Lo.ret z)) else (slices_Equal_int_int.l1 p0 p1 kf (IntKind.i64.wrap (x52 + 1)))) else (some (Lo.go ()))
def slices_Equal_int_int.f (p0 : List (Int)) (p1 : List (Int)) : Option Bool := if ((p0.length : Int) != (p1.length : Int)) = true then (some false) else ((slices_Equal_int_int.l1 p0 p1 ((((p0.length : Int)) - (0)).toNat + 2) 0).bind fun (o : Lo Unit Bool) => match o with | .go () => (some true) | .ret z => some z)
def slices_Equal_int_int.post (sb s : St) (F0 : Fp) (r : Bool) : Value → St → Prop := fun v s' => v = .bool r ∧ Hp sb s F0 s' []
set_option maxRecDepth 100000 in
set_option maxHeartbeats 4000000 in
theorem slices_Equal_int_int.ok (sb s : St) (F0 : Fp) (A0p : Option Addr) (c0p : Nat) (p0 : List (Int)) (A1p : Option Addr) (c1p : Nat) (p1 : List (Int)) (HRp0 : Rd KI sb A0p c0p p0) (HRp1 : Rd KI sb A1p c1p p1) (hH : Hp sb s F0 s []) (r : Bool) (H : slices_Equal_int_int.f p0 p1 = some r) : GCall Try.prog 162 #[.slice A0p p0.length c0p, .slice A1p p1.length c1p] s (slices_Equal_int_int.post sb s F0 r) := by
 refine GCall_ofr (slices_Equal_int_int.post sb s F0) [.tmp 4] (ud [.slice A0p p0.length c0p, .slice A1p p1.length c1p] 24) Try.func162 rfl rfl rfl fun w Q hQr hQn hQp => ?_
 replace H := topE H
 unfold slices_Equal_int_int.f at H
 dsimp only [ud, un]
 refine sr fun K1 hK1 => ag (HL_nil (hK1 _ _ ?_))
 dsimp only [putL, setL, evL, getL]
 refine HT_seq_k fun K2 hK2 => sr fun K3 hK3 => mv (hc (o_len rfl Try.underlying24 (mv ?_)))
 dsimp only [putL, setL, evL, getL]
 refine hc (o_len rfl Try.underlying24 (bn rfl rfl rfl (HL_nil (hK3 _ _ ?_))))
 dsimp only [putL, setL, evL, getL]
 revert H
 refine ct rfl (fun hb4 H => ?_) (fun hb4 H => ?_)
 ·refine sr fun K5 hK5 => ag (HL_nil (hK5 _ _ ?_))
  dsimp only [putL, setL, evL, getL]
  refine HT_ret ?_
  exact hQr _ _ [.bool false] _ ⟨rfl, trivial⟩ H ⟨rfl, hH⟩
 ·refine HT_skip (hK2 _ _ (HT_seq_k fun K6 hK6 => (sr fun K7 hK7 => (mv (hc (o_len rfl Try.underlying24 (mv (HL_nil (hK7 _ _ ?_)))))))))
  dsimp only [putL, setL, evL, getL]
  refine joinH H fun G8 hG8 H => ?_
  refine HT_toK (fun l' s' => G8 (.go ()) = some r ∧ skim [] l' = ([], 27) ∧ Hp sb s F0 s' []) ?_ ?_
  ·intro K8 hK8
   refine HT_block ?_
   refine HT_loopK (fun kf l' s' => ∃ (x52 : Int), (slices_Equal_int_int.l1 p0 p1 kf x52).bind G8 = some r ∧ skim [0, 0, 10, 0] l' = ([.slice A0p p0.length c0p, .slice A1p p1.length c1p, .int .i64 (p0.length : Int), .int .i64 x52], 13) ∧ Hp sb s F0 s' []) ((((p0.length : Int)) - (0)).toNat + 2) ⟨0, H, rfl, hH⟩ ?_
   rintro kf l' s64 ⟨x52, H, hl, hH⟩ K64 hK64
   revert l'
   refine skA ?_
   dsimp only [Al, Sk]
   intros
   cases kf with
   | zero => simp [slices_Equal_int_int.l1] at H
   | succ kf =>
    rw [slices_Equal_int_int.l1] at H
    refine sr fun K65 hK65 => bn rfl rfl rfl (HL_nil (hK65 _ _ ?_))
    dsimp only [putL, setL, evL, getL]
    refine HT_seq_k fun K66 hK66 => ?_
    revert H
    refine ct rfl (fun hb67 H => ?_) (fun hb67 H => ?_)
    ·refine HT_skip (hK66 _ _ (HT_seq_k fun K68 hK68 => (HT_block (sr fun K69 hK69 => (mv (ag (HL_nil (hK69 _ _ ?_))))))))
     dsimp only [putL, setL, evL, getL]
     refine sx hMix fun K70 hK70 => ?_
     refine HX_lim (R := fun _ => True) (k := 0) (fun s' => Gro s64 s') 10 ?_
     have hR := Gro.refl s64
     have hH0 := hH
     refine HK_readP 0 (v := .slice A0p p0.length c0p) rfl (by kernel_rfl) hQp rfl (fun s' K hK => o_move hK) rfl rfl (fun _ => hR) ?_
     refine HK_readP 1 (v := .int .i64 x52) rfl (by kernel_rfl) hQp rfl (fun s' K hK => o_move hK) rfl rfl (fun _ => hR) ?_
     replace H := headE H
     obtain ⟨u71, hu71, H⟩ := H
     obtain ⟨b71, o71, cs71, hr71, hh71, hel71⟩ := Rd.elb HRp0 hu71
     obtain rfl := hr71
     try dsimp only [putL, setL, evL, getL]
     refine HK_readP 2 (v := .pointer (some ⟨b71, o71, none⟩)) rfl (by kernel_rfl) hQp rfl (fun s' K hK => hel71 s' rfl rfl Try.underlying24 tI3 hK) rfl rfl (fun _ => hR) ?_
     refine HK_read 3 (v := .int .i64 u71) rfl (by kernel_rfl) hQp rfl (fun s' hR' K hK => o_load' rfl Try.underlying3 rfl ((hh71 (hH0.bs.mono.trans hR'.mono)) 0 _ rfl) hK) rfl rfl hR ?_
     refine HK_readP 4 (v := .slice A1p p1.length c1p) rfl (by kernel_rfl) hQp rfl (fun s' K hK => o_move hK) rfl rfl (fun _ => hR) ?_
     try dsimp only [putL, setL, evL, getL]
     refine HK_readP 5 (v := .int .i64 x52) rfl (by kernel_rfl) hQp rfl (fun s' K hK => o_move hK) rfl rfl (fun _ => hR) ?_
     replace H := headE H
     obtain ⟨u72, hu72, H⟩ := H
     obtain ⟨b72, o72, cs72, hr72, hh72, hel72⟩ := Rd.elb HRp1 hu72
     obtain rfl := hr72
     refine HK_readP 6 (v := .pointer (some ⟨b72, o72, none⟩)) rfl (by kernel_rfl) hQp rfl (fun s' K hK => hel72 s' rfl rfl Try.underlying24 tI3 hK) rfl rfl (fun _ => hR) ?_
     refine HK_read 7 (v := .int .i64 u72) rfl (by kernel_rfl) hQp rfl (fun s' hR' K hK => o_load' rfl Try.underlying3 rfl ((hh72 (hH0.bs.mono.trans hR'.mono)) 0 _ rfl) hK) rfl rfl hR ?_
     try dsimp only [putL, setL, evL, getL]
     refine HK_readP 8 (v := .bool (u71 != u72)) rfl (by kernel_rfl) hQp rfl (fun s' K hK => o_bin rfl rfl rfl hK) rfl rfl (fun _ => hR) ?_
     refine HK_done (fun _ => hR) (by kernel_rfl) ?_
     refine hK70 _ _ ?_
     try dsimp only [putL, setL, evL, getL]
     revert H
     refine ct rfl (fun hb73 H => ?_) (fun hb73 H => ?_)
     ·refine sr fun K74 hK74 => ag (HL_nil (hK74 _ _ ?_))
      dsimp only [putL, setL, evL, getL]
      refine HT_ret ?_
      replace H := escH (fun z hz => hG8 _ hz) H
      exact hQr _ _ [.bool false] _ ⟨rfl, trivial⟩ H ⟨rfl, hH⟩
     ·refine HT_skip (hK68 _ _ ?_)
      refine HT_region ?_
      refine bn rfl rfl rfl (mv (HL_nil ?_))
      exact hK64 _ _ ⟨kf, Nat.lt_succ_self kf, IntKind.i64.wrap (x52 + 1), H, rfl, hH⟩
    ·refine HT_exit ?_
     exact hK8 _ _ ⟨H, rfl, hH⟩
  ·rintro l' s75 ⟨H, hl, hH⟩
   revert l'
   refine skA ?_
   dsimp only [Al, Sk]
   intros
   replace H := hG8 _ H
   try dsimp only at H
   refine hK6 _ _ ?_
   refine sr fun K76 hK76 => ag (HL_nil (hK76 _ _ ?_))
   dsimp only [putL, setL, evL, getL]
   refine HT_ret ?_
   exact hQr _ _ [.bool true] _ ⟨rfl, trivial⟩ H ⟨rfl, hH⟩
def impl_ShowsAt.l2 (p0_0 : Int) (p1 : List (Int)) (x593 : Int) (u808 : (List (Int))) : Nat → Int → Option (Lo Unit (Lo Unit (Lo Unit (Int × Int × Bool))))
 | 0, _ => none
 | kf + 1, x851 => if (decide ((IntKind.i64.wrap (x851 + (p1.length : Int))) ≤ p0_0)) = true then ((cut? u808 x851 (IntKind.i64.wrap (x851 + (p1.length : Int)))).bind fun x868 => (slices_Equal_int_int.f x868 p1).bind fun u869 => if u869 = true then ((((some (x593, x851, true)).bind fun z => some (Lo.ret z)).bind fun z => some (Lo.ret z)).bind fun z => some (Lo.ret z)) else (impl_ShowsAt.l2 p0_0 p1 x593 u808 kf (IntKind.i64.wrap (x851 + 1)))) else (some (Lo.go ()))
def impl_ShowsAt.l1 (p0_0 : Int) (p0_1 : Int) (p0_2 : List (Int)) (p0_3 : Int) (p0_4 : Int) (p1 : List (Int)) : Nat → Int → Option (Lo Unit (Int × Int × Bool))
 | 0, _ => none
 | kf + 1, x593 => if (decide (x593 < p0_1)) = true then (((impl_Screen_row.f p0_0 p0_1 p0_2 p0_3 p0_4 x593).bind fun u808 => (impl_ShowsAt.l2 p0_0 p1 x593 u808 (((p0_0) - (IntKind.i64.wrap (0 + (p1.length : Int)))).toNat + 2) 0).bind fun (o : Lo Unit (Lo Unit (Lo Unit (Int × Int × Bool)))) => match o with | .go () => (some (Lo.go ())) | .ret z => some z).bind fun (o : Lo Unit (Lo Unit (Int × Int × Bool))) => match o with | .go () => (impl_ShowsAt.l1 p0_0 p0_1 p0_2 p0_3 p0_4 p1 kf (IntKind.i64.wrap (x593 + 1))) | .ret z => some z) else (some (Lo.go ()))
def impl_ShowsAt.f (p0_0 : Int) (p0_1 : Int) (p0_2 : List (Int)) (p0_3 : Int) (p0_4 : Int) (p1 : List (Int)) : Option (Int × Int × Bool) := ((impl_GoodScreen.f p0_0 p0_1 p0_2 p0_3 p0_4).bind fun u24 => if (!u24) = true then (some true) else (if ((p1.length : Int) == 0) = true then (some true) else ((impl_areRunes.f p1 20).bind fun u27 => some (!u27)))).bind fun (o : Bool) => match o with | x23 => (if x23 = true then (some (0, 0, false)) else ((impl_ShowsAt.l1 p0_0 p0_1 p0_2 p0_3 p0_4 p1 (((p0_1) - (0)).toNat + 2) 0).bind fun (o : Lo Unit (Int × Int × Bool)) => match o with | .go () => (some (0, 0, false)) | .ret z => some z))
def impl_ShowsAt.post (sb s : St) (F0 : Fp) (r : Int × Int × Bool) : Value → St → Prop := fun v s' => v = .tuple #[.int .i64 r.1, .int .i64 r.2.1, .bool r.2.2] ∧ Hp sb s F0 s' []
set_option maxRecDepth 100000 in
set_option maxHeartbeats 4000000 in
theorem impl_ShowsAt.ok (sb s : St) (F0 : Fp) (p0_0 : Int) (p0_1 : Int) (A0_2p : Option Addr) (c0_2p : Nat) (p0_2 : List (Int)) (p0_3 : Int) (p0_4 : Int) (A1p : Option Addr) (c1p : Nat) (p1 : List (Int)) (HRp0_2 : Rd KI sb A0_2p c0_2p p0_2) (HRp1 : Rd KI sb A1p c1p p1) (hH : Hp sb s F0 s []) (r : Int × Int × Bool) (H : impl_ShowsAt.f p0_0 p0_1 p0_2 p0_3 p0_4 p1 = some r) : GCall Try.prog 79 #[.agg #[.int .i64 p0_0, .int .i64 p0_1, .slice A0_2p p0_2.length c0_2p, .int .i64 p0_3, .int .i64 p0_4], .slice A1p p1.length c1p] s (impl_ShowsAt.post sb s F0 r) := by
 refine GCall_ofr (impl_ShowsAt.post sb s F0) [.tmp 4, .tmp 5, .tmp 6] (ud [.agg #[.int .i64 p0_0, .int .i64 p0_1, .slice A0_2p p0_2.length c0_2p, .int .i64 p0_3, .int .i64 p0_4], .slice A1p p1.length c1p] 50) Try.func79 rfl rfl rfl fun w Q hQr hQn hQp => ?_
 replace H := topE H
 unfold impl_ShowsAt.f at H
 dsimp only [ud, un]
 refine sr fun K1 hK1 => hc (o_boxH hH rfl ?_)
 clear hH
 intro b2 s2 hH _
 refine ag (ag ?_)
 dsimp only [putL, setL, evL, getL]
 refine ag (HL_nil (hK1 _ _ ?_))
 dsimp only [putL, setL, evL, getL]
 refine HT_seq_k fun K17 hK17 => ?_
 refine joinH H fun G18 hG18 H => ?_
 refine HT_joinK (fun l' s' => ∃ (x23 : Bool), G18 x23 = some r ∧ skim [1, 0, 19] l' = ([.slice A1p p1.length c1p, .pointer (some ⟨b2, 0, none⟩), .bool x23], 30) ∧ Hp sb s F0 s' [Ck.ov b2 [.int .i64 p0_0, .int .i64 p0_1, .slice A0_2p p0_2.length c0_2p, .int .i64 p0_3, .int .i64 p0_4] 66]) ?_ ?_
 ·intro K18 hK18
  refine HT_region ?_
  refine hc (o_loads' [.int .i64 p0_0, .int .i64 p0_1, .slice A0_2p p0_2.length c0_2p, .int .i64 p0_3, .int .i64 p0_4] rfl Try.underlying66 rfl tI66 rfl (hH.partv 0 rfl (0) [.int .i64 p0_0, .int .i64 p0_1, .slice A0_2p p0_2.length c0_2p, .int .i64 p0_3, .int .i64 p0_4] rfl) ?_)
  replace H := headE H
  obtain ⟨u24, hu24, H⟩ := H
  refine hc (o_call (args := #[.agg #[.int .i64 p0_0, .int .i64 p0_1, .slice A0_2p p0_2.length c0_2p, .int .i64 p0_3, .int .i64 p0_4]]) Try.func52 rfl rfl rfl (impl_GoodScreen.ok sb s2 no p0_0 p0_1 A0_2p c0_2p p0_2 p0_3 p0_4 HRp0_2 (Hp.own hH.bs) _ hu24) ?_)
  rintro _ s24 ⟨rfl, hD⟩
  replace hH := hH.back0 hD (Up.refl _ _ _)
  clear hD
  refine hc (o_not rfl ?_)
  dsimp only [putL, setL, evL, getL]
  refine mv ?_
  revert H
  refine it (fun hb25 H => ?_) (fun hb25 H => ?_)
  ·refine wf rfl rfl rfl rfl hb25 (wf rfl rfl rfl rfl hb25 ?_)
   dsimp only [putL, setL, evL, getL]
   refine wf rfl rfl rfl rfl hb25 (hc (o_pickT rfl hb25 (mv ?_)))
   dsimp only [putL, setL, evL, getL]
   refine wf rfl rfl rfl rfl rfl (wf rfl rfl rfl rfl rfl (wf rfl rfl rfl rfl rfl ?_))
   dsimp only [putL, setL, evL, getL]
   refine hc (o_pickT rfl rfl (HL_nil ?_))
   exact hK18 _ _ ⟨true, H, rfl, hH⟩
  ·refine wt rfl rfl rfl rfl hb25 (o_move (wt rfl rfl rfl rfl hb25 (o_len rfl Try.underlying24 ?_)))
   dsimp only [putL, setL, evL, getL]
   refine wt rfl rfl rfl rfl hb25 (o_bin rfl rfl rfl (hc (o_pickF rfl hb25 (mv ?_))))
   revert H
   refine it (fun hb26 H => ?_) (fun hb26 H => ?_)
   ·refine wf rfl rfl rfl rfl hb26 ?_
    dsimp only [putL, setL, evL, getL]
    refine wf rfl rfl rfl rfl hb26 (wf rfl rfl rfl rfl hb26 (hc (o_pickT rfl hb26 (HL_nil ?_))))
    exact hK18 _ _ ⟨true, H, rfl, hH⟩
   ·refine wt rfl rfl rfl rfl hb26 (o_move ?_)
    replace H := headE H
    obtain ⟨u27, hu27, H⟩ := H
    try dsimp only [putL, setL, evL, getL]
    refine wt rfl rfl rfl rfl hb26 (o_call (args := #[.slice A1p p1.length c1p, .int .i64 20]) Try.func118 rfl rfl rfl (impl_areRunes.ok sb s24 no A1p c1p p1 20 HRp1 (Hp.own hH.bs) _ hu27) ?_)
    rintro _ s27 ⟨rfl, hD⟩
    replace hH := hH.back0 hD (Up.refl _ _ _)
    clear hD
    refine wt rfl rfl rfl rfl hb26 (o_not rfl (hc (o_pickF rfl hb26 (HL_nil ?_))))
    exact hK18 _ _ ⟨!u27, H, rfl, hH⟩
 ·rintro l' s28 ⟨x23, H, hl, hH⟩
  revert l'
  refine skA ?_
  dsimp only [Al, Sk]
  intros
  replace H := hG18 _ H
  try dsimp only at H
  revert H
  refine ct rfl (fun hb29 H => ?_) (fun hb29 H => ?_)
  ·refine sr fun K30 hK30 => ?_
   try dsimp only [putL, setL, evL, getL]
   refine ag (ag (ag (HL_nil (hK30 _ _ ?_))))
   dsimp only [putL, setL, evL, getL]
   refine HT_ret ?_
   exact hQr _ _ [.int .i64 0, .int .i64 0, .bool false] _ ⟨rfl, rfl, rfl, trivial⟩ H ⟨rfl, hH.sel [] (by decide)⟩
  ·refine HT_skip (hK17 _ _ (HT_seq_k fun K31 hK31 => (sr fun K32 hK32 => (hc (o_faddr' (ft := 3) (off := 1) rfl Try.underlying66 rfl tI3 (by decide) (hc (o_load' rfl Try.underlying3 rfl (hH.hasv 0 rfl rfl) (mv (HL_nil (hK32 _ _ ?_))))))))))
   dsimp only [putL, setL, evL, getL]
   refine joinH H fun G33 hG33 H => ?_
   refine HT_toK (fun l' s' => G33 (.go ()) = some r ∧ skim [] l' = ([], 53) ∧ Hp sb s F0 s' []) ?_ ?_
   ·intro K33 hK33
    refine HT_block ?_
    refine HT_loopK (fun kf l' s' => ∃ (x593 : Int), (impl_ShowsAt.l1 p0_0 p0_1 p0_2 p0_3 p0_4 p1 kf x593).bind G33 = some r ∧ skim [1, 0, 21, 0] l' = ([.slice A1p p1.length c1p, .pointer (some ⟨b2, 0, none⟩), .int .i64 p0_1, .int .i64 x593], 27) ∧ Hp sb s F0 s' [Ck.ov b2 [.int .i64 p0_0, .int .i64 p0_1, .slice A0_2p p0_2.length c0_2p, .int .i64 p0_3, .int .i64 p0_4] 66]) (((p0_1) - (0)).toNat + 2) ⟨0, H, rfl, hH⟩ ?_
    rintro kf l' s734 ⟨x593, H, hl, hH⟩ K734 hK734
    revert l'
    refine skA ?_
    dsimp only [Al, Sk]
    intros
    cases kf with
    | zero => simp [impl_ShowsAt.l1] at H
    | succ kf =>
     rw [impl_ShowsAt.l1] at H
     refine sr fun K735 hK735 => bn rfl rfl rfl (HL_nil (hK735 _ _ ?_))
     dsimp only [putL, setL, evL, getL]
     refine HT_seq_k fun K736 hK736 => ?_
     revert H
     refine ct rfl (fun hb737 H => ?_) (fun hb737 H => ?_)
     ·refine HT_skip (hK736 _ _ ?_)
      refine joinH H fun G738 hG738 H => ?_
      refine HT_joinK (fun l' s' => G738 (.go ()) = some r ∧ skim [1, 0, 21, 0] l' = ([.slice A1p p1.length c1p, .pointer (some ⟨b2, 0, none⟩), .int .i64 p0_1, .int .i64 x593], 27) ∧ Hp sb s F0 s' [Ck.ov b2 [.int .i64 p0_0, .int .i64 p0_1, .slice A0_2p p0_2.length c0_2p, .int .i64 p0_3, .int .i64 p0_4] 66]) ?_ ?_
      ·intro K738 hK738
       refine HT_block (sr fun K806 hK806 => (mv (ag (HL_nil (hK806 _ _ ?_)))))
       dsimp only [putL, setL, evL, getL]
       refine sr fun K807 hK807 => hc (o_loads' [.int .i64 p0_0, .int .i64 p0_1, .slice A0_2p p0_2.length c0_2p, .int .i64 p0_3, .int .i64 p0_4] rfl Try.underlying66 rfl tI66 rfl (hH.partv 0 rfl (0) [.int .i64 p0_0, .int .i64 p0_1, .slice A0_2p p0_2.length c0_2p, .int .i64 p0_3, .int .i64 p0_4] rfl) (mv ?_))
       replace H := headE H
       obtain ⟨u808, hu808, H⟩ := H
       refine hc (o_call (args := #[.agg #[.int .i64 p0_0, .int .i64 p0_1, .slice A0_2p p0_2.length c0_2p, .int .i64 p0_3, .int .i64 p0_4], .int .i64 x593]) Try.func166 rfl rfl rfl (impl_Screen_row.ok sb s734 no p0_0 p0_1 A0_2p c0_2p p0_2 p0_3 p0_4 x593 HRp0_2 (Hp.own hH.bs) _ hu808) ?_)
       rintro _ s808 ⟨A809, c809, rfl, hD, D809⟩
       replace hH := hH.back0 hD (Up.refl _ _ _)
       clear hD
       try dsimp only [putL, setL, evL, getL]
       refine ag (HL_nil (hK807 _ _ ?_))
       dsimp only [putL, setL, evL, getL]
       refine sr fun K810 hK810 => ag (HL_nil (hK810 _ _ ?_))
       dsimp only [putL, setL, evL, getL]
       refine joinH H fun G811 hG811 H => ?_
       refine HT_toK (fun l' s' => G811 (.go ()) = some r ∧ skim [1, 0, 21, 0] l' = ([.slice A1p p1.length c1p, .pointer (some ⟨b2, 0, none⟩), .int .i64 p0_1, .int .i64 x593], 27) ∧ Hp sb s F0 s' [Ck.ov b2 [.int .i64 p0_0, .int .i64 p0_1, .slice A0_2p p0_2.length c0_2p, .int .i64 p0_3, .int .i64 p0_4] 66]) ?_ ?_
       ·intro K811 hK811
        refine HT_block ?_
        refine HT_loopK (fun kf l' s' => ∃ (x851 : Int), (impl_ShowsAt.l2 p0_0 p1 x593 u808 kf x851).bind G811 = some r ∧ skim [1, 0, 4, 0, 0, 14, 0] l' = ([.slice A1p p1.length c1p, .pointer (some ⟨b2, 0, none⟩), .int .i64 x593, .slice A809 u808.length c809, .int .i64 x851, .int .i64 p0_1, .int .i64 x593], 27) ∧ Hp sb s F0 s' [Ck.ov b2 [.int .i64 p0_0, .int .i64 p0_1, .slice A0_2p p0_2.length c0_2p, .int .i64 p0_3, .int .i64 p0_4] 66]) (((p0_0) - (IntKind.i64.wrap (0 + (p1.length : Int)))).toNat + 2) ⟨0, H, rfl, hH⟩ ?_
        rintro kf l' s862 ⟨x851, H, hl, hH⟩ K862 hK862
        revert l'
        refine skA ?_
        dsimp only [Al, Sk]
        intros
        cases kf with
        | zero => simp [impl_ShowsAt.l2] at H
        | succ kf =>
         rw [impl_ShowsAt.l2] at H
         refine HT_seq_k fun K863 hK863 => sr fun K864 hK864 => mv (mv (hc (o_len rfl Try.underlying24 ?_)))
         dsimp only [putL, setL, evL, getL]
         refine bn rfl rfl rfl (hc (o_faddr' (ft := 3) (off := 0) rfl Try.underlying66 rfl tI3 (by decide) (hc (o_load' rfl Try.underlying3 rfl (hH.hasv 0 rfl rfl) ?_))))
         dsimp only [putL, setL, evL, getL]
         refine bn rfl rfl rfl (HL_nil (hK864 _ _ ?_))
         dsimp only [putL, setL, evL, getL]
         revert H
         refine ct rfl (fun hb865 H => ?_) (fun hb865 H => ?_)
         ·refine HT_skip (hK863 _ _ (HT_seq_k fun K866 hK866 => (HT_block (sr fun K867 hK867 => (mv (mv (mv ?_)))))))
          dsimp only [putL, setL, evL, getL]
          refine mv (hc (o_len rfl Try.underlying24 (bn rfl rfl rfl ?_)))
          replace H := headE H
          obtain ⟨x868, hx868, H⟩ := H
          try dsimp only [putL, setL, evL, getL]
          refine hc (o_cutA (xs := u808) (kl := .i64) (kh := .i64) (L := x851) (H := IntKind.i64.wrap (x851 + (p1.length : Int))) rfl rfl rfl Try.underlying24 tI3 D809.1 hx868 ?_)
          have D868 := D809.cut hx868
          refine mv ?_
          replace H := headE H
          obtain ⟨u869, hu869, H⟩ := H
          refine hc (o_call (args := #[.slice (cutA A809 c809 (Int.toNat x851) (Kd.sz KI)) x868.length (c809 - Int.toNat x851), .slice A1p p1.length c1p]) Try.func162 rfl rfl rfl (slices_Equal_int_int.ok sb s862 no (cutA A809 c809 (Int.toNat x851) (Kd.sz KI)) (c809 - Int.toNat x851) x868 A1p c1p p1 D868 HRp1 (Hp.own hH.bs) _ hu869) ?_)
          rintro _ s869 ⟨rfl, hD⟩
          replace hH := hH.back0 hD (Up.refl _ _ _)
          clear hD
          refine HL_nil (hK867 _ _ ?_)
          try dsimp only [putL, setL, evL, getL]
          revert H
          refine ct rfl (fun hb870 H => ?_) (fun hb870 H => ?_)
          ·refine sr fun K871 hK871 => mv (mv (ag ?_))
           dsimp only [putL, setL, evL, getL]
           refine ag (ag (HL_nil (hK871 _ _ ?_)))
           dsimp only [putL, setL, evL, getL]
           refine HT_ret ?_
           replace H := escH (fun z hz => hG811 _ hz) H
           replace H := escH (fun z hz => hG738 _ hz) H
           replace H := escH (fun z hz => hG33 _ hz) H
           exact hQr _ _ [.int .i64 x593, .int .i64 x851, .bool true] _ ⟨rfl, rfl, rfl, trivial⟩ H ⟨rfl, hH.sel [] (by decide)⟩
          ·refine HT_skip (hK866 _ _ ?_)
           refine HT_region ?_
           refine mv (bn rfl rfl rfl (ag (HL_nil ?_)))
           exact hK862 _ _ ⟨kf, Nat.lt_succ_self kf, IntKind.i64.wrap (x851 + 1), H, rfl, hH⟩
         ·refine HT_exit ?_
          exact hK811 _ _ ⟨H, rfl, hH⟩
       ·rintro l' s872 ⟨H, hl, hH⟩
        revert l'
        refine skA ?_
        dsimp only [Al, Sk]
        intros
        replace H := hG811 _ H
        try dsimp only at H
        exact hK738 _ _ ⟨H, rfl, hH⟩
      ·rintro l' s873 ⟨H, hl, hH⟩
       revert l'
       refine skA ?_
       dsimp only [Al, Sk]
       intros
       replace H := hG738 _ H
       try dsimp only at H
       refine HT_region ?_
       try dsimp only [putL, setL, evL, getL]
       refine bn rfl rfl rfl (mv (HL_nil ?_))
       exact hK734 _ _ ⟨kf, Nat.lt_succ_self kf, IntKind.i64.wrap (x593 + 1), H, rfl, hH⟩
     ·refine HT_exit ?_
      exact hK33 _ _ ⟨H, rfl, hH.sel [] (by decide)⟩
   ·rintro l' s874 ⟨H, hl, hH⟩
    revert l'
    refine skA ?_
    dsimp only [Al, Sk]
    intros
    replace H := hG33 _ H
    try dsimp only at H
    refine hK31 _ _ ?_
    refine sr fun K875 hK875 => ag ?_
    dsimp only [putL, setL, evL, getL]
    refine ag (ag (HL_nil (hK875 _ _ ?_)))
    dsimp only [putL, setL, evL, getL]
    refine HT_ret ?_
    exact hQr _ _ [.int .i64 0, .int .i64 0, .bool false] _ ⟨rfl, rfl, rfl, trivial⟩ H ⟨rfl, hH⟩
def spec_l1Same.l1 (p0 : List (Int)) (p1 : List (Int)) : Nat → Int → Option (Lo Unit Bool)
 | 0, _ => none
 | kf + 1, x52 => if (decide (x52 < (p0.length : Int))) = true then ((rd? p0 x52).bind fun u71 => (rd? p1 x52).bind fun u72 => if (u71 != u72) = true then ((some false).bind fun z => some (Lo.ret z)) else (spec_l1Same.l1 p0 p1 kf (IntKind.i64.wrap (x52 + 1)))) else (some (Lo.go ()))
def spec_l1Same.f (p0 : List (Int)) (p1 : List (Int)) : Option Bool := if ((p0.length : Int) != (p1.length : Int)) = true then (some false) else ((spec_l1Same.l1 p0 p1 ((((p0.length : Int)) - (0)).toNat + 2) 0).bind fun (o : Lo Unit Bool) => match o with | .go () => (some true) | .ret z => some z)
def spec_l1Same.post (sb s : St) (F0 : Fp) (r : Bool) : Value → St → Prop := fun v s' => v = .bool r ∧ Hp sb s F0 s' []
set_option maxRecDepth 100000 in
set_option maxHeartbeats 4000000 in
theorem spec_l1Same.ok (sb s : St) (F0 : Fp) (A0p : Option Addr) (c0p : Nat) (p0 : List (Int)) (A1p : Option Addr) (c1p : Nat) (p1 : List (Int)) (HRp0 : Rd KI sb A0p c0p p0) (HRp1 : Rd KI sb A1p c1p p1) (hH : Hp sb s F0 s []) (r : Bool) (H : spec_l1Same.f p0 p1 = some r) : GCall Try.prog 165 #[.slice A0p p0.length c0p, .slice A1p p1.length c1p] s (spec_l1Same.post sb s F0 r) := by
 refine GCall_ofr (spec_l1Same.post sb s F0) [.tmp 4] (ud [.slice A0p p0.length c0p, .slice A1p p1.length c1p] 24) Try.func165 rfl rfl rfl fun w Q hQr hQn hQp => ?_
 replace H := topE H
 unfold spec_l1Same.f at H
 dsimp only [ud, un]
 refine sr fun K1 hK1 => ag (HL_nil (hK1 _ _ ?_))
 dsimp only [putL, setL, evL, getL]
 refine HT_seq_k fun K2 hK2 => sr fun K3 hK3 => mv (hc (o_len rfl Try.underlying24 (mv ?_)))
 dsimp only [putL, setL, evL, getL]
 refine hc (o_len rfl Try.underlying24 (bn rfl rfl rfl (HL_nil (hK3 _ _ ?_))))
 dsimp only [putL, setL, evL, getL]
 revert H
 refine ct rfl (fun hb4 H => ?_) (fun hb4 H => ?_)
 ·refine sr fun K5 hK5 => ag (HL_nil (hK5 _ _ ?_))
  dsimp only [putL, setL, evL, getL]
  refine HT_ret ?_
  exact hQr _ _ [.bool false] _ ⟨rfl, trivial⟩ H ⟨rfl, hH⟩
 ·refine HT_skip (hK2 _ _ (HT_seq_k fun K6 hK6 => (sr fun K7 hK7 => (mv (hc (o_len rfl Try.underlying24 (mv (HL_nil (hK7 _ _ ?_)))))))))
  dsimp only [putL, setL, evL, getL]
  refine joinH H fun G8 hG8 H => ?_
  refine HT_toK (fun l' s' => G8 (.go ()) = some r ∧ skim [] l' = ([], 27) ∧ Hp sb s F0 s' []) ?_ ?_
  ·intro K8 hK8
   refine HT_block ?_
   refine HT_loopK (fun kf l' s' => ∃ (x52 : Int), (spec_l1Same.l1 p0 p1 kf x52).bind G8 = some r ∧ skim [0, 0, 10, 0] l' = ([.slice A0p p0.length c0p, .slice A1p p1.length c1p, .int .i64 (p0.length : Int), .int .i64 x52], 13) ∧ Hp sb s F0 s' []) ((((p0.length : Int)) - (0)).toNat + 2) ⟨0, H, rfl, hH⟩ ?_
   rintro kf l' s64 ⟨x52, H, hl, hH⟩ K64 hK64
   revert l'
   refine skA ?_
   dsimp only [Al, Sk]
   intros
   cases kf with
   | zero => simp [spec_l1Same.l1] at H
   | succ kf =>
    rw [spec_l1Same.l1] at H
    refine sr fun K65 hK65 => bn rfl rfl rfl (HL_nil (hK65 _ _ ?_))
    dsimp only [putL, setL, evL, getL]
    refine HT_seq_k fun K66 hK66 => ?_
    revert H
    refine ct rfl (fun hb67 H => ?_) (fun hb67 H => ?_)
    ·refine HT_skip (hK66 _ _ (HT_seq_k fun K68 hK68 => (HT_block (sr fun K69 hK69 => (mv (ag (HL_nil (hK69 _ _ ?_))))))))
     dsimp only [putL, setL, evL, getL]
     refine sx hMix fun K70 hK70 => ?_
     refine HX_lim (R := fun _ => True) (k := 0) (fun s' => Gro s64 s') 10 ?_
     have hR := Gro.refl s64
     have hH0 := hH
     refine HK_readP 0 (v := .slice A0p p0.length c0p) rfl (by kernel_rfl) hQp rfl (fun s' K hK => o_move hK) rfl rfl (fun _ => hR) ?_
     refine HK_readP 1 (v := .int .i64 x52) rfl (by kernel_rfl) hQp rfl (fun s' K hK => o_move hK) rfl rfl (fun _ => hR) ?_
     replace H := headE H
     obtain ⟨u71, hu71, H⟩ := H
     obtain ⟨b71, o71, cs71, hr71, hh71, hel71⟩ := Rd.elb HRp0 hu71
     obtain rfl := hr71
     try dsimp only [putL, setL, evL, getL]
     refine HK_readP 2 (v := .pointer (some ⟨b71, o71, none⟩)) rfl (by kernel_rfl) hQp rfl (fun s' K hK => hel71 s' rfl rfl Try.underlying24 tI3 hK) rfl rfl (fun _ => hR) ?_
     refine HK_read 3 (v := .int .i64 u71) rfl (by kernel_rfl) hQp rfl (fun s' hR' K hK => o_load' rfl Try.underlying3 rfl ((hh71 (hH0.bs.mono.trans hR'.mono)) 0 _ rfl) hK) rfl rfl hR ?_
     refine HK_readP 4 (v := .slice A1p p1.length c1p) rfl (by kernel_rfl) hQp rfl (fun s' K hK => o_move hK) rfl rfl (fun _ => hR) ?_
     try dsimp only [putL, setL, evL, getL]
     refine HK_readP 5 (v := .int .i64 x52) rfl (by kernel_rfl) hQp rfl (fun s' K hK => o_move hK) rfl rfl (fun _ => hR) ?_
     replace H := headE H
     obtain ⟨u72, hu72, H⟩ := H
     obtain ⟨b72, o72, cs72, hr72, hh72, hel72⟩ := Rd.elb HRp1 hu72
     obtain rfl := hr72
     refine HK_readP 6 (v := .pointer (some ⟨b72, o72, none⟩)) rfl (by kernel_rfl) hQp rfl (fun s' K hK => hel72 s' rfl rfl Try.underlying24 tI3 hK) rfl rfl (fun _ => hR) ?_
     refine HK_read 7 (v := .int .i64 u72) rfl (by kernel_rfl) hQp rfl (fun s' hR' K hK => o_load' rfl Try.underlying3 rfl ((hh72 (hH0.bs.mono.trans hR'.mono)) 0 _ rfl) hK) rfl rfl hR ?_
     try dsimp only [putL, setL, evL, getL]
     refine HK_readP 8 (v := .bool (u71 != u72)) rfl (by kernel_rfl) hQp rfl (fun s' K hK => o_bin rfl rfl rfl hK) rfl rfl (fun _ => hR) ?_
     refine HK_done (fun _ => hR) (by kernel_rfl) ?_
     refine hK70 _ _ ?_
     try dsimp only [putL, setL, evL, getL]
     revert H
     refine ct rfl (fun hb73 H => ?_) (fun hb73 H => ?_)
     ·refine sr fun K74 hK74 => ag (HL_nil (hK74 _ _ ?_))
      dsimp only [putL, setL, evL, getL]
      refine HT_ret ?_
      replace H := escH (fun z hz => hG8 _ hz) H
      exact hQr _ _ [.bool false] _ ⟨rfl, trivial⟩ H ⟨rfl, hH⟩
     ·refine HT_skip (hK68 _ _ ?_)
      refine HT_region ?_
      refine bn rfl rfl rfl (mv (HL_nil ?_))
      exact hK64 _ _ ⟨kf, Nat.lt_succ_self kf, IntKind.i64.wrap (x52 + 1), H, rfl, hH⟩
    ·refine HT_exit ?_
     exact hK8 _ _ ⟨H, rfl, hH⟩
  ·rintro l' s75 ⟨H, hl, hH⟩
   revert l'
   refine skA ?_
   dsimp only [Al, Sk]
   intros
   replace H := hG8 _ H
   try dsimp only at H
   refine hK6 _ _ ?_
   refine sr fun K76 hK76 => ag (HL_nil (hK76 _ _ ?_))
   dsimp only [putL, setL, evL, getL]
   refine HT_ret ?_
   exact hQr _ _ [.bool true] _ ⟨rfl, trivial⟩ H ⟨rfl, hH⟩
def spec_ShowsAt.l2 (p0_0 : Int) (p1 : List (Int)) (x581 : Int) (x789 : List (Int)) : Nat → Int → Option (Lo Unit (Lo Unit (Lo Unit (Int × Int × Bool))))
 | 0, _ => none
 | kf + 1, x831 => if (decide ((IntKind.i64.wrap (x831 + (p1.length : Int))) ≤ p0_0)) = true then ((cut? x789 x831 (IntKind.i64.wrap (x831 + (p1.length : Int)))).bind fun x848 => (spec_l1Same.f x848 p1).bind fun u849 => if u849 = true then ((((some (x581, x831, true)).bind fun z => some (Lo.ret z)).bind fun z => some (Lo.ret z)).bind fun z => some (Lo.ret z)) else (spec_ShowsAt.l2 p0_0 p1 x581 x789 kf (IntKind.i64.wrap (x831 + 1)))) else (some (Lo.go ()))
def spec_ShowsAt.l1 (p0_0 : Int) (p0_1 : Int) (p0_2 : List (Int)) (p1 : List (Int)) : Nat → Int → Option (Lo Unit (Int × Int × Bool))
 | 0, _ => none
 | kf + 1, x581 => if (decide (x581 < p0_1)) = true then (((cut? p0_2 (IntKind.i64.wrap (x581 * p0_0)) (IntKind.i64.wrap ((IntKind.i64.wrap (x581 + 1)) * p0_0))).bind fun x789 => (spec_ShowsAt.l2 p0_0 p1 x581 x789 (((p0_0) - (IntKind.i64.wrap (0 + (p1.length : Int)))).toNat + 2) 0).bind fun (o : Lo Unit (Lo Unit (Lo Unit (Int × Int × Bool)))) => match o with | .go () => (some (Lo.go ())) | .ret z => some z).bind fun (o : Lo Unit (Lo Unit (Int × Int × Bool))) => match o with | .go () => (spec_ShowsAt.l1 p0_0 p0_1 p0_2 p1 kf (IntKind.i64.wrap (x581 + 1))) | .ret z => some z) else (some (Lo.go ()))
def spec_ShowsAt.f (p0_0 : Int) (p0_1 : Int) (p0_2 : List (Int)) (p0_3 : Int) (p0_4 : Int) (p1 : List (Int)) : Option (Int × Int × Bool) := ((spec_GoodScreen.f p0_0 p0_1 p0_2 p0_3 p0_4).bind fun u27 => if (!u27) = true then (some true) else ((spec_l1AllRunes.f p1).bind fun u29 => if (!u29) = true then (some true) else ((spec_l1In.f (p1.length : Int) 1 20).bind fun u31 => some (!u31)))).bind fun (o : Bool) => match o with | x26 => (if x26 = true then (some (0, 0, false)) else ((spec_ShowsAt.l1 p0_0 p0_1 p0_2 p1 (((p0_1) - (0)).toNat + 2) 0).bind fun (o : Lo Unit (Int × Int × Bool)) => match o with | .go () => (some (0, 0, false)) | .ret z => some z))
def spec_ShowsAt.post (sb s : St) (F0 : Fp) (r : Int × Int × Bool) : Value → St → Prop := fun v s' => v = .tuple #[.int .i64 r.1, .int .i64 r.2.1, .bool r.2.2] ∧ Hp sb s F0 s' []
set_option maxRecDepth 100000 in
set_option maxHeartbeats 4000000 in
theorem spec_ShowsAt.ok (sb s : St) (F0 : Fp) (p0_0 : Int) (p0_1 : Int) (A0_2p : Option Addr) (c0_2p : Nat) (p0_2 : List (Int)) (p0_3 : Int) (p0_4 : Int) (A1p : Option Addr) (c1p : Nat) (p1 : List (Int)) (HRp0_2 : Rd KI sb A0_2p c0_2p p0_2) (HRp1 : Rd KI sb A1p c1p p1) (hH : Hp sb s F0 s []) (r : Int × Int × Bool) (H : spec_ShowsAt.f p0_0 p0_1 p0_2 p0_3 p0_4 p1 = some r) : GCall Try.prog 80 #[.agg #[.int .i64 p0_0, .int .i64 p0_1, .slice A0_2p p0_2.length c0_2p, .int .i64 p0_3, .int .i64 p0_4], .slice A1p p1.length c1p] s (spec_ShowsAt.post sb s F0 r) := by
 refine GCall_ofr (spec_ShowsAt.post sb s F0) [.tmp 4, .tmp 5, .tmp 6] (ud [.agg #[.int .i64 p0_0, .int .i64 p0_1, .slice A0_2p p0_2.length c0_2p, .int .i64 p0_3, .int .i64 p0_4], .slice A1p p1.length c1p] 60) Try.func80 rfl rfl rfl fun w Q hQr hQn hQp => ?_
 replace H := topE H
 unfold spec_ShowsAt.f at H
 dsimp only [ud, un]
 refine sr fun K1 hK1 => hc (o_boxH hH rfl ?_)
 clear hH
 intro b2 s2 hH _
 refine ag (ag ?_)
 dsimp only [putL, setL, evL, getL]
 refine ag (HL_nil (hK1 _ _ ?_))
 dsimp only [putL, setL, evL, getL]
 refine HT_seq_k fun K19 hK19 => ?_
 refine joinH H fun G20 hG20 H => ?_
 refine HT_joinK (fun l' s' => ∃ (x26 : Bool), G20 x26 = some r ∧ skim [1, 0, 20] l' = ([.slice A1p p1.length c1p, .pointer (some ⟨b2, 0, none⟩), .bool x26], 39) ∧ Hp sb s F0 s' [Ck.ov b2 [.int .i64 p0_0, .int .i64 p0_1, .slice A0_2p p0_2.length c0_2p, .int .i64 p0_3, .int .i64 p0_4] 66]) ?_ ?_
 ·intro K20 hK20
  refine HT_region ?_
  refine hc (o_loads' [.int .i64 p0_0, .int .i64 p0_1, .slice A0_2p p0_2.length c0_2p, .int .i64 p0_3, .int .i64 p0_4] rfl Try.underlying66 rfl tI66 rfl (hH.partv 0 rfl (0) [.int .i64 p0_0, .int .i64 p0_1, .slice A0_2p p0_2.length c0_2p, .int .i64 p0_3, .int .i64 p0_4] rfl) ?_)
  replace H := headE H
  obtain ⟨u27, hu27, H⟩ := H
  refine hc (o_call (args := #[.agg #[.int .i64 p0_0, .int .i64 p0_1, .slice A0_2p p0_2.length c0_2p, .int .i64 p0_3, .int .i64 p0_4]]) Try.func53 rfl rfl rfl (spec_GoodScreen.ok sb s2 no p0_0 p0_1 A0_2p c0_2p p0_2 p0_3 p0_4 HRp0_2 (Hp.own hH.bs) _ hu27) ?_)
  rintro _ s27 ⟨rfl, hD⟩
  replace hH := hH.back0 hD (Up.refl _ _ _)
  clear hD
  refine hc (o_not rfl ?_)
  dsimp only [putL, setL, evL, getL]
  refine mv ?_
  revert H
  refine it (fun hb28 H => ?_) (fun hb28 H => ?_)
  ·refine wf rfl rfl rfl rfl hb28 (wf rfl rfl rfl rfl hb28 ?_)
   dsimp only [putL, setL, evL, getL]
   refine wf rfl rfl rfl rfl hb28 (hc (o_pickT rfl hb28 (mv ?_)))
   dsimp only [putL, setL, evL, getL]
   refine wf rfl rfl rfl rfl rfl (wf rfl rfl rfl rfl rfl (wf rfl rfl rfl rfl rfl ?_))
   dsimp only [putL, setL, evL, getL]
   refine wf rfl rfl rfl rfl rfl (hc (o_pickT rfl rfl (HL_nil ?_)))
   exact hK20 _ _ ⟨true, H, rfl, hH⟩
  ·refine wt rfl rfl rfl rfl hb28 (o_move ?_)
   replace H := headE H
   obtain ⟨u29, hu29, H⟩ := H
   try dsimp only [putL, setL, evL, getL]
   refine wt rfl rfl rfl rfl hb28 (o_call (args := #[.slice A1p p1.length c1p]) Try.func119 rfl rfl rfl (spec_l1AllRunes.ok sb s27 no A1p c1p p1 HRp1 (Hp.own hH.bs) _ hu29) ?_)
   rintro _ s29 ⟨rfl, hD⟩
   replace hH := hH.back0 hD (Up.refl _ _ _)
   clear hD
   refine wt rfl rfl rfl rfl hb28 (o_not rfl (hc (o_pickF rfl hb28 ?_)))
   dsimp only [putL, setL, evL, getL]
   refine mv ?_
   revert H
   refine it (fun hb30 H => ?_) (fun hb30 H => ?_)
   ·refine wf rfl rfl rfl rfl hb30 (wf rfl rfl rfl rfl hb30 ?_)
    dsimp only [putL, setL, evL, getL]
    refine wf rfl rfl rfl rfl hb30 (wf rfl rfl rfl rfl hb30 (hc (o_pickT rfl hb30 (HL_nil ?_))))
    exact hK20 _ _ ⟨true, H, rfl, hH⟩
   ·refine wt rfl rfl rfl rfl hb30 (o_move ?_)
    dsimp only [putL, setL, evL, getL]
    refine wt rfl rfl rfl rfl hb30 (o_len rfl Try.underlying24 ?_)
    replace H := headE H
    obtain ⟨u31, hu31, H⟩ := H
    refine wt rfl rfl rfl rfl hb30 (o_call (args := #[.int .i64 (p1.length : Int), .int .i64 1, .int .i64 20]) Try.func108 rfl rfl rfl (spec_l1In.ok sb s29 no (p1.length : Int) 1 20 (Hp.own hH.bs) _ hu31) ?_)
    rintro _ s31 ⟨rfl, hD⟩
    replace hH := hH.back0 hD (Up.refl _ _ _)
    clear hD
    refine wt rfl rfl rfl rfl hb30 (o_not rfl ?_)
    dsimp only [putL, setL, evL, getL]
    refine hc (o_pickF rfl hb30 (HL_nil ?_))
    exact hK20 _ _ ⟨!u31, H, rfl, hH⟩
 ·rintro l' s32 ⟨x26, H, hl, hH⟩
  revert l'
  refine skA ?_
  dsimp only [Al, Sk]
  intros
  replace H := hG20 _ H
  try dsimp only at H
  revert H
  refine ct rfl (fun hb33 H => ?_) (fun hb33 H => ?_)
  ·refine sr fun K34 hK34 => ag (ag ?_)
   dsimp only [putL, setL, evL, getL]
   refine ag (HL_nil (hK34 _ _ ?_))
   dsimp only [putL, setL, evL, getL]
   refine HT_ret ?_
   exact hQr _ _ [.int .i64 0, .int .i64 0, .bool false] _ ⟨rfl, rfl, rfl, trivial⟩ H ⟨rfl, hH.sel [] (by decide)⟩
  ·refine HT_skip (hK19 _ _ (HT_seq_k fun K35 hK35 => (sr fun K36 hK36 => (ag (HL_nil (hK36 _ _ ?_))))))
   dsimp only [putL, setL, evL, getL]
   refine joinH H fun G37 hG37 H => ?_
   refine HT_toK (fun l' s' => G37 (.go ()) = some r ∧ skim [] l' = ([], 63) ∧ Hp sb s F0 s' []) ?_ ?_
   ·intro K37 hK37
    refine HT_block ?_
    refine HT_loopK (fun kf l' s' => ∃ (x581 : Int), (spec_ShowsAt.l1 p0_0 p0_1 p0_2 p1 kf x581).bind G37 = some r ∧ skim [1, 0, 4] l' = ([.slice A1p p1.length c1p, .pointer (some ⟨b2, 0, none⟩), .int .i64 x581], 55) ∧ Hp sb s F0 s' [Ck.ov b2 [.int .i64 p0_0, .int .i64 p0_1, .slice A0_2p p0_2.length c0_2p, .int .i64 p0_3, .int .i64 p0_4] 66]) (((p0_1) - (0)).toNat + 2) ⟨0, H, rfl, hH⟩ ?_
    rintro kf l' s718 ⟨x581, H, hl, hH⟩ K718 hK718
    revert l'
    refine skA ?_
    dsimp only [Al, Sk]
    intros
    cases kf with
    | zero => simp [spec_ShowsAt.l1] at H
    | succ kf =>
     rw [spec_ShowsAt.l1] at H
     refine HT_seq_k fun K719 hK719 => sr fun K720 hK720 => mv (hc (o_faddr' (ft := 3) (off := 1) rfl Try.underlying66 rfl tI3 (by decide) (hc (o_load' rfl Try.underlying3 rfl (hH.hasv 0 rfl rfl) ?_))))
     dsimp only [putL, setL, evL, getL]
     refine bn rfl rfl rfl (HL_nil (hK720 _ _ ?_))
     dsimp only [putL, setL, evL, getL]
     revert H
     refine ct rfl (fun hb721 H => ?_) (fun hb721 H => ?_)
     ·refine HT_skip (hK719 _ _ ?_)
      refine joinH H fun G722 hG722 H => ?_
      refine HT_joinK (fun l' s' => G722 (.go ()) = some r ∧ skim [1, 0, 4] l' = ([.slice A1p p1.length c1p, .pointer (some ⟨b2, 0, none⟩), .int .i64 x581], 55) ∧ Hp sb s F0 s' [Ck.ov b2 [.int .i64 p0_0, .int .i64 p0_1, .slice A0_2p p0_2.length c0_2p, .int .i64 p0_3, .int .i64 p0_4] 66]) ?_ ?_
      ·intro K722 hK722
       refine HT_block (sr fun K788 hK788 => (hc (o_faddr' (ft := 24) (off := 2) rfl Try.underlying66 rfl tI24 (by decide) (hc (o_load' rfl Try.underlying24 rfl (hH.hasv 0 rfl rfl) (mv ?_))))))
       dsimp only [putL, setL, evL, getL]
       refine hc (o_faddr' (ft := 3) (off := 0) rfl Try.underlying66 rfl tI3 (by decide) (hc (o_load' rfl Try.underlying3 rfl (hH.hasv 0 rfl rfl) (bn rfl rfl rfl ?_))))
       dsimp only [putL, setL, evL, getL]
       refine mv (bn rfl rfl rfl (hc (o_faddr' (ft := 3) (off := 0) rfl Try.underlying66 rfl tI3 (by decide) ?_)))
       dsimp only [putL, setL, evL, getL]
       refine hc (o_load' rfl Try.underlying3 rfl (hH.hasv 0 rfl rfl) (bn rfl rfl rfl ?_))
       replace H := headE H
       obtain ⟨x789, hx789, H⟩ := H
       refine hc (o_cutA (xs := p0_2) (kl := .i64) (kh := .i64) (L := IntKind.i64.wrap (x581 * p0_0)) (H := IntKind.i64.wrap ((IntKind.i64.wrap (x581 + 1)) * p0_0)) rfl rfl rfl Try.underlying24 tI3 HRp0_2.1 hx789 ?_)
       have D789 := HRp0_2.cut hx789
       try dsimp only [putL, setL, evL, getL]
       refine ag (HL_nil (hK788 _ _ ?_))
       dsimp only [putL, setL, evL, getL]
       refine sr fun K790 hK790 => ag (HL_nil (hK790 _ _ ?_))
       dsimp only [putL, setL, evL, getL]
       refine joinH H fun G791 hG791 H => ?_
       refine HT_toK (fun l' s' => G791 (.go ()) = some r ∧ skim [1, 0, 4] l' = ([.slice A1p p1.length c1p, .pointer (some ⟨b2, 0, none⟩), .int .i64 x581], 55) ∧ Hp sb s F0 s' [Ck.ov b2 [.int .i64 p0_0, .int .i64 p0_1, .slice A0_2p p0_2.length c0_2p, .int .i64 p0_3, .int .i64 p0_4] 66]) ?_ ?_
       ·intro K791 hK791
        refine HT_block ?_
        refine HT_loopK (fun kf l' s' => ∃ (x831 : Int), (spec_ShowsAt.l2 p0_0 p1 x581 x789 kf x831).bind G791 = some r ∧ skim [1, 0, 4, 0, 0] l' = ([.slice A1p p1.length c1p, .pointer (some ⟨b2, 0, none⟩), .int .i64 x581, .slice (cutA A0_2p c0_2p (Int.toNat (IntKind.i64.wrap (x581 * p0_0))) (Kd.sz KI)) x789.length (c0_2p - Int.toNat (IntKind.i64.wrap (x581 * p0_0))), .int .i64 x831], 53) ∧ Hp sb s F0 s' [Ck.ov b2 [.int .i64 p0_0, .int .i64 p0_1, .slice A0_2p p0_2.length c0_2p, .int .i64 p0_3, .int .i64 p0_4] 66]) (((p0_0) - (IntKind.i64.wrap (0 + (p1.length : Int)))).toNat + 2) ⟨0, H, rfl, hH⟩ ?_
        rintro kf l' s842 ⟨x831, H, hl, hH⟩ K842 hK842
        revert l'
        refine skA ?_
        dsimp only [Al, Sk]
        intros
        cases kf with
        | zero => simp [spec_ShowsAt.l2] at H
        | succ kf =>
         rw [spec_ShowsAt.l2] at H
         refine HT_seq_k fun K843 hK843 => sr fun K844 hK844 => mv (mv (hc (o_len rfl Try.underlying24 ?_)))
         dsimp only [putL, setL, evL, getL]
         refine bn rfl rfl rfl (hc (o_faddr' (ft := 3) (off := 0) rfl Try.underlying66 rfl tI3 (by decide) (hc (o_load' rfl Try.underlying3 rfl (hH.hasv 0 rfl rfl) ?_))))
         dsimp only [putL, setL, evL, getL]
         refine bn rfl rfl rfl (HL_nil (hK844 _ _ ?_))
         dsimp only [putL, setL, evL, getL]
         revert H
         refine ct rfl (fun hb845 H => ?_) (fun hb845 H => ?_)
         ·refine HT_skip (hK843 _ _ (HT_seq_k fun K846 hK846 => (HT_block (sr fun K847 hK847 => (mv (mv (mv ?_)))))))
          dsimp only [putL, setL, evL, getL]
          refine mv (hc (o_len rfl Try.underlying24 (bn rfl rfl rfl ?_)))
          replace H := headE H
          obtain ⟨x848, hx848, H⟩ := H
          try dsimp only [putL, setL, evL, getL]
          refine hc (o_cutA (xs := x789) (kl := .i64) (kh := .i64) (L := x831) (H := IntKind.i64.wrap (x831 + (p1.length : Int))) rfl rfl rfl Try.underlying24 tI3 D789.1 hx848 ?_)
          have D848 := D789.cut hx848
          refine mv ?_
          replace H := headE H
          obtain ⟨u849, hu849, H⟩ := H
          refine hc (o_call (args := #[.slice (cutA (cutA A0_2p c0_2p (Int.toNat (IntKind.i64.wrap (x581 * p0_0))) (Kd.sz KI)) (c0_2p - Int.toNat (IntKind.i64.wrap (x581 * p0_0))) (Int.toNat x831) (Kd.sz KI)) x848.length ((c0_2p - Int.toNat (IntKind.i64.wrap (x581 * p0_0))) - Int.toNat x831), .slice A1p p1.length c1p]) Try.func165 rfl rfl rfl (spec_l1Same.ok sb s842 no (cutA (cutA A0_2p c0_2p (Int.toNat (IntKind.i64.wrap (x581 * p0_0))) (Kd.sz KI)) (c0_2p - Int.toNat (IntKind.i64.wrap (x581 * p0_0))) (Int.toNat x831) (Kd.sz KI)) ((c0_2p - Int.toNat (IntKind.i64.wrap (x581 * p0_0))) - Int.toNat x831) x848 A1p c1p p1 D848 HRp1 (Hp.own hH.bs) _ hu849) ?_)
          rintro _ s849 ⟨rfl, hD⟩
          replace hH := hH.back0 hD (Up.refl _ _ _)
          clear hD
          refine HL_nil (hK847 _ _ ?_)
          try dsimp only [putL, setL, evL, getL]
          revert H
          refine ct rfl (fun hb850 H => ?_) (fun hb850 H => ?_)
          ·refine sr fun K851 hK851 => mv (mv (ag ?_))
           dsimp only [putL, setL, evL, getL]
           refine ag (ag (HL_nil (hK851 _ _ ?_)))
           dsimp only [putL, setL, evL, getL]
           refine HT_ret ?_
           replace H := escH (fun z hz => hG791 _ hz) H
           replace H := escH (fun z hz => hG722 _ hz) H
           replace H := escH (fun z hz => hG37 _ hz) H
           exact hQr _ _ [.int .i64 x581, .int .i64 x831, .bool true] _ ⟨rfl, rfl, rfl, trivial⟩ H ⟨rfl, hH.sel [] (by decide)⟩
          ·refine HT_skip (hK846 _ _ ?_)
           refine HT_region ?_
           refine mv (bn rfl rfl rfl (ag (HL_nil ?_)))
           exact hK842 _ _ ⟨kf, Nat.lt_succ_self kf, IntKind.i64.wrap (x831 + 1), H, rfl, hH⟩
         ·refine HT_exit ?_
          exact hK791 _ _ ⟨H, rfl, hH⟩
       ·rintro l' s852 ⟨H, hl, hH⟩
        revert l'
        refine skA ?_
        dsimp only [Al, Sk]
        intros
        replace H := hG791 _ H
        try dsimp only at H
        exact hK722 _ _ ⟨H, rfl, hH⟩
      ·rintro l' s853 ⟨H, hl, hH⟩
       revert l'
       refine skA ?_
       dsimp only [Al, Sk]
       intros
       replace H := hG722 _ H
       try dsimp only at H
       refine HT_region ?_
       try dsimp only [putL, setL, evL, getL]
       refine mv (bn rfl rfl rfl (ag (HL_nil ?_)))
       exact hK718 _ _ ⟨kf, Nat.lt_succ_self kf, IntKind.i64.wrap (x581 + 1), H, rfl, hH⟩
     ·refine HT_exit ?_
      exact hK37 _ _ ⟨H, rfl, hH.sel [] (by decide)⟩
   ·rintro l' s854 ⟨H, hl, hH⟩
    revert l'
    refine skA ?_
    dsimp only [Al, Sk]
    intros
    replace H := hG37 _ H
    try dsimp only at H
    refine hK35 _ _ ?_
    refine sr fun K855 hK855 => ?_
    try dsimp only [putL, setL, evL, getL]
    refine ag (ag (ag (HL_nil (hK855 _ _ ?_))))
    dsimp only [putL, setL, evL, getL]
    refine HT_ret ?_
    exact hQr _ _ [.int .i64 0, .int .i64 0, .bool false] _ ⟨rfl, rfl, rfl, trivial⟩ H ⟨rfl, hH⟩
def spec_DrawRowOf.f (p0 : List (Int)) : Option (Int × Int × (List (Int)) × Int × Int × Int) := (spec_l1Cur_screen.f p0 0 0).bind fun u6 => (spec_l1Cur_pick.f p0 u6.2.2.2.2.2.1 u6.2.2.2.2.2.2 (IntKind.i64.wrap (u6.2.1 + 1))).bind fun u11 => (spec_l1Cur_pick.f p0 u11.2.1 u11.2.2 20).bind fun u12 => (quo? .i64 u12.1 19).bind fun u13 => some (u6.1, u6.2.1, u6.2.2.1, u6.2.2.2.1, u6.2.2.2.2.1, (IntKind.i64.wrap (u11.1 - u13)))
def spec_DrawRowOf.post (sb s : St) (F0 : Fp) (r : Int × Int × (List (Int)) × Int × Int × Int) : Value → St → Prop := fun v s' => ∃ (A2 : Option Addr) (c2 : Nat), v = .tuple #[.agg #[.int .i64 r.1, .int .i64 r.2.1, .slice A2 r.2.2.1.length c2, .int .i64 r.2.2.2.1, .int .i64 r.2.2.2.2.1], .int .i64 r.2.2.2.2.2] ∧ Hp sb s F0 s' [Ck.ol OI 3 A2 c2 r.2.2.1]
set_option maxRecDepth 100000 in
set_option maxHeartbeats 4000000 in
theorem spec_DrawRowOf.ok (sb s : St) (F0 : Fp) (A0p : Option Addr) (c0p : Nat) (p0 : List (Int)) (HRp0 : Rd (Kd.int .u8) sb A0p c0p p0) (hH : Hp sb s F0 s []) (r : Int × Int × (List (Int)) × Int × Int × Int) (H : spec_DrawRowOf.f p0 = some r) : GCall Try.prog 81 #[.slice A0p p0.length c0p] s (spec_DrawRowOf.post sb s F0 r) := by
 refine GCall_ofr (spec_DrawRowOf.post sb s F0) [.cell 2 66, .tmp 3] (ud [.slice A0p p0.length c0p] 20) Try.func81 rfl rfl rfl fun w Q hQr hQn hQp => ?_
 replace H := topE H
 unfold spec_DrawRowOf.f at H
 dsimp only [ud, un]
 refine sr fun K1 hK1 => hc (o_allocH hH tI66 ?_)
 clear hH
 intro b2 s2 hH _
 refine ag (HL_nil (hK1 _ _ ?_))
 dsimp only [putL, setL, evL, getL]
 refine sr fun K3 hK3 => mv (hc (o_build (pl := [(0, 1), (1, 1), (2, 1)]) (cs := #[.slice A0p p0.length c0p, .int .i64 0, .int .u64 0]) Try.underlying113 tI113 (by kernel_rfl) (by kernel_rfl) rfl (hc (o_boxH hH rfl ?_))))
 clear hH
 intro b4 s4 hH _
 try dsimp only [putL, setL, evL, getL]
 refine ag (HL_nil (hK3 _ _ ?_))
 dsimp only [putL, setL, evL, getL]
 refine sr fun K5 hK5 => mv ?_
 replace H := headE H
 obtain ⟨u6, hu6, H⟩ := H
 obtain ⟨F1, hA, hB⟩ := hH.take [1] (by decide)
 dsimp only [addC, setC, rmC, selC, getC] at hA
 refine hc (o_call (args := #[.pointer (some ⟨b4, 0, none⟩)]) Try.func139 rfl rfl rfl (spec_l1Cur_screen.ok sb s4 F1 b4 A0p c0p p0 0 0 HRp0 hA _ hu6) ?_)
 rintro _ s6 ⟨A7, c7, rfl, hD⟩
 replace hH := hB _ _ _ (Up.refl _ _ _) hD
 clear hD hA hB
 refine hc (o_allocH hH tI66 ?_)
 clear hH
 intro b8 s8 hH _
 try dsimp only [putL, setL, evL, getL]
 refine hc (o_stvH (vs := [.int .i64 u6.1, .int .i64 u6.2.1, .slice A7 u6.2.2.1.length c7, .int .i64 u6.2.2.2.1, .int .i64 u6.2.2.2.2.1]) (us' := [.int .i64 u6.1, .int .i64 u6.2.1, .slice A7 u6.2.2.1.length c7, .int .i64 u6.2.2.2.1, .int .i64 u6.2.2.2.2.1]) hH 4 rfl rfl rfl rfl rfl tI66 rfl (List.cons_ne_nil _ _) rfl rfl rfl ?_)
 clear hH
 intro s9 hH
 refine HL_nil (hK5 _ _ ?_)
 try dsimp only [putL, setL, evL, getL]
 refine sx hMix fun K10 hK10 => ?_
 refine HX_lim (R := fun _ => True) (k := 0) (fun s' => Gro s9 s') 5 ?_
 have hR := Gro.refl s9
 have hH0 := hH
 refine HK_readP 1 (v := .pointer (some ⟨b4, 0, none⟩)) rfl (by kernel_rfl) hQp rfl (fun s' K hK => o_move hK) rfl rfl (fun _ => hR) ?_
 refine HK_readP 2 (v := .pointer (some ⟨b8, 0 + 1, none⟩)) rfl (by kernel_rfl) hQp rfl (fun s' K hK => o_faddr' (ft := 3) (off := 1) rfl Try.underlying66 rfl tI3 (by decide) hK) rfl rfl (fun _ => hR) ?_
 try dsimp only [putL, setL, evL, getL]
 refine HK_read 3 (v := .int .i64 u6.2.1) rfl (by kernel_rfl) hQp rfl (fun s' hR' K hK => o_load' rfl Try.underlying3 rfl (has_gro hR' (hH0.hasv 4 rfl rfl)) hK) rfl rfl hR ?_
 refine HK_readP 4 (v := .int .i64 (IntKind.i64.wrap (u6.2.1 + 1))) rfl (by kernel_rfl) hQp rfl (fun s' K hK => o_bin rfl rfl rfl hK) rfl rfl (fun _ => hR) ?_
 refine HK_readP 6 (v := .pointer (some ⟨b4, 0, none⟩)) rfl (by kernel_rfl) hQp rfl (fun s' K hK => o_move hK) rfl rfl (fun _ => hR) ?_
 try dsimp only [putL, setL, evL, getL]
 refine HK_more [0, 5] (by kernel_rfl) rfl (fun _ => hR) ⟨⟨_, rfl, Or.inl ⟨rfl, ?_⟩⟩, ⟨_, rfl, Or.inl ⟨rfl, ?_⟩⟩, trivial⟩
 ·skip
  refine o_loads' [.int .i64 u6.1, .int .i64 u6.2.1, .slice A7 u6.2.2.1.length c7, .int .i64 u6.2.2.2.1, .int .i64 u6.2.2.2.2.1] rfl Try.underlying66 rfl tI66 rfl (hH.partv 4 rfl (0) [.int .i64 u6.1, .int .i64 u6.2.1, .slice A7 u6.2.2.1.length c7, .int .i64 u6.2.2.2.1, .int .i64 u6.2.2.2.2.1] rfl) ?_
  refine HK_more [5] (by kernel_rfl) rfl (fun _ => hR) ⟨⟨_, rfl, Or.inl ⟨rfl, ?_⟩⟩, trivial⟩
  replace H := headE H
  obtain ⟨u11, hu11, H⟩ := H
  obtain ⟨F1, hA, hB⟩ := hH.take [3] (by decide)
  dsimp only [addC, setC, rmC, selC, getC] at hA
  skip
  refine o_call (args := #[.pointer (some ⟨b4, 0, none⟩), .int .i64 (IntKind.i64.wrap (u6.2.1 + 1))]) Try.func112 rfl rfl rfl (spec_l1Cur_pick.ok sb s9 F1 b4 A0p c0p p0 u6.2.2.2.2.2.1 u6.2.2.2.2.2.2 (IntKind.i64.wrap (u6.2.1 + 1)) HRp0 hA _ hu11) ?_
  rintro _ s11 ⟨rfl, hD⟩
  replace hH := hB _ _ _ (Up.refl _ _ _) hD
  clear hD hA hB
  refine HK_free (by kernel_rfl) ?_
  try dsimp only [putL, setL, evL, getL]
  refine HX_lim (R := fun _ => True) (k := 0) (fun s' => Gro s11 s') 7 ?_
  have hR := Gro.refl s11
  have hH0 := hH
  refine HK_more [7] (by kernel_rfl) rfl (fun _ => hR) ⟨⟨_, rfl, Or.inl ⟨rfl, ?_⟩⟩, trivial⟩
  replace H := headE H
  obtain ⟨u12, hu12, H⟩ := H
  obtain ⟨F1, hA, hB⟩ := hH.take [5] (by decide)
  dsimp only [addC, setC, rmC, selC, getC] at hA
  skip
  refine o_call (args := #[.pointer (some ⟨b4, 0, none⟩), .int .i64 20]) Try.func112 rfl rfl rfl (spec_l1Cur_pick.ok sb s11 F1 b4 A0p c0p p0 u11.2.1 u11.2.2 20 HRp0 hA _ hu12) ?_
  rintro _ s12 ⟨rfl, hD⟩
  replace hH := hB _ _ _ (Up.refl _ _ _) hD
  clear hD hA hB
  refine HK_free (by kernel_rfl) ?_
  try dsimp only [putL, setL, evL, getL]
  refine HX_lim (R := fun _ => True) (k := 0) (fun s' => Gro s12 s') 10 ?_
  have hR := Gro.refl s12
  have hH0 := hH
  replace H := headE H
  obtain ⟨u13, hu13, H⟩ := H
  refine HK_readP 8 (v := .int .i64 u13) rfl (by kernel_rfl) hQp rfl (fun s' K hK => o_quo' rfl rfl hu13 hK) rfl rfl (fun _ => hR) ?_
  refine HK_readP 9 (v := .int .i64 (IntKind.i64.wrap (u11.1 - u13))) rfl (by kernel_rfl) hQp rfl (fun s' K hK => o_bin rfl rfl rfl hK) rfl rfl (fun _ => hR) ?_
  try dsimp only [putL, setL, evL, getL]
  refine HK_more [10] (by kernel_rfl) rfl (fun _ => hR) ⟨⟨_, rfl, Or.inl ⟨rfl, ?_⟩⟩, trivial⟩
  skip
  refine o_stvH (vs := [.int .i64 u6.1, .int .i64 u6.2.1, .slice A7 u6.2.2.1.length c7, .int .i64 u6.2.2.2.1, .int .i64 u6.2.2.2.2.1]) (us' := [.int .i64 u6.1, .int .i64 u6.2.1, .slice A7 u6.2.2.1.length c7, .int .i64 u6.2.2.2.1, .int .i64 u6.2.2.2.2.1]) hH 0 rfl rfl rfl rfl rfl tI66 rfl (List.cons_ne_nil _ _) rfl rfl rfl ?_
  clear hH
  intro s14 hH
  refine HK_free (by kernel_rfl) ?_
  refine HX_lim (R := fun _ => True) (k := 0) (fun s' => Gro s14 s') 13 ?_
  have hR := Gro.refl s14
  have hH0 := hH
  try dsimp only [putL, setL, evL, getL]
  refine HK_more [11] (by kernel_rfl) rfl (fun _ => hR) ⟨⟨_, rfl, Or.inl ⟨rfl, ?_⟩⟩, trivial⟩
  skip
  refine o_assign ?_
  refine HK_done (fun _ => hR) (by kernel_rfl) ?_
  refine hK10 _ _ ?_
  try dsimp only [putL, setL, evL, getL]
  refine HT_ret ?_
  exact hQr _ _ [.agg #[.int .i64 u6.1, .int .i64 u6.2.1, .slice A7 u6.2.2.1.length c7, .int .i64 u6.2.2.2.1, .int .i64 u6.2.2.2.2.1], .int .i64 (IntKind.i64.wrap (u11.1 - u13))] _ ⟨ResV.cells rfl Try.underlying66 rfl tI66 (hH.var 0 rfl) rfl, rfl, trivial⟩ H ⟨A7, c7, rfl, hH.sel [2] (by decide)⟩
 ·replace H := headE H
  obtain ⟨u15, hu15, H⟩ := H
  obtain ⟨F1, hA, hB⟩ := hH.take [3] (by decide)
  dsimp only [addC, setC, rmC, selC, getC] at hA
  skip
  refine o_call (args := #[.pointer (some ⟨b4, 0, none⟩), .int .i64 (IntKind.i64.wrap (u6.2.1 + 1))]) Try.func112 rfl rfl rfl (spec_l1Cur_pick.ok sb s9 F1 b4 A0p c0p p0 u6.2.2.2.2.2.1 u6.2.2.2.2.2.2 (IntKind.i64.wrap (u6.2.1 + 1)) HRp0 hA _ hu15) ?_
  rintro _ s15 ⟨rfl, hD⟩
  replace hH := hB _ _ _ (Up.refl _ _ _) hD
  clear hD hA hB
  refine HK_free (by kernel_rfl) ?_
  refine HX_lim (R := fun _ => True) (k := 0) (fun s' => Gro s15 s') 7 ?_
  have hR := Gro.refl s15
  have hH0 := hH
  refine HK_more [0, 7] (by kernel_rfl) rfl (fun _ => hR) ⟨⟨_, rfl, Or.inl ⟨rfl, ?_⟩⟩, ⟨_, rfl, Or.inl ⟨rfl, ?_⟩⟩, trivial⟩
  ·skip
   refine o_loads' [.int .i64 u6.1, .int .i64 u6.2.1, .slice A7 u6.2.2.1.length c7, .int .i64 u6.2.2.2.1, .int .i64 u6.2.2.2.2.1] rfl Try.underlying66 rfl tI66 rfl (hH.partv 4 rfl (0) [.int .i64 u6.1, .int .i64 u6.2.1, .slice A7 u6.2.2.1.length c7, .int .i64 u6.2.2.2.1, .int .i64 u6.2.2.2.2.1] rfl) ?_
   try dsimp only [putL, setL, evL, getL]
   refine HK_more [7] (by kernel_rfl) rfl (fun _ => hR) ⟨⟨_, rfl, Or.inl ⟨rfl, ?_⟩⟩, trivial⟩
   replace H := headE H
   obtain ⟨u16, hu16, H⟩ := H
   obtain ⟨F1, hA, hB⟩ := hH.take [5] (by decide)
   dsimp only [addC, setC, rmC, selC, getC] at hA
   skip
   refine o_call (args := #[.pointer (some ⟨b4, 0, none⟩), .int .i64 20]) Try.func112 rfl rfl rfl (spec_l1Cur_pick.ok sb s15 F1 b4 A0p c0p p0 u15.2.1 u15.2.2 20 HRp0 hA _ hu16) ?_
   rintro _ s16 ⟨rfl, hD⟩
   replace hH := hB _ _ _ (Up.refl _ _ _) hD
   clear hD hA hB
   refine HK_free (by kernel_rfl) ?_
   refine HX_lim (R := fun _ => True) (k := 0) (fun s' => Gro s16 s') 10 ?_
   have hR := Gro.refl s16
   have hH0 := hH
   replace H := headE H
   obtain ⟨u17, hu17, H⟩ := H
   try dsimp only [putL, setL, evL, getL]
   refine HK_readP 8 (v := .int .i64 u17) rfl (by kernel_rfl) hQp rfl (fun s' K hK => o_quo' rfl rfl hu17 hK) rfl rfl (fun _ => hR) ?_
   refine HK_readP 9 (v := .int .i64 (IntKind.i64.wrap (u15.1 - u17))) rfl (by kernel_rfl) hQp rfl (fun s' K hK => o_bin rfl rfl rfl hK) rfl rfl (fun _ => hR) ?_
   refine HK_more [10] (by kernel_rfl) rfl (fun _ => hR) ⟨⟨_, rfl, Or.inl ⟨rfl, ?_⟩⟩, trivial⟩
   skip
   refine o_stvH (vs := [.int .i64 u6.1, .int .i64 u6.2.1, .slice A7 u6.2.2.1.length c7, .int .i64 u6.2.2.2.1, .int .i64 u6.2.2.2.2.1]) (us' := [.int .i64 u6.1, .int .i64 u6.2.1, .slice A7 u6.2.2.1.length c7, .int .i64 u6.2.2.2.1, .int .i64 u6.2.2.2.2.1]) hH 0 rfl rfl rfl rfl rfl tI66 rfl (List.cons_ne_nil _ _) rfl rfl rfl ?_
   clear hH
   intro s18 hH
   try dsimp only [putL, setL, evL, getL]
   refine HK_free (by kernel_rfl) ?_
   refine HX_lim (R := fun _ => True) (k := 0) (fun s' => Gro s18 s') 13 ?_
   have hR := Gro.refl s18
   have hH0 := hH
   refine HK_more [11] (by kernel_rfl) rfl (fun _ => hR) ⟨⟨_, rfl, Or.inl ⟨rfl, ?_⟩⟩, trivial⟩
   skip
   refine o_assign ?_
   try dsimp only [putL, setL, evL, getL]
   refine HK_done (fun _ => hR) (by kernel_rfl) ?_
   refine hK10 _ _ ?_
   try dsimp only [putL, setL, evL, getL]
   refine HT_ret ?_
   exact hQr _ _ [.agg #[.int .i64 u6.1, .int .i64 u6.2.1, .slice A7 u6.2.2.1.length c7, .int .i64 u6.2.2.2.1, .int .i64 u6.2.2.2.2.1], .int .i64 (IntKind.i64.wrap (u15.1 - u17))] _ ⟨ResV.cells rfl Try.underlying66 rfl tI66 (hH.var 0 rfl) rfl, rfl, trivial⟩ H ⟨A7, c7, rfl, hH.sel [2] (by decide)⟩
  ·replace H := headE H
   obtain ⟨u19, hu19, H⟩ := H
   obtain ⟨F1, hA, hB⟩ := hH.take [5] (by decide)
   dsimp only [addC, setC, rmC, selC, getC] at hA
   skip
   refine o_call (args := #[.pointer (some ⟨b4, 0, none⟩), .int .i64 20]) Try.func112 rfl rfl rfl (spec_l1Cur_pick.ok sb s15 F1 b4 A0p c0p p0 u15.2.1 u15.2.2 20 HRp0 hA _ hu19) ?_
   rintro _ s19 ⟨rfl, hD⟩
   replace hH := hB _ _ _ (Up.refl _ _ _) hD
   clear hD hA hB
   refine HK_free (by kernel_rfl) ?_
   refine HX_lim (R := fun _ => True) (k := 0) (fun s' => Gro s19 s') 10 ?_
   have hR := Gro.refl s19
   have hH0 := hH
   refine HK_read 0 (v := .agg #[.int .i64 u6.1, .int .i64 u6.2.1, .slice A7 u6.2.2.1.length c7, .int .i64 u6.2.2.2.1, .int .i64 u6.2.2.2.2.1]) rfl (by kernel_rfl) hQp rfl (fun s' hR' K hK => o_loads' [.int .i64 u6.1, .int .i64 u6.2.1, .slice A7 u6.2.2.1.length c7, .int .i64 u6.2.2.2.1, .int .i64 u6.2.2.2.2.1] rfl Try.underlying66 rfl tI66 rfl (fun j v hj => has_gro hR' ((hH0.partv 4 rfl (0) [.int .i64 u6.1, .int .i64 u6.2.1, .slice A7 u6.2.2.1.length c7, .int .i64 u6.2.2.2.1, .int .i64 u6.2.2.2.2.1] rfl) j v hj)) hK) rfl rfl hR ?_
   replace H := headE H
   obtain ⟨u20, hu20, H⟩ := H
   try dsimp only [putL, setL, evL, getL]
   refine HK_readP 8 (v := .int .i64 u20) rfl (by kernel_rfl) hQp rfl (fun s' K hK => o_quo' rfl rfl hu20 hK) rfl rfl (fun _ => hR) ?_
   refine HK_readP 9 (v := .int .i64 (IntKind.i64.wrap (u15.1 - u20))) rfl (by kernel_rfl) hQp rfl (fun s' K hK => o_bin rfl rfl rfl hK) rfl rfl (fun _ => hR) ?_
   refine HK_more [10] (by kernel_rfl) rfl (fun _ => hR) ⟨⟨_, rfl, Or.inl ⟨rfl, ?_⟩⟩, trivial⟩
   skip
   refine o_stvH (vs := [.int .i64 u6.1, .int .i64 u6.2.1, .slice A7 u6.2.2.1.length c7, .int .i64 u6.2.2.2.1, .int .i64 u6.2.2.2.2.1]) (us' := [.int .i64 u6.1, .int .i64 u6.2.1, .slice A7 u6.2.2.1.length c7, .int .i64 u6.2.2.2.1, .int .i64 u6.2.2.2.2.1]) hH 0 rfl rfl rfl rfl rfl tI66 rfl (List.cons_ne_nil _ _) rfl rfl rfl ?_
   clear hH
   intro s21 hH
   try dsimp only [putL, setL, evL, getL]
   refine HK_free (by kernel_rfl) ?_
   refine HX_lim (R := fun _ => True) (k := 0) (fun s' => Gro s21 s') 13 ?_
   have hR := Gro.refl s21
   have hH0 := hH
   refine HK_more [11] (by kernel_rfl) rfl (fun _ => hR) ⟨⟨_, rfl, Or.inl ⟨rfl, ?_⟩⟩, trivial⟩
   skip
   refine o_assign ?_
   try dsimp only [putL, setL, evL, getL]
   refine HK_done (fun _ => hR) (by kernel_rfl) ?_
   refine hK10 _ _ ?_
   try dsimp only [putL, setL, evL, getL]
   refine HT_ret ?_
   exact hQr _ _ [.agg #[.int .i64 u6.1, .int .i64 u6.2.1, .slice A7 u6.2.2.1.length c7, .int .i64 u6.2.2.2.1, .int .i64 u6.2.2.2.2.1], .int .i64 (IntKind.i64.wrap (u15.1 - u20))] _ ⟨ResV.cells rfl Try.underlying66 rfl tI66 (hH.var 0 rfl) rfl, rfl, trivial⟩ H ⟨A7, c7, rfl, hH.sel [2] (by decide)⟩
def slices_Clone_int_int.f (p0 : List (Int)) : Option (List (Int)) := app? 17592186044416 [] p0
def slices_Clone_int_int.post (sb s : St) (F0 : Fp) (r : List (Int)) : Value → St → Prop := fun v s' => ∃ (A0 : Option Addr) (c0 : Nat), v = .slice A0 r.length c0 ∧ Hp sb s F0 s' [Ck.ol OI 3 A0 c0 r]
set_option maxRecDepth 100000 in
set_option maxHeartbeats 4000000 in
theorem slices_Clone_int_int.ok (sb s : St) (F0 : Fp) (A0p : Option Addr) (c0p : Nat) (p0 : List (Int)) (HRp0 : Rd KI sb A0p c0p p0) (hH : Hp sb s F0 s []) (r : List (Int)) (H : slices_Clone_int_int.f p0 = some r) : GCall Try.prog 141 #[.slice A0p p0.length c0p] s (slices_Clone_int_int.post sb s F0 r) := by
 refine GCall_ofk [.tmp 2] [.slice A0p p0.length c0p, undef, undef, undef, undef, undef, undef, undef] Try.func141 rfl rfl rfl ?_
 intro w Q hQr hQn hQp
 unfold slices_Clone_int_int.f at H
 refine HT_seq_k ?_
 intro K1 hK1
 refine HT_region ?_
 refine HL_cons rfl ?_
 refine o_assign ?_
 refine HL_nil ?_
 refine hK1 _ _ ?_
 refine HT_seq_k ?_
 intro K2 hK2
 refine HT_seq_k ?_
 intro K3 hK3
 refine HT_region ?_
 refine HL_cons rfl ?_
 refine o_move ?_
 dsimp only [putL, setL, evL, getL]
 refine HL_cons rfl ?_
 refine o_eqN rfl rfl Try.underlying24 ?_
 dsimp only [putL, setL, evL, getL]
 refine HL_nil ?_
 refine hK3 _ _ ?_
 cases A0p with
 | none =>
  have hp : p0 = [] := by
   by_cases h : p0 = []
   ·exact h
   ·obtain ⟨b, o, hA, _⟩ := HRp0.2.2 h
    cases hA
  subst hp
  obtain ⟨_, rfl⟩ := app?_some H
  refine HT_true rfl ?_
  refine HT_seq_k ?_
  intro K4 hK4
  refine HT_region ?_
  refine HL_cons rfl ?_
  refine o_assign ?_
  dsimp only [putL, setL, evL, getL]
  refine HL_nil ?_
  refine hK4 _ _ ?_
  refine HT_ret ?_
  exact hQr _ _ [.slice none 0 0] ⟨rfl, trivial⟩ ⟨none, 0, rfl, hH.nil (K := KI) OI 3⟩
 | some a =>
  refine HT_false rfl ?_
  refine HT_skip ?_
  refine hK2 _ _ ?_
  refine HT_seq_k ?_
  intro K4 hK4
  refine HT_region ?_
  refine HL_cons rfl ?_
  refine o_lit0H (α := Int) (K := KI) (O := OI) hH Try.underlying24 tI3 ?_
  intro A1 s1 hH hG
  dsimp only [putL, setL, evL, getL]
  refine HL_cons rfl ?_
  refine o_move ?_
  dsimp only [putL, setL, evL, getL]
  refine HL_cons rfl ?_
  refine o_appF (n := 17592186044416) (A := A1) (c := 0) (xs := ([] : List (Int))) (ys := p0) (B := some a) (c2 := c0p) hH 0 rfl rfl rfl rfl Try.underlying24 tI3 rfl (by decide) (by decide) (by decide) (Src.flat (HRp0.mono hH.bs.mono)) H ?_
  intro A2 c2 s2 hH
  dsimp only [putL, setL, evL, getL]
  refine HL_cons rfl ?_
  refine o_assign ?_
  dsimp only [putL, setL, evL, getL]
  refine HL_nil ?_
  refine hK4 _ _ ?_
  refine HT_ret ?_
  exact hQr _ _ [.slice A2 r.length c2] ⟨rfl, trivial⟩ ⟨A2, c2, rfl, hH⟩
def impl_Screen_rowOf.l1 : Nat → (List (Int)) → Option (List (Int))
 | 0, _ => none
 | kf + 1, x89 => (if (decide ((x89.length : Int) > 0)) = true then ((rd? x89 (IntKind.i64.wrap ((x89.length : Int) - 1))).bind fun u126 => some (u126 == 32)) else (some false)).bind fun (o : Bool) => match o with | x124 => (if x124 = true then ((cut? x89 0 (IntKind.i64.wrap ((x89.length : Int) - 1))).bind fun x129 => impl_Screen_rowOf.l1 kf x129) else (some x89))
def impl_Screen_rowOf.f (p0_0 : Int) (p0_1 : Int) (p0_2 : List (Int)) (p0_3 : Int) (p0_4 : Int) (p1 : Int) : Option (List (Int)) := (impl_Screen_row.f p0_0 p0_1 p0_2 p0_3 p0_4 p1).bind fun u4 => (slices_Clone_int_int.f u4).bind fun u6 => (impl_Screen_rowOf.l1 ((((u6.length : Int)) - (0)).toNat + 2) u6).bind fun (o : (List (Int))) => match o with | x69 => ((slices_Clone_int_int.f x69).bind fun u132 => some u132)
def impl_Screen_rowOf.post (sb s : St) (F0 : Fp) (r : (List (Int))) : Value → St → Prop := fun v s' => ∃ (A0 : Option Addr) (c0 : Nat), v = .slice A0 r.length c0 ∧ Hp sb s F0 s' [Ck.ol OI 3 A0 c0 r]
set_option maxRecDepth 100000 in
set_option maxHeartbeats 4000000 in
theorem impl_Screen_rowOf.ok (sb s : St) (F0 : Fp) (p0_0 : Int) (p0_1 : Int) (A0_2p : Option Addr) (c0_2p : Nat) (p0_2 : List (Int)) (p0_3 : Int) (p0_4 : Int) (p1 : Int) (HRp0_2 : Rd KI sb A0_2p c0_2p p0_2) (hH : Hp sb s F0 s []) (r : (List (Int))) (H : impl_Screen_rowOf.f p0_0 p0_1 p0_2 p0_3 p0_4 p1 = some r) : GCall Try.prog 167 #[.agg #[.int .i64 p0_0, .int .i64 p0_1, .slice A0_2p p0_2.length c0_2p, .int .i64 p0_3, .int .i64 p0_4], .int .i64 p1] s (impl_Screen_rowOf.post sb s F0 r) := by
 refine GCall_ofr (impl_Screen_rowOf.post sb s F0) [.tmp 4] (ud [.agg #[.int .i64 p0_0, .int .i64 p0_1, .slice A0_2p p0_2.length c0_2p, .int .i64 p0_3, .int .i64 p0_4], .int .i64 p1] 27) Try.func167 rfl rfl rfl fun w Q hQr hQn hQp => ?_
 replace H := topE H
 unfold impl_Screen_rowOf.f at H
 dsimp only [ud, un]
 refine sr fun K1 hK1 => hc (o_boxH hH rfl ?_)
 clear hH
 intro b2 s2 hH _
 refine ag (HL_nil (hK1 _ _ ?_))
 dsimp only [putL, setL, evL, getL]
 refine sr fun K3 hK3 => hc (o_loads' [.int .i64 p0_0, .int .i64 p0_1, .slice A0_2p p0_2.length c0_2p, .int .i64 p0_3, .int .i64 p0_4] rfl Try.underlying66 rfl tI66 rfl (hH.partv 0 rfl (0) [.int .i64 p0_0, .int .i64 p0_1, .slice A0_2p p0_2.length c0_2p, .int .i64 p0_3, .int .i64 p0_4] rfl) (mv ?_))
 replace H := headE H
 obtain ⟨u4, hu4, H⟩ := H
 refine hc (o_call (args := #[.agg #[.int .i64 p0_0, .int .i64 p0_1, .slice A0_2p p0_2.length c0_2p, .int .i64 p0_3, .int .i64 p0_4], .int .i64 p1]) Try.func166 rfl rfl rfl (impl_Screen_row.ok sb s2 no p0_0 p0_1 A0_2p c0_2p p0_2 p0_3 p0_4 p1 HRp0_2 (Hp.own hH.bs) _ hu4) ?_)
 rintro _ s4 ⟨A5, c5, rfl, hD, D5⟩
 replace hH := hH.back0 hD (Up.refl _ _ _)
 clear hD
 replace H := headE H
 obtain ⟨u6, hu6, H⟩ := H
 try dsimp only [putL, setL, evL, getL]
 refine hc (o_call (args := #[.slice A5 u4.length c5]) Try.func141 rfl rfl rfl (slices_Clone_int_int.ok sb s4 no A5 c5 u4 D5 (Hp.own hH.bs) _ hu6) ?_)
 rintro _ s6 ⟨A7, c7, rfl, hD⟩
 replace hH := hH.back0 hD (Up.refl _ _ _)
 clear hD
 refine ag (HL_nil (hK3 _ _ ?_))
 dsimp only [putL, setL, evL, getL]
 refine joinH H fun G8 hG8 H => ?_
 refine HT_joinK (fun l' s' => ∃ (x69 : List (Int)) (A69 : Option Addr) (c69 : Nat), G8 x69 = some r ∧ skim [5] l' = ([.slice A69 x69.length c69], 24) ∧ Hp sb s F0 s' [Ck.ol OI 3 A69 c69 x69]) ?_ ?_
 ·intro K8 hK8
  refine HT_block ?_
  refine HT_loopK (fun kf l' s' => ∃ (x89 : List (Int)) (A89 : Option Addr) (c89 : Nat), (impl_Screen_rowOf.l1 kf x89).bind G8 = some r ∧ skim [5] l' = ([.slice A89 x89.length c89], 24) ∧ Hp sb s F0 s' [Ck.ol OI 3 A89 c89 x89]) ((((u6.length : Int)) - (0)).toNat + 2) ⟨u6, A7, c7, H, rfl, hH.sel [1] (by decide)⟩ ?_
  rintro kf l' s110 ⟨x89, A89, c89, H, hl, hH⟩ K110 hK110
  revert l'
  refine skA ?_
  dsimp only [Al, Sk]
  intros
  cases kf with
  | zero => simp [impl_Screen_rowOf.l1] at H
  | succ kf =>
   rw [impl_Screen_rowOf.l1] at H
   refine HT_seq_k fun K120 hK120 => ?_
   refine joinH H fun G121 hG121 H => ?_
   refine HT_joinK (fun l' s' => ∃ (x124 : Bool), G121 x124 = some r ∧ skim [5, 15] l' = ([.slice A89 x89.length c89, .bool x124], 8) ∧ Hp sb s F0 s' [Ck.ol OI 3 A89 c89 x89]) ?_ ?_
   ·intro K121 hK121
    refine HT_region ?_
    refine mv (hc (o_len rfl Try.underlying24 (bn rfl rfl rfl ?_)))
    dsimp only [putL, setL, evL, getL]
    refine mv ?_
    revert H
    refine it (fun hb125 H => ?_) (fun hb125 H => ?_)
    ·refine wt rfl rfl rfl rfl hb125 (o_move (wt rfl rfl rfl rfl hb125 (o_move ?_)))
     dsimp only [putL, setL, evL, getL]
     refine wt rfl rfl rfl rfl hb125 (o_len rfl Try.underlying24 (wt rfl rfl rfl rfl hb125 (o_bin rfl rfl rfl ?_)))
     replace H := headE H
     obtain ⟨u126, hu126, H⟩ := H
     obtain ⟨b126, o126, cs126, hA126, hr126, hh126, hel126⟩ := hH.elo 0 rfl hu126
     obtain rfl := hr126
     refine wt rfl rfl rfl rfl hb125 (hel126 s110 rfl rfl Try.underlying24 tI3 ?_)
     dsimp only [putL, setL, evL, getL]
     refine wt rfl rfl rfl rfl hb125 (o_load' rfl Try.underlying3 rfl (hh126 0 _ rfl) (wt rfl rfl rfl rfl hb125 (o_bin rfl rfl rfl (hc (o_pickT rfl hb125 (HL_nil ?_))))))
     exact hK121 _ _ ⟨u126 == 32, H, rfl, hH⟩
    ·refine wf rfl rfl rfl rfl hb125 ?_
     dsimp only [putL, setL, evL, getL]
     refine wf rfl rfl rfl rfl hb125 (wf rfl rfl rfl rfl hb125 (wf rfl rfl rfl rfl hb125 ?_))
     dsimp only [putL, setL, evL, getL]
     refine wf rfl rfl rfl rfl hb125 (wf rfl rfl rfl rfl hb125 (wf rfl rfl rfl rfl hb125 ?_))
     dsimp only [putL, setL, evL, getL]
     refine hc (o_pickF rfl hb125 (HL_nil ?_))
     exact hK121 _ _ ⟨false, H, rfl, hH⟩
   ·rintro l' s127 ⟨x124, H, hl, hH⟩
    revert l'
    refine skA ?_
    dsimp only [Al, Sk]
    intros
    replace H := hG121 _ H
    try dsimp only at H
    revert H
    refine ct rfl (fun hb128 H => ?_) (fun hb128 H => ?_)
    ·refine HT_skip (hK120 _ _ (HT_block ?_))
     refine HT_region ?_
     refine mv (mv ?_)
     dsimp only [putL, setL, evL, getL]
     refine hc (o_len rfl Try.underlying24 (bn rfl rfl rfl ?_))
     replace H := headE H
     obtain ⟨x129, hx129, H⟩ := H
     refine hc (o_cutA (xs := x89) (kl := .i64) (kh := .i64) (L := 0) (H := IntKind.i64.wrap ((x89.length : Int) - 1)) rfl rfl rfl Try.underlying24 tI3 (hH.rd 0 rfl).1 hx129 ?_)
     have D129 := @Der.cut _ _ OI 3 A89 c89 _ _ _ _ hx129
     try dsimp only [putL, setL, evL, getL]
     refine ag (HL_nil ?_)
     exact hK110 _ _ ⟨kf, Nat.lt_succ_self kf, x129, (cutA A89 c89 (Int.toNat 0) (Kd.sz KI)), c89 - Int.toNat 0, H, rfl, (hH.cut 0 rfl rfl hx129)⟩
    ·refine HT_exit ?_
     exact hK8 _ _ ⟨x89, A89, c89, H, rfl, hH⟩
 ·rintro l' s130 ⟨x69, A69, c69, H, hl, hH⟩
  revert l'
  refine skA ?_
  dsimp only [Al, Sk]
  intros
  replace H := hG8 _ H
  try dsimp only at H
  refine sr fun K131 hK131 => mv ?_
  replace H := headE H
  obtain ⟨u132, hu132, H⟩ := H
  refine hc (o_call (args := #[.slice A69 x69.length c69]) Try.func141 rfl rfl rfl (slices_Clone_int_int.ok s130 s130 no A69 c69 x69 (hH.rd 0 rfl) (Hp.own (Bs.refl s130)) _ hu132) ?_)
  rintro _ s132 ⟨A133, c133, rfl, hD⟩
  replace hH := hH.back0T hD
  clear hD
  try dsimp only [putL, setL, evL, getL]
  refine ag (HL_nil (hK131 _ _ ?_))
  dsimp only [putL, setL, evL, getL]
  refine HT_ret ?_
  exact hQr _ _ [.slice A133 u132.length c133] _ ⟨rfl, trivial⟩ H ⟨A133, c133, rfl, hH.sel [1] (by decide)⟩
def impl_RowOf.f (p0_0 : Int) (p0_1 : Int) (p0_2 : List (Int)) (p0_3 : Int) (p0_4 : Int) (p1 : Int) : Option ((List (Int)) × Bool) := ((impl_GoodScreen.f p0_0 p0_1 p0_2 p0_3 p0_4).bind fun u21 => if (!u21) = true then (some true) else ((impl_isPlace.f p1 p0_1).bind fun u23 => some (!u23))).bind fun (o : Bool) => match o with | x20 => (if x20 = true then (some ([], false)) else ((impl_Screen_rowOf.f p0_0 p0_1 p0_2 p0_3 p0_4 p1).bind fun u28 => some (u28, true)))
def impl_RowOf.post (sb s : St) (F0 : Fp) (r : (List (Int)) × Bool) : Value → St → Prop := fun v s' => ∃ (A0 : Option Addr) (c0 : Nat), v = .tuple #[.slice A0 r.1.length c0, .bool r.2] ∧ Hp sb s F0 s' [Ck.ol OI 3 A0 c0 r.1]
set_option maxRecDepth 100000 in
set_option maxHeartbeats 4000000 in
theorem impl_RowOf.ok (sb s : St) (F0 : Fp) (p0_0 : Int) (p0_1 : Int) (A0_2p : Option Addr) (c0_2p : Nat) (p0_2 : List (Int)) (p0_3 : Int) (p0_4 : Int) (p1 : Int) (HRp0_2 : Rd KI sb A0_2p c0_2p p0_2) (hH : Hp sb s F0 s []) (r : (List (Int)) × Bool) (H : impl_RowOf.f p0_0 p0_1 p0_2 p0_3 p0_4 p1 = some r) : GCall Try.prog 82 #[.agg #[.int .i64 p0_0, .int .i64 p0_1, .slice A0_2p p0_2.length c0_2p, .int .i64 p0_3, .int .i64 p0_4], .int .i64 p1] s (impl_RowOf.post sb s F0 r) := by
 refine GCall_ofr (impl_RowOf.post sb s F0) [.tmp 4, .tmp 5] (ud [.agg #[.int .i64 p0_0, .int .i64 p0_1, .slice A0_2p p0_2.length c0_2p, .int .i64 p0_3, .int .i64 p0_4], .int .i64 p1] 17) Try.func82 rfl rfl rfl fun w Q hQr hQn hQp => ?_
 replace H := topE H
 unfold impl_RowOf.f at H
 dsimp only [ud, un]
 refine sr fun K1 hK1 => hc (o_boxH hH rfl ?_)
 clear hH
 intro b2 s2 hH _
 refine ag (ag (HL_nil (hK1 _ _ ?_)))
 dsimp only [putL, setL, evL, getL]
 refine HT_seq_k fun K15 hK15 => ?_
 refine joinH H fun G16 hG16 H => ?_
 refine HT_joinK (fun l' s' => ∃ (x20 : Bool), G16 x20 = some r ∧ skim [1, 0, 12] l' = ([.int .i64 p1, .pointer (some ⟨b2, 0, none⟩), .bool x20], 4) ∧ Hp sb s F0 s' [Ck.ov b2 [.int .i64 p0_0, .int .i64 p0_1, .slice A0_2p p0_2.length c0_2p, .int .i64 p0_3, .int .i64 p0_4] 66]) ?_ ?_
 ·intro K16 hK16
  refine HT_region ?_
  refine hc (o_loads' [.int .i64 p0_0, .int .i64 p0_1, .slice A0_2p p0_2.length c0_2p, .int .i64 p0_3, .int .i64 p0_4] rfl Try.underlying66 rfl tI66 rfl (hH.partv 0 rfl (0) [.int .i64 p0_0, .int .i64 p0_1, .slice A0_2p p0_2.length c0_2p, .int .i64 p0_3, .int .i64 p0_4] rfl) ?_)
  replace H := headE H
  obtain ⟨u21, hu21, H⟩ := H
  refine hc (o_call (args := #[.agg #[.int .i64 p0_0, .int .i64 p0_1, .slice A0_2p p0_2.length c0_2p, .int .i64 p0_3, .int .i64 p0_4]]) Try.func52 rfl rfl rfl (impl_GoodScreen.ok sb s2 no p0_0 p0_1 A0_2p c0_2p p0_2 p0_3 p0_4 HRp0_2 (Hp.own hH.bs) _ hu21) ?_)
  rintro _ s21 ⟨rfl, hD⟩
  replace hH := hH.back0 hD (Up.refl _ _ _)
  clear hD
  refine hc (o_not rfl ?_)
  dsimp only [putL, setL, evL, getL]
  refine mv ?_
  revert H
  refine it (fun hb22 H => ?_) (fun hb22 H => ?_)
  ·refine wf rfl rfl rfl rfl hb22 (wf rfl rfl rfl rfl hb22 ?_)
   dsimp only [putL, setL, evL, getL]
   refine wf rfl rfl rfl rfl hb22 (wf rfl rfl rfl rfl hb22 (wf rfl rfl rfl rfl hb22 ?_))
   dsimp only [putL, setL, evL, getL]
   refine hc (o_pickT rfl hb22 (HL_nil ?_))
   exact hK16 _ _ ⟨true, H, rfl, hH⟩
  ·refine wt rfl rfl rfl rfl hb22 (o_move (wt rfl rfl rfl rfl hb22 (o_faddr' (ft := 3) (off := 1) rfl Try.underlying66 rfl tI3 (by decide) ?_)))
   dsimp only [putL, setL, evL, getL]
   refine wt rfl rfl rfl rfl hb22 (o_load' rfl Try.underlying3 rfl (hH.hasv 0 rfl rfl) ?_)
   replace H := headE H
   obtain ⟨u23, hu23, H⟩ := H
   refine wt rfl rfl rfl rfl hb22 (o_call (args := #[.int .i64 p1, .int .i64 p0_1]) Try.func133 rfl rfl rfl (impl_isPlace.ok sb s21 no p1 p0_1 (Hp.own hH.bs) _ hu23) ?_)
   rintro _ s23 ⟨rfl, hD⟩
   replace hH := hH.back0 hD (Up.refl _ _ _)
   clear hD
   refine wt rfl rfl rfl rfl hb22 (o_not rfl ?_)
   dsimp only [putL, setL, evL, getL]
   refine hc (o_pickF rfl hb22 (HL_nil ?_))
   exact hK16 _ _ ⟨!u23, H, rfl, hH⟩
 ·rintro l' s24 ⟨x20, H, hl, hH⟩
  revert l'
  refine skA ?_
  dsimp only [Al, Sk]
  intros
  replace H := hG16 _ H
  try dsimp only at H
  revert H
  refine ct rfl (fun hb25 H => ?_) (fun hb25 H => ?_)
  ·refine sr fun K26 hK26 => ag (ag (HL_nil (hK26 _ _ ?_)))
   dsimp only [putL, setL, evL, getL]
   refine HT_ret ?_
   exact hQr _ _ [.slice none 0 0, .bool false] _ ⟨rfl, rfl, trivial⟩ H ⟨none, 0, rfl, (hH.nil (K := KI) OI 3).sel [1] (by decide)⟩
  ·refine HT_skip (hK15 _ _ (sr fun K27 hK27 => (hc (o_loads' [.int .i64 p0_0, .int .i64 p0_1, .slice A0_2p p0_2.length c0_2p, .int .i64 p0_3, .int .i64 p0_4] rfl Try.underlying66 rfl tI66 rfl (hH.partv 0 rfl (0) [.int .i64 p0_0, .int .i64 p0_1, .slice A0_2p p0_2.length c0_2p, .int .i64 p0_3, .int .i64 p0_4] rfl) (mv ?_)))))
   replace H := headE H
   obtain ⟨u28, hu28, H⟩ := H
   refine hc (o_call (args := #[.agg #[.int .i64 p0_0, .int .i64 p0_1, .slice A0_2p p0_2.length c0_2p, .int .i64 p0_3, .int .i64 p0_4], .int .i64 p1]) Try.func167 rfl rfl rfl (impl_Screen_rowOf.ok sb s24 no p0_0 p0_1 A0_2p c0_2p p0_2 p0_3 p0_4 p1 HRp0_2 (Hp.own hH.bs) _ hu28) ?_)
   rintro _ s28 ⟨A29, c29, rfl, hD⟩
   replace hH := hH.back0 hD (Up.refl _ _ _)
   clear hD
   try dsimp only [putL, setL, evL, getL]
   refine ag (ag (HL_nil (hK27 _ _ ?_)))
   dsimp only [putL, setL, evL, getL]
   refine HT_ret ?_
   exact hQr _ _ [.slice A29 u28.length c29, .bool true] _ ⟨rfl, rfl, trivial⟩ H ⟨A29, c29, rfl, hH.sel [1] (by decide)⟩
def spec_l16Row.l1 : Nat → (List (Int)) → Option (List (Int))
 | 0, _ => none
 | kf + 1, x86 => (if (decide ((x86.length : Int) > 0)) = true then ((rd? x86 (IntKind.i64.wrap ((x86.length : Int) - 1))).bind fun u123 => some (u123 == 32)) else (some false)).bind fun (o : Bool) => match o with | x121 => (if x121 = true then ((cut? x86 0 (IntKind.i64.wrap ((x86.length : Int) - 1))).bind fun x126 => spec_l16Row.l1 kf x126) else (some x86))
def spec_l16Row.f (p0_0 : Int) (p0_1 : Int) (p0_2 : List (Int)) (p0_3 : Int) (p0_4 : Int) (p1 : Int) : Option (List (Int)) := (cut? p0_2 (IntKind.i64.wrap (p1 * p0_0)) (IntKind.i64.wrap ((IntKind.i64.wrap (p1 + 1)) * p0_0))).bind fun x4 => (spec_l16Row.l1 ((((x4.length : Int)) - (0)).toNat + 2) x4).bind fun (o : (List (Int))) => match o with | x66 => ((spec_l1Own.f x66).bind fun u129 => some u129)
def spec_l16Row.post (sb s : St) (F0 : Fp) (r : (List (Int))) : Value → St → Prop := fun v s' => ∃ (A0 : Option Addr) (c0 : Nat), v = .slice A0 r.length c0 ∧ Hp sb s F0 s' [Ck.ol OI 3 A0 c0 r]
set_option maxRecDepth 100000 in
set_option maxHeartbeats 4000000 in
theorem spec_l16Row.ok (sb s : St) (F0 : Fp) (p0_0 : Int) (p0_1 : Int) (A0_2p : Option Addr) (c0_2p : Nat) (p0_2 : List (Int)) (p0_3 : Int) (p0_4 : Int) (p1 : Int) (HRp0_2 : Rd KI sb A0_2p c0_2p p0_2) (hH : Hp sb s F0 s []) (r : (List (Int))) (H : spec_l16Row.f p0_0 p0_1 p0_2 p0_3 p0_4 p1 = some r) : GCall Try.prog 168 #[.agg #[.int .i64 p0_0, .int .i64 p0_1, .slice A0_2p p0_2.length c0_2p, .int .i64 p0_3, .int .i64 p0_4], .int .i64 p1] s (spec_l16Row.post sb s F0 r) := by
 refine GCall_ofr (spec_l16Row.post sb s F0) [.tmp 4] (ud [.agg #[.int .i64 p0_0, .int .i64 p0_1, .slice A0_2p p0_2.length c0_2p, .int .i64 p0_3, .int .i64 p0_4], .int .i64 p1] 35) Try.func168 rfl rfl rfl fun w Q hQr hQn hQp => ?_
 replace H := topE H
 unfold spec_l16Row.f at H
 dsimp only [ud, un]
 refine sr fun K1 hK1 => hc (o_boxH hH rfl ?_)
 clear hH
 intro b2 s2 hH _
 refine ag (HL_nil (hK1 _ _ ?_))
 dsimp only [putL, setL, evL, getL]
 refine sr fun K3 hK3 => hc (o_faddr' (ft := 24) (off := 2) rfl Try.underlying66 rfl tI24 (by decide) (hc (o_load' rfl Try.underlying24 rfl (hH.hasv 0 rfl rfl) (mv ?_))))
 dsimp only [putL, setL, evL, getL]
 refine hc (o_faddr' (ft := 3) (off := 0) rfl Try.underlying66 rfl tI3 (by decide) (hc (o_load' rfl Try.underlying3 rfl (hH.hasv 0 rfl rfl) (bn rfl rfl rfl ?_))))
 dsimp only [putL, setL, evL, getL]
 refine mv (bn rfl rfl rfl (hc (o_faddr' (ft := 3) (off := 0) rfl Try.underlying66 rfl tI3 (by decide) ?_)))
 dsimp only [putL, setL, evL, getL]
 refine hc (o_load' rfl Try.underlying3 rfl (hH.hasv 0 rfl rfl) (bn rfl rfl rfl ?_))
 replace H := headE H
 obtain ⟨x4, hx4, H⟩ := H
 refine hc (o_cutA (xs := p0_2) (kl := .i64) (kh := .i64) (L := IntKind.i64.wrap (p1 * p0_0)) (H := IntKind.i64.wrap ((IntKind.i64.wrap (p1 + 1)) * p0_0)) rfl rfl rfl Try.underlying24 tI3 HRp0_2.1 hx4 ?_)
 have D4 := HRp0_2.cut hx4
 try dsimp only [putL, setL, evL, getL]
 refine ag (HL_nil (hK3 _ _ ?_))
 dsimp only [putL, setL, evL, getL]
 refine joinH H fun G5 hG5 H => ?_
 refine HT_joinK (fun l' s' => ∃ (x66 : List (Int)) (A66 : Option Addr) (c66 : Nat), G5 x66 = some r ∧ skim [5] l' = ([.slice A66 x66.length c66], 32) ∧ Hp sb s F0 s' [] ∧ Rd KI sb A66 c66 x66) ?_ ?_
 ·intro K5 hK5
  refine HT_block ?_
  refine HT_loopK (fun kf l' s' => ∃ (x86 : List (Int)) (A86 : Option Addr) (c86 : Nat), (spec_l16Row.l1 kf x86).bind G5 = some r ∧ skim [5] l' = ([.slice A86 x86.length c86], 32) ∧ Hp sb s F0 s' [] ∧ Rd KI sb A86 c86 x86) ((((x4.length : Int)) - (0)).toNat + 2) ⟨x4, (cutA A0_2p c0_2p (Int.toNat (IntKind.i64.wrap (p1 * p0_0))) (Kd.sz KI)), c0_2p - Int.toNat (IntKind.i64.wrap (p1 * p0_0)), H, rfl, hH.sel [] (by decide), D4⟩ ?_
  rintro kf l' s107 ⟨x86, A86, c86, H, hl, hH, D86⟩ K107 hK107
  revert l'
  refine skA ?_
  dsimp only [Al, Sk]
  intros
  cases kf with
  | zero => simp [spec_l16Row.l1] at H
  | succ kf =>
   rw [spec_l16Row.l1] at H
   refine HT_seq_k fun K117 hK117 => ?_
   refine joinH H fun G118 hG118 H => ?_
   refine HT_joinK (fun l' s' => ∃ (x121 : Bool), G118 x121 = some r ∧ skim [5, 23] l' = ([.slice A86 x86.length c86, .bool x121], 8) ∧ Hp sb s F0 s' []) ?_ ?_
   ·intro K118 hK118
    refine HT_region ?_
    refine mv (hc (o_len rfl Try.underlying24 (bn rfl rfl rfl ?_)))
    dsimp only [putL, setL, evL, getL]
    refine mv ?_
    revert H
    refine it (fun hb122 H => ?_) (fun hb122 H => ?_)
    ·refine wt rfl rfl rfl rfl hb122 (o_move (wt rfl rfl rfl rfl hb122 (o_move ?_)))
     dsimp only [putL, setL, evL, getL]
     refine wt rfl rfl rfl rfl hb122 (o_len rfl Try.underlying24 (wt rfl rfl rfl rfl hb122 (o_bin rfl rfl rfl ?_)))
     replace H := headE H
     obtain ⟨u123, hu123, H⟩ := H
     obtain ⟨b123, o123, cs123, hr123, hh123, hel123⟩ := Rd.elb D86 hu123
     obtain rfl := hr123
     refine wt rfl rfl rfl rfl hb122 (hel123 s107 rfl rfl Try.underlying24 tI3 ?_)
     dsimp only [putL, setL, evL, getL]
     refine wt rfl rfl rfl rfl hb122 (o_load' rfl Try.underlying3 rfl ((hh123 hH.bs.mono) 0 _ rfl) (wt rfl rfl rfl rfl hb122 (o_bin rfl rfl rfl (hc (o_pickT rfl hb122 (HL_nil ?_))))))
     exact hK118 _ _ ⟨u123 == 32, H, rfl, hH⟩
    ·refine wf rfl rfl rfl rfl hb122 ?_
     dsimp only [putL, setL, evL, getL]
     refine wf rfl rfl rfl rfl hb122 (wf rfl rfl rfl rfl hb122 (wf rfl rfl rfl rfl hb122 ?_))
     dsimp only [putL, setL, evL, getL]
     refine wf rfl rfl rfl rfl hb122 (wf rfl rfl rfl rfl hb122 (wf rfl rfl rfl rfl hb122 ?_))
     dsimp only [putL, setL, evL, getL]
     refine hc (o_pickF rfl hb122 (HL_nil ?_))
     exact hK118 _ _ ⟨false, H, rfl, hH⟩
   ·rintro l' s124 ⟨x121, H, hl, hH⟩
    revert l'
    refine skA ?_
    dsimp only [Al, Sk]
    intros
    replace H := hG118 _ H
    try dsimp only at H
    revert H
    refine ct rfl (fun hb125 H => ?_) (fun hb125 H => ?_)
    ·refine HT_skip (hK117 _ _ (HT_block ?_))
     refine HT_region ?_
     refine mv (mv ?_)
     dsimp only [putL, setL, evL, getL]
     refine hc (o_len rfl Try.underlying24 (bn rfl rfl rfl ?_))
     replace H := headE H
     obtain ⟨x126, hx126, H⟩ := H
     refine hc (o_cutA (xs := x86) (kl := .i64) (kh := .i64) (L := 0) (H := IntKind.i64.wrap ((x86.length : Int) - 1)) rfl rfl rfl Try.underlying24 tI3 D86.1 hx126 ?_)
     have D126 := D86.cut hx126
     try dsimp only [putL, setL, evL, getL]
     refine ag (HL_nil ?_)
     exact hK107 _ _ ⟨kf, Nat.lt_succ_self kf, x126, (cutA A86 c86 (Int.toNat 0) (Kd.sz KI)), c86 - Int.toNat 0, H, rfl, hH, D126⟩
    ·refine HT_exit ?_
     exact hK5 _ _ ⟨x86, A86, c86, H, rfl, hH, D86⟩
 ·rintro l' s127 ⟨x66, A66, c66, H, hl, hH, D66⟩
  revert l'
  refine skA ?_
  dsimp only [Al, Sk]
  intros
  replace H := hG5 _ H
  try dsimp only at H
  refine sr fun K128 hK128 => mv ?_
  replace H := headE H
  obtain ⟨u129, hu129, H⟩ := H
  refine hc (o_call (args := #[.slice A66 x66.length c66]) Try.func144 rfl rfl rfl (spec_l1Own.ok sb s127 no A66 c66 x66 D66 (Hp.own hH.bs) _ hu129) ?_)
  rintro _ s129 ⟨A130, c130, rfl, hD⟩
  replace hH := hH.back0 hD (Up.refl _ _ _)
  clear hD
  try dsimp only [putL, setL, evL, getL]
  refine ag (HL_nil (hK128 _ _ ?_))
  dsimp only [putL, setL, evL, getL]
  refine HT_ret ?_
  exact hQr _ _ [.slice A130 u129.length c130] _ ⟨rfl, trivial⟩ H ⟨A130, c130, rfl, hH⟩
def spec_RowOf.f (p0_0 : Int) (p0_1 : Int) (p0_2 : List (Int)) (p0_3 : Int) (p0_4 : Int) (p1 : Int) : Option ((List (Int)) × Bool) := ((spec_GoodScreen.f p0_0 p0_1 p0_2 p0_3 p0_4).bind fun u21 => if (!u21) = true then (some true) else ((spec_l1In.f p1 0 (IntKind.i64.wrap (p0_1 - 1))).bind fun u23 => some (!u23))).bind fun (o : Bool) => match o with | x20 => (if x20 = true then (some ([], false)) else ((spec_l16Row.f p0_0 p0_1 p0_2 p0_3 p0_4 p1).bind fun u28 => some (u28, true)))
def spec_RowOf.post (sb s : St) (F0 : Fp) (r : (List (Int)) × Bool) : Value → St → Prop := fun v s' => ∃ (A0 : Option Addr) (c0 : Nat), v = .tuple #[.slice A0 r.1.length c0, .bool r.2] ∧ Hp sb s F0 s' [Ck.ol OI 3 A0 c0 r.1]
set_option maxRecDepth 100000 in
set_option maxHeartbeats 4000000 in
theorem spec_RowOf.ok (sb s : St) (F0 : Fp) (p0_0 : Int) (p0_1 : Int) (A0_2p : Option Addr) (c0_2p : Nat) (p0_2 : List (Int)) (p0_3 : Int) (p0_4 : Int) (p1 : Int) (HRp0_2 : Rd KI sb A0_2p c0_2p p0_2) (hH : Hp sb s F0 s []) (r : (List (Int)) × Bool) (H : spec_RowOf.f p0_0 p0_1 p0_2 p0_3 p0_4 p1 = some r) : GCall Try.prog 83 #[.agg #[.int .i64 p0_0, .int .i64 p0_1, .slice A0_2p p0_2.length c0_2p, .int .i64 p0_3, .int .i64 p0_4], .int .i64 p1] s (spec_RowOf.post sb s F0 r) := by
 refine GCall_ofr (spec_RowOf.post sb s F0) [.tmp 4, .tmp 5] (ud [.agg #[.int .i64 p0_0, .int .i64 p0_1, .slice A0_2p p0_2.length c0_2p, .int .i64 p0_3, .int .i64 p0_4], .int .i64 p1] 18) Try.func83 rfl rfl rfl fun w Q hQr hQn hQp => ?_
 replace H := topE H
 unfold spec_RowOf.f at H
 dsimp only [ud, un]
 refine sr fun K1 hK1 => hc (o_boxH hH rfl ?_)
 clear hH
 intro b2 s2 hH _
 refine ag (ag (HL_nil (hK1 _ _ ?_)))
 dsimp only [putL, setL, evL, getL]
 refine HT_seq_k fun K15 hK15 => ?_
 refine joinH H fun G16 hG16 H => ?_
 refine HT_joinK (fun l' s' => ∃ (x20 : Bool), G16 x20 = some r ∧ skim [1, 0, 13] l' = ([.int .i64 p1, .pointer (some ⟨b2, 0, none⟩), .bool x20], 4) ∧ Hp sb s F0 s' [Ck.ov b2 [.int .i64 p0_0, .int .i64 p0_1, .slice A0_2p p0_2.length c0_2p, .int .i64 p0_3, .int .i64 p0_4] 66]) ?_ ?_
 ·intro K16 hK16
  refine HT_region ?_
  refine hc (o_loads' [.int .i64 p0_0, .int .i64 p0_1, .slice A0_2p p0_2.length c0_2p, .int .i64 p0_3, .int .i64 p0_4] rfl Try.underlying66 rfl tI66 rfl (hH.partv 0 rfl (0) [.int .i64 p0_0, .int .i64 p0_1, .slice A0_2p p0_2.length c0_2p, .int .i64 p0_3, .int .i64 p0_4] rfl) ?_)
  replace H := headE H
  obtain ⟨u21, hu21, H⟩ := H
  refine hc (o_call (args := #[.agg #[.int .i64 p0_0, .int .i64 p0_1, .slice A0_2p p0_2.length c0_2p, .int .i64 p0_3, .int .i64 p0_4]]) Try.func53 rfl rfl rfl (spec_GoodScreen.ok sb s2 no p0_0 p0_1 A0_2p c0_2p p0_2 p0_3 p0_4 HRp0_2 (Hp.own hH.bs) _ hu21) ?_)
  rintro _ s21 ⟨rfl, hD⟩
  replace hH := hH.back0 hD (Up.refl _ _ _)
  clear hD
  refine hc (o_not rfl ?_)
  dsimp only [putL, setL, evL, getL]
  refine mv ?_
  revert H
  refine it (fun hb22 H => ?_) (fun hb22 H => ?_)
  ·refine wf rfl rfl rfl rfl hb22 (wf rfl rfl rfl rfl hb22 ?_)
   dsimp only [putL, setL, evL, getL]
   refine wf rfl rfl rfl rfl hb22 (wf rfl rfl rfl rfl hb22 (wf rfl rfl rfl rfl hb22 ?_))
   dsimp only [putL, setL, evL, getL]
   refine wf rfl rfl rfl rfl hb22 (hc (o_pickT rfl hb22 (HL_nil ?_)))
   exact hK16 _ _ ⟨true, H, rfl, hH⟩
  ·refine wt rfl rfl rfl rfl hb22 (o_move ?_)
   dsimp only [putL, setL, evL, getL]
   refine wt rfl rfl rfl rfl hb22 (o_faddr' (ft := 3) (off := 1) rfl Try.underlying66 rfl tI3 (by decide) (wt rfl rfl rfl rfl hb22 (o_load' rfl Try.underlying3 rfl (hH.hasv 0 rfl rfl) (wt rfl rfl rfl rfl hb22 (o_bin rfl rfl rfl ?_)))))
   replace H := headE H
   obtain ⟨u23, hu23, H⟩ := H
   try dsimp only [putL, setL, evL, getL]
   refine wt rfl rfl rfl rfl hb22 (o_call (args := #[.int .i64 p1, .int .i64 0, .int .i64 (IntKind.i64.wrap (p0_1 - 1))]) Try.func108 rfl rfl rfl (spec_l1In.ok sb s21 no p1 0 (IntKind.i64.wrap (p0_1 - 1)) (Hp.own hH.bs) _ hu23) ?_)
   rintro _ s23 ⟨rfl, hD⟩
   replace hH := hH.back0 hD (Up.refl _ _ _)
   clear hD
   refine wt rfl rfl rfl rfl hb22 (o_not rfl (hc (o_pickF rfl hb22 (HL_nil ?_))))
   exact hK16 _ _ ⟨!u23, H, rfl, hH⟩
 ·rintro l' s24 ⟨x20, H, hl, hH⟩
  revert l'
  refine skA ?_
  dsimp only [Al, Sk]
  intros
  replace H := hG16 _ H
  try dsimp only at H
  revert H
  refine ct rfl (fun hb25 H => ?_) (fun hb25 H => ?_)
  ·refine sr fun K26 hK26 => ?_
   try dsimp only [putL, setL, evL, getL]
   refine ag (ag (HL_nil (hK26 _ _ ?_)))
   dsimp only [putL, setL, evL, getL]
   refine HT_ret ?_
   exact hQr _ _ [.slice none 0 0, .bool false] _ ⟨rfl, rfl, trivial⟩ H ⟨none, 0, rfl, (hH.nil (K := KI) OI 3).sel [1] (by decide)⟩
  ·refine HT_skip (hK15 _ _ (sr fun K27 hK27 => (hc (o_loads' [.int .i64 p0_0, .int .i64 p0_1, .slice A0_2p p0_2.length c0_2p, .int .i64 p0_3, .int .i64 p0_4] rfl Try.underlying66 rfl tI66 rfl (hH.partv 0 rfl (0) [.int .i64 p0_0, .int .i64 p0_1, .slice A0_2p p0_2.length c0_2p, .int .i64 p0_3, .int .i64 p0_4] rfl) (mv ?_)))))
   replace H := headE H
   obtain ⟨u28, hu28, H⟩ := H
   refine hc (o_call (args := #[.agg #[.int .i64 p0_0, .int .i64 p0_1, .slice A0_2p p0_2.length c0_2p, .int .i64 p0_3, .int .i64 p0_4], .int .i64 p1]) Try.func168 rfl rfl rfl (spec_l16Row.ok sb s24 no p0_0 p0_1 A0_2p c0_2p p0_2 p0_3 p0_4 p1 HRp0_2 (Hp.own hH.bs) _ hu28) ?_)
   rintro _ s28 ⟨A29, c29, rfl, hD⟩
   replace hH := hH.back0 hD (Up.refl _ _ _)
   clear hD
   try dsimp only [putL, setL, evL, getL]
   refine ag (ag (HL_nil (hK27 _ _ ?_)))
   dsimp only [putL, setL, evL, getL]
   refine HT_ret ?_
   exact hQr _ _ [.slice A29 u28.length c29, .bool true] _ ⟨rfl, rfl, trivial⟩ H ⟨A29, c29, rfl, hH.sel [1] (by decide)⟩
def laws_sameInts.l1 (p0 : List (Int)) (p1 : List (Int)) : Nat → Int → Option (Lo Unit Bool)
 | 0, _ => none
 | kf + 1, x52 => if (decide (x52 < (p0.length : Int))) = true then ((rd? p0 x52).bind fun u71 => (rd? p1 x52).bind fun u72 => if (u71 != u72) = true then ((some false).bind fun z => some (Lo.ret z)) else (laws_sameInts.l1 p0 p1 kf (IntKind.i64.wrap (x52 + 1)))) else (some (Lo.go ()))
def laws_sameInts.f (p0 : List (Int)) (p1 : List (Int)) : Option Bool := if ((p0.length : Int) != (p1.length : Int)) = true then (some false) else ((laws_sameInts.l1 p0 p1 ((((p0.length : Int)) - (0)).toNat + 2) 0).bind fun (o : Lo Unit Bool) => match o with | .go () => (some true) | .ret z => some z)
def laws_sameInts.post (sb s : St) (F0 : Fp) (r : Bool) : Value → St → Prop := fun v s' => v = .bool r ∧ Hp sb s F0 s' []
set_option maxRecDepth 100000 in
set_option maxHeartbeats 4000000 in
theorem laws_sameInts.ok (sb s : St) (F0 : Fp) (A0p : Option Addr) (c0p : Nat) (p0 : List (Int)) (A1p : Option Addr) (c1p : Nat) (p1 : List (Int)) (HRp0 : Rd KI sb A0p c0p p0) (HRp1 : Rd KI sb A1p c1p p1) (hH : Hp sb s F0 s []) (r : Bool) (H : laws_sameInts.f p0 p1 = some r) : GCall Try.prog 18 #[.slice A0p p0.length c0p, .slice A1p p1.length c1p] s (laws_sameInts.post sb s F0 r) := by
 refine GCall_ofr (laws_sameInts.post sb s F0) [.tmp 4] (ud [.slice A0p p0.length c0p, .slice A1p p1.length c1p] 24) Try.func18 rfl rfl rfl fun w Q hQr hQn hQp => ?_
 replace H := topE H
 unfold laws_sameInts.f at H
 dsimp only [ud, un]
 refine sr fun K1 hK1 => ag (HL_nil (hK1 _ _ ?_))
 dsimp only [putL, setL, evL, getL]
 refine HT_seq_k fun K2 hK2 => sr fun K3 hK3 => mv (hc (o_len rfl Try.underlying24 (mv ?_)))
 dsimp only [putL, setL, evL, getL]
 refine hc (o_len rfl Try.underlying24 (bn rfl rfl rfl (HL_nil (hK3 _ _ ?_))))
 dsimp only [putL, setL, evL, getL]
 revert H
 refine ct rfl (fun hb4 H => ?_) (fun hb4 H => ?_)
 ·refine sr fun K5 hK5 => ag (HL_nil (hK5 _ _ ?_))
  dsimp only [putL, setL, evL, getL]
  refine HT_ret ?_
  exact hQr _ _ [.bool false] _ ⟨rfl, trivial⟩ H ⟨rfl, hH⟩
 ·refine HT_skip (hK2 _ _ (HT_seq_k fun K6 hK6 => (sr fun K7 hK7 => (mv (hc (o_len rfl Try.underlying24 (mv (HL_nil (hK7 _ _ ?_)))))))))
  dsimp only [putL, setL, evL, getL]
  refine joinH H fun G8 hG8 H => ?_
  refine HT_toK (fun l' s' => G8 (.go ()) = some r ∧ skim [] l' = ([], 27) ∧ Hp sb s F0 s' []) ?_ ?_
  ·intro K8 hK8
   refine HT_block ?_
   refine HT_loopK (fun kf l' s' => ∃ (x52 : Int), (laws_sameInts.l1 p0 p1 kf x52).bind G8 = some r ∧ skim [0, 0, 10, 0] l' = ([.slice A0p p0.length c0p, .slice A1p p1.length c1p, .int .i64 (p0.length : Int), .int .i64 x52], 13) ∧ Hp sb s F0 s' []) ((((p0.length : Int)) - (0)).toNat + 2) ⟨0, H, rfl, hH⟩ ?_
   rintro kf l' s64 ⟨x52, H, hl, hH⟩ K64 hK64
   revert l'
   refine skA ?_
   dsimp only [Al, Sk]
   intros
   cases kf with
   | zero => simp [laws_sameInts.l1] at H
   | succ kf =>
    rw [laws_sameInts.l1] at H
    refine sr fun K65 hK65 => bn rfl rfl rfl (HL_nil (hK65 _ _ ?_))
    dsimp only [putL, setL, evL, getL]
    refine HT_seq_k fun K66 hK66 => ?_
    revert H
    refine ct rfl (fun hb67 H => ?_) (fun hb67 H => ?_)
    ·refine HT_skip (hK66 _ _ (HT_seq_k fun K68 hK68 => (HT_block (sr fun K69 hK69 => (mv (ag (HL_nil (hK69 _ _ ?_))))))))
     dsimp only [putL, setL, evL, getL]
     refine sx hMix fun K70 hK70 => ?_
     refine HX_lim (R := fun _ => True) (k := 0) (fun s' => Gro s64 s') 10 ?_
     have hR := Gro.refl s64
     have hH0 := hH
     refine HK_readP 0 (v := .slice A0p p0.length c0p) rfl (by kernel_rfl) hQp rfl (fun s' K hK => o_move hK) rfl rfl (fun _ => hR) ?_
     refine HK_readP 1 (v := .int .i64 x52) rfl (by kernel_rfl) hQp rfl (fun s' K hK => o_move hK) rfl rfl (fun _ => hR) ?_
     replace H := headE H
     obtain ⟨u71, hu71, H⟩ := H
     obtain ⟨b71, o71, cs71, hr71, hh71, hel71⟩ := Rd.elb HRp0 hu71
     obtain rfl := hr71
     try dsimp only [putL, setL, evL, getL]
     refine HK_readP 2 (v := .pointer (some ⟨b71, o71, none⟩)) rfl (by kernel_rfl) hQp rfl (fun s' K hK => hel71 s' rfl rfl Try.underlying24 tI3 hK) rfl rfl (fun _ => hR) ?_
     refine HK_read 3 (v := .int .i64 u71) rfl (by kernel_rfl) hQp rfl (fun s' hR' K hK => o_load' rfl Try.underlying3 rfl ((hh71 (hH0.bs.mono.trans hR'.mono)) 0 _ rfl) hK) rfl rfl hR ?_
     refine HK_readP 4 (v := .slice A1p p1.length c1p) rfl (by kernel_rfl) hQp rfl (fun s' K hK => o_move hK) rfl rfl (fun _ => hR) ?_
     try dsimp only [putL, setL, evL, getL]
     refine HK_readP 5 (v := .int .i64 x52) rfl (by kernel_rfl) hQp rfl (fun s' K hK => o_move hK) rfl rfl (fun _ => hR) ?_
     replace H := headE H
     obtain ⟨u72, hu72, H⟩ := H
     obtain ⟨b72, o72, cs72, hr72, hh72, hel72⟩ := Rd.elb HRp1 hu72
     obtain rfl := hr72
     refine HK_readP 6 (v := .pointer (some ⟨b72, o72, none⟩)) rfl (by kernel_rfl) hQp rfl (fun s' K hK => hel72 s' rfl rfl Try.underlying24 tI3 hK) rfl rfl (fun _ => hR) ?_
     refine HK_read 7 (v := .int .i64 u72) rfl (by kernel_rfl) hQp rfl (fun s' hR' K hK => o_load' rfl Try.underlying3 rfl ((hh72 (hH0.bs.mono.trans hR'.mono)) 0 _ rfl) hK) rfl rfl hR ?_
     try dsimp only [putL, setL, evL, getL]
     refine HK_readP 8 (v := .bool (u71 != u72)) rfl (by kernel_rfl) hQp rfl (fun s' K hK => o_bin rfl rfl rfl hK) rfl rfl (fun _ => hR) ?_
     refine HK_done (fun _ => hR) (by kernel_rfl) ?_
     refine hK70 _ _ ?_
     try dsimp only [putL, setL, evL, getL]
     revert H
     refine ct rfl (fun hb73 H => ?_) (fun hb73 H => ?_)
     ·refine sr fun K74 hK74 => ag (HL_nil (hK74 _ _ ?_))
      dsimp only [putL, setL, evL, getL]
      refine HT_ret ?_
      replace H := escH (fun z hz => hG8 _ hz) H
      exact hQr _ _ [.bool false] _ ⟨rfl, trivial⟩ H ⟨rfl, hH⟩
     ·refine HT_skip (hK68 _ _ ?_)
      refine HT_region ?_
      refine bn rfl rfl rfl (mv (HL_nil ?_))
      exact hK64 _ _ ⟨kf, Nat.lt_succ_self kf, IntKind.i64.wrap (x52 + 1), H, rfl, hH⟩
    ·refine HT_exit ?_
     exact hK8 _ _ ⟨H, rfl, hH⟩
  ·rintro l' s75 ⟨H, hl, hH⟩
   revert l'
   refine skA ?_
   dsimp only [Al, Sk]
   intros
   replace H := hG8 _ H
   try dsimp only at H
   refine hK6 _ _ ?_
   refine sr fun K76 hK76 => ag (HL_nil (hK76 _ _ ?_))
   dsimp only [putL, setL, evL, getL]
   refine HT_ret ?_
   exact hQr _ _ [.bool true] _ ⟨rfl, trivial⟩ H ⟨rfl, hH⟩
def spec_DrawGoodScreen.f (p0 : List (Int)) : Option (Int × Int × (List (Int)) × Int × Int) := (spec_l1Cur_screen.f p0 0 0).bind fun u6 => some (u6.1, u6.2.1, u6.2.2.1, u6.2.2.2.1, u6.2.2.2.2.1)
def spec_DrawGoodScreen.post (sb s : St) (F0 : Fp) (r : Int × Int × (List (Int)) × Int × Int) : Value → St → Prop := fun v s' => ∃ (A2 : Option Addr) (c2 : Nat), v = .agg #[.int .i64 r.1, .int .i64 r.2.1, .slice A2 r.2.2.1.length c2, .int .i64 r.2.2.2.1, .int .i64 r.2.2.2.2] ∧ Hp sb s F0 s' [Ck.ol OI 3 A2 c2 r.2.2.1]
set_option maxRecDepth 100000 in
set_option maxHeartbeats 4000000 in
theorem spec_DrawGoodScreen.ok (sb s : St) (F0 : Fp) (A0p : Option Addr) (c0p : Nat) (p0 : List (Int)) (HRp0 : Rd (Kd.int .u8) sb A0p c0p p0) (hH : Hp sb s F0 s []) (r : Int × Int × (List (Int)) × Int × Int) (H : spec_DrawGoodScreen.f p0 = some r) : GCall Try.prog 169 #[.slice A0p p0.length c0p] s (spec_DrawGoodScreen.post sb s F0 r) := by
 refine GCall_ofr (spec_DrawGoodScreen.post sb s F0) [.cell 2 66] (ud [.slice A0p p0.length c0p] 8) Try.func169 rfl rfl rfl fun w Q hQr hQn hQp => ?_
 replace H := topE H
 unfold spec_DrawGoodScreen.f at H
 dsimp only [ud, un]
 refine sr fun K1 hK1 => hc (o_allocH hH tI66 ?_)
 clear hH
 intro b2 s2 hH _
 refine HL_nil (hK1 _ _ ?_)
 try dsimp only [putL, setL, evL, getL]
 refine sr fun K3 hK3 => mv (hc (o_build (pl := [(0, 1), (1, 1), (2, 1)]) (cs := #[.slice A0p p0.length c0p, .int .i64 0, .int .u64 0]) Try.underlying113 tI113 (by kernel_rfl) (by kernel_rfl) rfl (hc (o_boxH hH rfl ?_))))
 clear hH
 intro b4 s4 hH _
 try dsimp only [putL, setL, evL, getL]
 refine ag (HL_nil (hK3 _ _ ?_))
 dsimp only [putL, setL, evL, getL]
 refine sr fun K5 hK5 => mv ?_
 replace H := headE H
 obtain ⟨u6, hu6, H⟩ := H
 obtain ⟨F1, hA, hB⟩ := hH.take [1] (by decide)
 dsimp only [addC, setC, rmC, selC, getC] at hA
 refine hc (o_call (args := #[.pointer (some ⟨b4, 0, none⟩)]) Try.func139 rfl rfl rfl (spec_l1Cur_screen.ok sb s4 F1 b4 A0p c0p p0 0 0 HRp0 hA _ hu6) ?_)
 rintro _ s6 ⟨A7, c7, rfl, hD⟩
 replace hH := hB _ _ _ (Up.refl _ _ _) hD
 clear hD hA hB
 refine hc (o_stvH (vs := [.int .i64 u6.1, .int .i64 u6.2.1, .slice A7 u6.2.2.1.length c7, .int .i64 u6.2.2.2.1, .int .i64 u6.2.2.2.2.1]) (us' := [.int .i64 u6.1, .int .i64 u6.2.1, .slice A7 u6.2.2.1.length c7, .int .i64 u6.2.2.2.1, .int .i64 u6.2.2.2.2.1]) hH 0 rfl rfl rfl rfl rfl tI66 rfl (List.cons_ne_nil _ _) rfl rfl rfl ?_)
 clear hH
 intro s8 hH
 refine HL_nil (hK5 _ _ ?_)
 try dsimp only [putL, setL, evL, getL]
 refine HT_ret ?_
 exact hQr _ _ [.agg #[.int .i64 u6.1, .int .i64 u6.2.1, .slice A7 u6.2.2.1.length c7, .int .i64 u6.2.2.2.1, .int .i64 u6.2.2.2.2.1]] _ ⟨ResV.cells rfl Try.underlying66 rfl tI66 (hH.var 0 rfl) rfl, trivial⟩ H ⟨A7, c7, rfl, hH.sel [2] (by decide)⟩
def spec_DrawScreenText.f (p0 : List (Int)) : Option (Int × Int × (List (Int)) × Int × Int) := (spec_DrawGoodScreen.f p0).bind fun u4 => some (u4.1, u4.2.1, u4.2.2.1, u4.2.2.2.1, u4.2.2.2.2)
def spec_DrawScreenText.post (sb s : St) (F0 : Fp) (r : Int × Int × (List (Int)) × Int × Int) : Value → St → Prop := fun v s' => ∃ (A2 : Option Addr) (c2 : Nat), v = .agg #[.int .i64 r.1, .int .i64 r.2.1, .slice A2 r.2.2.1.length c2, .int .i64 r.2.2.2.1, .int .i64 r.2.2.2.2] ∧ Hp sb s F0 s' [Ck.ol OI 3 A2 c2 r.2.2.1]
set_option maxRecDepth 100000 in
set_option maxHeartbeats 4000000 in
theorem spec_DrawScreenText.ok (sb s : St) (F0 : Fp) (A0p : Option Addr) (c0p : Nat) (p0 : List (Int)) (HRp0 : Rd (Kd.int .u8) sb A0p c0p p0) (hH : Hp sb s F0 s []) (r : Int × Int × (List (Int)) × Int × Int) (H : spec_DrawScreenText.f p0 = some r) : GCall Try.prog 84 #[.slice A0p p0.length c0p] s (spec_DrawScreenText.post sb s F0 r) := by
 refine GCall_ofr (spec_DrawScreenText.post sb s F0) [.cell 2 66] (ud [.slice A0p p0.length c0p] 4) Try.func84 rfl rfl rfl fun w Q hQr hQn hQp => ?_
 replace H := topE H
 unfold spec_DrawScreenText.f at H
 dsimp only [ud, un]
 refine sr fun K1 hK1 => hc (o_allocH hH tI66 ?_)
 clear hH
 intro b2 s2 hH _
 refine HL_nil (hK1 _ _ ?_)
 try dsimp only [putL, setL, evL, getL]
 refine sr fun K3 hK3 => mv ?_
 replace H := headE H
 obtain ⟨u4, hu4, H⟩ := H
 refine hc (o_call (args := #[.slice A0p p0.length c0p]) Try.func169 rfl rfl rfl (spec_DrawGoodScreen.ok sb s2 no A0p c0p p0 HRp0 (Hp.own hH.bs) _ hu4) ?_)
 rintro _ s4 ⟨A5, c5, rfl, hD⟩
 replace hH := hH.back0 hD (Up.refl _ _ _)
 clear hD
 refine hc (o_stvH (vs := [.int .i64 u4.1, .int .i64 u4.2.1, .slice A5 u4.2.2.1.length c5, .int .i64 u4.2.2.2.1, .int .i64 u4.2.2.2.2]) (us' := [.int .i64 u4.1, .int .i64 u4.2.1, .slice A5 u4.2.2.1.length c5, .int .i64 u4.2.2.2.1, .int .i64 u4.2.2.2.2]) hH 0 rfl rfl rfl rfl rfl tI66 rfl (List.cons_ne_nil _ _) rfl rfl rfl ?_)
 clear hH
 intro s6 hH
 refine HL_nil (hK3 _ _ ?_)
 try dsimp only [putL, setL, evL, getL]
 refine HT_ret ?_
 exact hQr _ _ [.agg #[.int .i64 u4.1, .int .i64 u4.2.1, .slice A5 u4.2.2.1.length c5, .int .i64 u4.2.2.2.1, .int .i64 u4.2.2.2.2]] _ ⟨ResV.cells rfl Try.underlying66 rfl tI66 (hH.var 0 rfl) rfl, trivial⟩ H ⟨A5, c5, rfl, hH.sel [1] (by decide)⟩
def utf8_appendRuneNonASCII.f (p0 : List (Int)) (p1 : Int) : Option (List (Int)) := if (decide ((IntKind.u32.wrap p1) ≤ 2047)) = true then ((shrK? .i32 p1 6).bind fun u6 => (app? 140737488355328 p0 [bits .or .u8 192 (IntKind.u8.wrap u6), bits .or .u8 128 (bits .and .u8 (IntKind.u8.wrap p1) 63)]).bind fun x8 => some x8) else ((if (decide ((IntKind.u32.wrap p1) < 55296)) = true then (some (decide ((IntKind.u32.wrap p1) < 55296))) else (if (decide ((57343 : Int) < (IntKind.u32.wrap p1))) = true then (some (decide ((IntKind.u32.wrap p1) ≤ 65535))) else (some false))).bind fun (o : Bool) => match o with | x13 => (if x13 = true then ((shrK? .i32 p1 12).bind fun u20 => (shrK? .i32 p1 6).bind fun u21 => (app? 140737488355328 p0 [bits .or .u8 224 (IntKind.u8.wrap u20), bits .or .u8 128 (bits .and .u8 (IntKind.u8.wrap u21) 63), bits .or .u8 128 (bits .and .u8 (IntKind.u8.wrap p1) 63)]).bind fun x23 => some x23) else ((if (decide ((IntKind.u32.wrap p1) > 65535)) = true then (some (decide ((IntKind.u32.wrap p1) ≤ 1114111))) else (some false)).bind fun (o : Bool) => match o with | x26 => (if x26 = true then ((shrK? .i32 p1 18).bind fun u31 => (shrK? .i32 p1 12).bind fun u32 => (shrK? .i32 p1 6).bind fun u33 => (app? 140737488355328 p0 [bits .or .u8 240 (IntKind.u8.wrap u31), bits .or .u8 128 (bits .and .u8 (IntKind.u8.wrap u32) 63), bits .or .u8 128 (bits .and .u8 (IntKind.u8.wrap u33) 63), bits .or .u8 128 (bits .and .u8 (IntKind.u8.wrap p1) 63)]).bind fun x35 => some x35) else ((app? 140737488355328 p0 [239, 191, 189]).bind fun x38 => some x38)))))
def utf8_appendRuneNonASCII.post (sb s : St) (F0 : Fp) (r : (List (Int))) : Value → St → Prop := fun v s' => ∃ (A0 : Option Addr) (c0 : Nat), v = .slice A0 r.length c0 ∧ Hp sb s F0 s' [Ck.ol (Ow.flat (Kd.int_flat .u8)) 5 A0 c0 r]
set_option maxRecDepth 100000 in
set_option maxHeartbeats 4000000 in
theorem utf8_appendRuneNonASCII.ok (sb s : St) (F0 : Fp) (A0p : Option Addr) (c0p : Nat) (p0 : List (Int)) (p1 : Int) (hH : Hp sb s F0 s [Ck.ol (Ow.flat (Kd.int_flat .u8)) 5 A0p c0p p0]) (r : (List (Int))) (H : utf8_appendRuneNonASCII.f p0 p1 = some r) : GCall Try.prog 238 #[.slice A0p p0.length c0p, .int .i32 p1] s (utf8_appendRuneNonASCII.post sb s F0 r) := by
 refine GCall_ofr (utf8_appendRuneNonASCII.post sb s F0) [.tmp 4] (ud [.slice A0p p0.length c0p, .int .i32 p1] 76) Try.func238 rfl rfl rfl fun w Q hQr hQn hQp => ?_
 replace H := topE H
 unfold utf8_appendRuneNonASCII.f at H
 dsimp only [ud, un]
 refine sr fun K1 hK1 => ag (HL_nil (hK1 _ _ ?_))
 dsimp only [putL, setL, evL, getL]
 refine sr fun K2 hK2 => mv (hc (o_conv rfl Try.underlying21 Try.underlying227 (ag (HL_nil (hK2 _ _ ?_)))))
 dsimp only [putL, setL, evL, getL]
 refine HT_block (sr fun K3 hK3 => (mv (bn rfl rfl rfl (ag (HL_nil (hK3 _ _ ?_))))))
 dsimp only [putL, setL, evL, getL]
 revert H
 refine ct rfl (fun hb4 H => ?_) (fun hb4 H => ?_)
 ·refine sr fun K5 hK5 => mv (mv ?_)
  replace H := headE H
  obtain ⟨u6, hu6, H⟩ := H
  refine hc (o_shrK rfl rfl hu6 ?_)
  dsimp only [putL, setL, evL, getL]
  refine hc (o_conv rfl Try.underlying21 Try.underlying5 (bn rfl rfl rfl (mv ?_)))
  dsimp only [putL, setL, evL, getL]
  refine hc (o_conv rfl Try.underlying21 Try.underlying5 (bn rfl rfl rfl (bn rfl rfl rfl ?_)))
  dsimp only [putL, setL, evL, getL]
  refine hc (o_litF (K := (Kd.int .u8)) (O := (Ow.flat (Kd.int_flat .u8))) (ca := #[.int .u8 (bits .or .u8 192 (IntKind.u8.wrap u6)), .int .u8 (bits .or .u8 128 (bits .and .u8 (IntKind.u8.wrap p1) 63))]) [[.int .u8 (bits .or .u8 192 (IntKind.u8.wrap u6))], [.int .u8 (bits .or .u8 128 (bits .and .u8 (IntKind.u8.wrap p1) 63))]] [bits .or .u8 192 (IntKind.u8.wrap u6), bits .or .u8 128 (bits .and .u8 (IntKind.u8.wrap p1) 63)] hH Try.underlying22 tI5 rfl (by decide) rfl rfl (by kernel_rfl) rfl ⟨rfl, Ent.own (Ent.flat rfl), rfl, Ent.own (Ent.flat rfl), trivial⟩ ?_)
  clear hH
  intro A7 s7 hH _
  replace H := headE H
  obtain ⟨x8, hx8, H⟩ := H
  refine hc (o_appF (K := (Kd.int .u8)) (n := 140737488355328) (A := A0p) (c := c0p) (xs := p0) (ys := [bits .or .u8 192 (IntKind.u8.wrap u6), bits .or .u8 128 (bits .and .u8 (IntKind.u8.wrap p1) 63)]) (B := A7) (c2 := 2) hH 0 rfl rfl rfl rfl Try.underlying22 tI5 rfl (by decide) (by decide) (by decide) (Src.flat (hH.rd 1 rfl)) hx8 ?_)
  clear hH
  intro A8 c8 s8 hH
  refine ag (HL_nil (hK5 _ _ ?_))
  dsimp only [putL, setL, evL, getL]
  refine HT_ret ?_
  exact hQr _ _ [.slice A8 x8.length c8] _ ⟨rfl, trivial⟩ H ⟨A8, c8, rfl, hH.sel [0] (by decide)⟩
 ·refine joinH H fun G9 hG9 H => ?_
  refine HT_joinK (fun l' s' => ∃ (x13 : Bool), G9 x13 = some r ∧ skim [0, 0, 3, 19] l' = ([.slice A0p p0.length c0p, .int .i32 p1, .int .u32 (IntKind.u32.wrap p1), .bool x13], 53) ∧ Hp sb s F0 s' [Ck.ol (Ow.flat (Kd.int_flat .u8)) 5 A0p c0p p0]) ?_ ?_
  ·intro K9 hK9
   refine sr fun K14 hK14 => mv (bn rfl rfl rfl (ag (HL_nil (hK14 _ _ ?_))))
   dsimp only [putL, setL, evL, getL]
   revert H
   refine ct rfl (fun hb15 H => ?_) (fun hb15 H => ?_)
   ·refine HT_skip ?_
    exact hK9 _ _ ⟨decide ((IntKind.u32.wrap p1) < 55296), H, rfl, hH⟩
   ·refine HT_region ?_
    refine mv (bn rfl rfl rfl (mv ?_))
    revert H
    refine it (fun hb16 H => ?_) (fun hb16 H => ?_)
    ·refine wt rfl rfl rfl rfl hb16 (o_move ?_)
     dsimp only [putL, setL, evL, getL]
     refine wt rfl rfl rfl rfl hb16 (o_bin rfl rfl rfl (hc (o_pickT rfl hb16 (ag (HL_nil ?_)))))
     exact hK9 _ _ ⟨decide ((IntKind.u32.wrap p1) ≤ 65535), H, rfl, hH⟩
    ·refine wf rfl rfl rfl rfl hb16 ?_
     dsimp only [putL, setL, evL, getL]
     refine wf rfl rfl rfl rfl hb16 (hc (o_pickF rfl hb16 (ag (HL_nil ?_))))
     exact hK9 _ _ ⟨false, H, rfl, hH⟩
  ·rintro l' s17 ⟨x13, H, hl, hH⟩
   revert l'
   refine skA ?_
   dsimp only [Al, Sk]
   intros
   replace H := hG9 _ H
   try dsimp only at H
   revert H
   refine ct rfl (fun hb18 H => ?_) (fun hb18 H => ?_)
   ·refine sr fun K19 hK19 => ?_
    try dsimp only [putL, setL, evL, getL]
    refine mv (mv ?_)
    replace H := headE H
    obtain ⟨u20, hu20, H⟩ := H
    refine hc (o_shrK rfl rfl hu20 ?_)
    dsimp only [putL, setL, evL, getL]
    refine hc (o_conv rfl Try.underlying21 Try.underlying5 (bn rfl rfl rfl (mv ?_)))
    replace H := headE H
    obtain ⟨u21, hu21, H⟩ := H
    try dsimp only [putL, setL, evL, getL]
    refine hc (o_shrK rfl rfl hu21 (hc (o_conv rfl Try.underlying21 Try.underlying5 (bn rfl rfl rfl ?_))))
    dsimp only [putL, setL, evL, getL]
    refine bn rfl rfl rfl (mv (hc (o_conv rfl Try.underlying21 Try.underlying5 ?_)))
    dsimp only [putL, setL, evL, getL]
    refine bn rfl rfl rfl (bn rfl rfl rfl (hc (o_litF (K := (Kd.int .u8)) (O := (Ow.flat (Kd.int_flat .u8))) (ca := #[.int .u8 (bits .or .u8 224 (IntKind.u8.wrap u20)), .int .u8 (bits .or .u8 128 (bits .and .u8 (IntKind.u8.wrap u21) 63)), .int .u8 (bits .or .u8 128 (bits .and .u8 (IntKind.u8.wrap p1) 63))]) [[.int .u8 (bits .or .u8 224 (IntKind.u8.wrap u20))], [.int .u8 (bits .or .u8 128 (bits .and .u8 (IntKind.u8.wrap u21) 63))], [.int .u8 (bits .or .u8 128 (bits .and .u8 (IntKind.u8.wrap p1) 63))]] [bits .or .u8 224 (IntKind.u8.wrap u20), bits .or .u8 128 (bits .and .u8 (IntKind.u8.wrap u21) 63), bits .or .u8 128 (bits .and .u8 (IntKind.u8.wrap p1) 63)] hH Try.underlying22 tI5 rfl (by decide) rfl rfl (by kernel_rfl) rfl ⟨rfl, Ent.own (Ent.flat rfl), rfl, Ent.own (Ent.flat rfl), rfl, Ent.own (Ent.flat rfl), trivial⟩ ?_)))
    clear hH
    intro A22 s22 hH _
    replace H := headE H
    obtain ⟨x23, hx23, H⟩ := H
    try dsimp only [putL, setL, evL, getL]
    refine hc (o_appF (K := (Kd.int .u8)) (n := 140737488355328) (A := A0p) (c := c0p) (xs := p0) (ys := [bits .or .u8 224 (IntKind.u8.wrap u20), bits .or .u8 128 (bits .and .u8 (IntKind.u8.wrap u21) 63), bits .or .u8 128 (bits .and .u8 (IntKind.u8.wrap p1) 63)]) (B := A22) (c2 := 3) hH 0 rfl rfl rfl rfl Try.underlying22 tI5 rfl (by decide) (by decide) (by decide) (Src.flat (hH.rd 1 rfl)) hx23 ?_)
    clear hH
    intro A23 c23 s23 hH
    refine ag (HL_nil (hK19 _ _ ?_))
    dsimp only [putL, setL, evL, getL]
    refine HT_ret ?_
    exact hQr _ _ [.slice A23 x23.length c23] _ ⟨rfl, trivial⟩ H ⟨A23, c23, rfl, hH.sel [0] (by decide)⟩
   ·refine joinH H fun G24 hG24 H => ?_
    refine HT_joinK (fun l' s' => ∃ (x26 : Bool), G24 x26 = some r ∧ skim [0, 0, 48] l' = ([.slice A0p p0.length c0p, .int .i32 p1, .bool x26], 28) ∧ Hp sb s F0 s' [Ck.ol (Ow.flat (Kd.int_flat .u8)) 5 A0p c0p p0]) ?_ ?_
    ·intro K24 hK24
     refine HT_region ?_
     refine mv (bn rfl rfl rfl (mv ?_))
     revert H
     refine it (fun hb27 H => ?_) (fun hb27 H => ?_)
     ·refine wt rfl rfl rfl rfl hb27 (o_move ?_)
      dsimp only [putL, setL, evL, getL]
      refine wt rfl rfl rfl rfl hb27 (o_bin rfl rfl rfl (hc (o_pickT rfl hb27 (ag (HL_nil ?_)))))
      exact hK24 _ _ ⟨decide ((IntKind.u32.wrap p1) ≤ 1114111), H, rfl, hH⟩
     ·refine wf rfl rfl rfl rfl hb27 ?_
      dsimp only [putL, setL, evL, getL]
      refine wf rfl rfl rfl rfl hb27 (hc (o_pickF rfl hb27 (ag (HL_nil ?_))))
      exact hK24 _ _ ⟨false, H, rfl, hH⟩
    ·rintro l' s28 ⟨x26, H, hl, hH⟩
     revert l'
     refine skA ?_
     dsimp only [Al, Sk]
     intros
     replace H := hG24 _ H
     try dsimp only at H
     revert H
     refine ct rfl (fun hb29 H => ?_) (fun hb29 H => ?_)
     ·refine sr fun K30 hK30 => ?_
      try dsimp only [putL, setL, evL, getL]
      refine mv (mv ?_)
      replace H := headE H
      obtain ⟨u31, hu31, H⟩ := H
      refine hc (o_shrK rfl rfl hu31 ?_)
      dsimp only [putL, setL, evL, getL]
      refine hc (o_conv rfl Try.underlying21 Try.underlying5 (bn rfl rfl rfl (mv ?_)))
      replace H := headE H
      obtain ⟨u32, hu32, H⟩ := H
      try dsimp only [putL, setL, evL, getL]
      refine hc (o_shrK rfl rfl hu32 (hc (o_conv rfl Try.underlying21 Try.underlying5 (bn rfl rfl rfl ?_))))
      dsimp only [putL, setL, evL, getL]
      refine bn rfl rfl rfl (mv ?_)
      replace H := headE H
      obtain ⟨u33, hu33, H⟩ := H
      refine hc (o_shrK rfl rfl hu33 ?_)
      dsimp only [putL, setL, evL, getL]
      refine hc (o_conv rfl Try.underlying21 Try.underlying5 (bn rfl rfl rfl (bn rfl rfl rfl ?_)))
      dsimp only [putL, setL, evL, getL]
      refine mv (hc (o_conv rfl Try.underlying21 Try.underlying5 (bn rfl rfl rfl ?_)))
      dsimp only [putL, setL, evL, getL]
      refine bn rfl rfl rfl (hc (o_litF (K := (Kd.int .u8)) (O := (Ow.flat (Kd.int_flat .u8))) (ca := #[.int .u8 (bits .or .u8 240 (IntKind.u8.wrap u31)), .int .u8 (bits .or .u8 128 (bits .and .u8 (IntKind.u8.wrap u32) 63)), .int .u8 (bits .or .u8 128 (bits .and .u8 (IntKind.u8.wrap u33) 63)), .int .u8 (bits .or .u8 128 (bits .and .u8 (IntKind.u8.wrap p1) 63))]) [[.int .u8 (bits .or .u8 240 (IntKind.u8.wrap u31))], [.int .u8 (bits .or .u8 128 (bits .and .u8 (IntKind.u8.wrap u32) 63))], [.int .u8 (bits .or .u8 128 (bits .and .u8 (IntKind.u8.wrap u33) 63))], [.int .u8 (bits .or .u8 128 (bits .and .u8 (IntKind.u8.wrap p1) 63))]] [bits .or .u8 240 (IntKind.u8.wrap u31), bits .or .u8 128 (bits .and .u8 (IntKind.u8.wrap u32) 63), bits .or .u8 128 (bits .and .u8 (IntKind.u8.wrap u33) 63), bits .or .u8 128 (bits .and .u8 (IntKind.u8.wrap p1) 63)] hH Try.underlying22 tI5 rfl (by decide) rfl rfl (by kernel_rfl) rfl ⟨rfl, Ent.own (Ent.flat rfl), rfl, Ent.own (Ent.flat rfl), rfl, Ent.own (Ent.flat rfl), rfl, Ent.own (Ent.flat rfl), trivial⟩ ?_))
      clear hH
      intro A34 s34 hH _
      replace H := headE H
      obtain ⟨x35, hx35, H⟩ := H
      refine hc (o_appF (K := (Kd.int .u8)) (n := 140737488355328) (A := A0p) (c := c0p) (xs := p0) (ys := [bits .or .u8 240 (IntKind.u8.wrap u31), bits .or .u8 128 (bits .and .u8 (IntKind.u8.wrap u32) 63), bits .or .u8 128 (bits .and .u8 (IntKind.u8.wrap u33) 63), bits .or .u8 128 (bits .and .u8 (IntKind.u8.wrap p1) 63)]) (B := A34) (c2 := 4) hH 0 rfl rfl rfl rfl Try.underlying22 tI5 rfl (by decide) (by decide) (by decide) (Src.flat (hH.rd 1 rfl)) hx35 ?_)
      clear hH
      intro A35 c35 s35 hH
      try dsimp only [putL, setL, evL, getL]
      refine ag (HL_nil (hK30 _ _ ?_))
      dsimp only [putL, setL, evL, getL]
      refine HT_ret ?_
      exact hQr _ _ [.slice A35 x35.length c35] _ ⟨rfl, trivial⟩ H ⟨A35, c35, rfl, hH.sel [0] (by decide)⟩
     ·refine sr fun K36 hK36 => mv (hc (o_litF (K := (Kd.int .u8)) (O := (Ow.flat (Kd.int_flat .u8))) (ca := #[.int .u8 239, .int .u8 191, .int .u8 189]) [[.int .u8 239], [.int .u8 191], [.int .u8 189]] [239, 191, 189] hH Try.underlying22 tI5 rfl (by decide) rfl rfl (by kernel_rfl) rfl ⟨rfl, Ent.own (Ent.flat rfl), rfl, Ent.own (Ent.flat rfl), rfl, Ent.own (Ent.flat rfl), trivial⟩ ?_))
      clear hH
      intro A37 s37 hH _
      replace H := headE H
      obtain ⟨x38, hx38, H⟩ := H
      refine hc (o_appF (K := (Kd.int .u8)) (n := 140737488355328) (A := A0p) (c := c0p) (xs := p0) (ys := [239, 191, 189]) (B := A37) (c2 := 3) hH 0 rfl rfl rfl rfl Try.underlying22 tI5 rfl (by decide) (by decide) (by decide) (Src.flat (hH.rd 1 rfl)) hx38 ?_)
      clear hH
      intro A38 c38 s38 hH
      try dsimp only [putL, setL, evL, getL]
      refine ag (HL_nil (hK36 _ _ ?_))
      dsimp only [putL, setL, evL, getL]
      refine HT_ret ?_
      exact hQr _ _ [.slice A38 x38.length c38] _ ⟨rfl, trivial⟩ H ⟨A38, c38, rfl, hH.sel [0] (by decide)⟩
def utf8_AppendRune.f (p0 : List (Int)) (p1 : Int) : Option (List (Int)) := if (decide ((IntKind.u32.wrap p1) ≤ 127)) = true then ((app? 140737488355328 p0 [IntKind.u8.wrap p1]).bind fun x7 => some x7) else ((utf8_appendRuneNonASCII.f p0 p1).bind fun u9 => some u9)
def utf8_AppendRune.post (sb s : St) (F0 : Fp) (r : (List (Int))) : Value → St → Prop := fun v s' => ∃ (A0 : Option Addr) (c0 : Nat), v = .slice A0 r.length c0 ∧ Hp sb s F0 s' [Ck.ol (Ow.flat (Kd.int_flat .u8)) 5 A0 c0 r]
set_option maxRecDepth 100000 in
set_option maxHeartbeats 4000000 in
theorem utf8_AppendRune.ok (sb s : St) (F0 : Fp) (A0p : Option Addr) (c0p : Nat) (p0 : List (Int)) (p1 : Int) (hH : Hp sb s F0 s [Ck.ol (Ow.flat (Kd.int_flat .u8)) 5 A0p c0p p0]) (r : (List (Int))) (H : utf8_AppendRune.f p0 p1 = some r) : GCall Try.prog 229 #[.slice A0p p0.length c0p, .int .i32 p1] s (utf8_AppendRune.post sb s F0 r) := by
 refine GCall_ofr (utf8_AppendRune.post sb s F0) [.tmp 4] (ud [.slice A0p p0.length c0p, .int .i32 p1] 14) Try.func229 rfl rfl rfl fun w Q hQr hQn hQp => ?_
 replace H := topE H
 unfold utf8_AppendRune.f at H
 dsimp only [ud, un]
 refine sr fun K1 hK1 => ag (HL_nil (hK1 _ _ ?_))
 dsimp only [putL, setL, evL, getL]
 refine HT_seq_k fun K2 hK2 => sr fun K3 hK3 => mv (hc (o_conv rfl Try.underlying21 Try.underlying227 (bn rfl rfl rfl (HL_nil (hK3 _ _ ?_)))))
 dsimp only [putL, setL, evL, getL]
 revert H
 refine ct rfl (fun hb4 H => ?_) (fun hb4 H => ?_)
 ·refine sr fun K5 hK5 => mv (mv (hc (o_conv rfl Try.underlying21 Try.underlying5 ?_)))
  dsimp only [putL, setL, evL, getL]
  refine hc (o_litF (K := (Kd.int .u8)) (O := (Ow.flat (Kd.int_flat .u8))) (ca := #[.int .u8 (IntKind.u8.wrap p1)]) [[.int .u8 (IntKind.u8.wrap p1)]] [IntKind.u8.wrap p1] hH Try.underlying22 tI5 rfl (by decide) rfl rfl (by kernel_rfl) rfl ⟨rfl, Ent.own (Ent.flat rfl), trivial⟩ ?_)
  clear hH
  intro A6 s6 hH _
  replace H := headE H
  obtain ⟨x7, hx7, H⟩ := H
  refine hc (o_appF (K := (Kd.int .u8)) (n := 140737488355328) (A := A0p) (c := c0p) (xs := p0) (ys := [IntKind.u8.wrap p1]) (B := A6) (c2 := 1) hH 0 rfl rfl rfl rfl Try.underlying22 tI5 rfl (by decide) (by decide) (by decide) (Src.flat (hH.rd 1 rfl)) hx7 ?_)
  clear hH
  intro A7 c7 s7 hH
  refine ag (HL_nil (hK5 _ _ ?_))
  dsimp only [putL, setL, evL, getL]
  refine HT_ret ?_
  exact hQr _ _ [.slice A7 x7.length c7] _ ⟨rfl, trivial⟩ H ⟨A7, c7, rfl, hH.sel [0] (by decide)⟩
 ·refine HT_skip (hK2 _ _ (sr fun K8 hK8 => (mv (mv ?_))))
  replace H := headE H
  obtain ⟨u9, hu9, H⟩ := H
  obtain ⟨F1, hA, hB⟩ := hH.take [0] (by decide)
  dsimp only [addC, setC, rmC, selC, getC] at hA
  refine hc (o_call (args := #[.slice A0p p0.length c0p, .int .i32 p1]) Try.func238 rfl rfl rfl (utf8_appendRuneNonASCII.ok sb s F1 A0p c0p p0 p1 hA _ hu9) ?_)
  rintro _ s9 ⟨A10, c10, rfl, hD⟩
  replace hH := hB _ _ _ (Up.refl _ _ _) hD
  clear hD hA hB
  try dsimp only [putL, setL, evL, getL]
  refine ag (HL_nil (hK8 _ _ ?_))
  dsimp only [putL, setL, evL, getL]
  refine HT_ret ?_
  exact hQr _ _ [.slice A10 u9.length c10] _ ⟨rfl, trivial⟩ H ⟨A10, c10, rfl, hH.sel [1] (by decide)⟩
def impl_textOf.l1 (p0 : List (Int)) : Nat → (List (Int)) → Int → Option (List (Int))
 | 0, _, _ => none
 | kf + 1, x45, x46 => if (decide (x46 < (p0.length : Int))) = true then ((rd? p0 x46).bind fun u63 => (utf8_AppendRune.f x45 (IntKind.i32.wrap u63)).bind fun u64 => impl_textOf.l1 p0 kf u64 (IntKind.i64.wrap (x46 + 1))) else (some x45)
def impl_textOf.f (p0 : List (Int)) : Option ByteArray := (impl_textOf.l1 p0 ((((p0.length : Int)) - (0)).toNat + 2) ([] : List (Int)) 0).bind fun (o : (List (Int))) => match o with | x36 => (some (textB x36))
def impl_textOf.post (sb s : St) (F0 : Fp) (r : ByteArray) : Value → St → Prop := fun v s' => v = .string r ∧ Hp sb s F0 s' []
set_option maxRecDepth 100000 in
set_option maxHeartbeats 4000000 in
theorem impl_textOf.ok (sb s : St) (F0 : Fp) (A0p : Option Addr) (c0p : Nat) (p0 : List (Int)) (HRp0 : Rd KI sb A0p c0p p0) (hH : Hp sb s F0 s []) (r : ByteArray) (H : impl_textOf.f p0 = some r) : GCall Try.prog 212 #[.slice A0p p0.length c0p] s (impl_textOf.post sb s F0 r) := by
 refine GCall_ofr (impl_textOf.post sb s F0) [.tmp 2] (ud [.slice A0p p0.length c0p] 19) Try.func212 rfl rfl rfl fun w Q hQr hQn hQp => ?_
 replace H := topE H
 unfold impl_textOf.f at H
 dsimp only [ud, un]
 refine sr fun K1 hK1 => ag (HL_nil (hK1 _ _ ?_))
 dsimp only [putL, setL, evL, getL]
 refine sr fun K2 hK2 => hc (o_lit0H (α := Int) (K := (Kd.int .u8)) (O := (Ow.flat (Kd.int_flat .u8))) hH Try.underlying22 tI5 ?_)
 clear hH
 intro A3 s3 hH _
 refine ag (HL_nil (hK2 _ _ ?_))
 dsimp only [putL, setL, evL, getL]
 refine HT_seq_k fun K4 hK4 => sr fun K5 hK5 => mv (hc (o_len rfl Try.underlying24 (mv (HL_nil (hK5 _ _ ?_)))))
 dsimp only [putL, setL, evL, getL]
 refine joinH H fun G6 hG6 H => ?_
 refine HT_toK (fun l' s' => ∃ (x36 : List (Int)) (A36 : Option Addr) (c36 : Nat), G6 x36 = some r ∧ skim [3] l' = ([.slice A36 x36.length c36], 17) ∧ Hp sb s F0 s' [Ck.ol (Ow.flat (Kd.int_flat .u8)) 5 A36 c36 x36]) ?_ ?_
 ·intro K6 hK6
  refine HT_block ?_
  refine HT_loopK (fun kf l' s' => ∃ (x45 : List (Int)) (A45 : Option Addr) (c45 : Nat) (x46 : Int), (impl_textOf.l1 p0 kf x45 x46).bind G6 = some r ∧ skim [3, 3, 0, 0] l' = ([.slice A45 x45.length c45, .slice A0p p0.length c0p, .int .i64 (p0.length : Int), .int .i64 x46], 11) ∧ Hp sb s F0 s' [Ck.ol (Ow.flat (Kd.int_flat .u8)) 5 A45 c45 x45]) ((((p0.length : Int)) - (0)).toNat + 2) ⟨([] : List (Int)), A3, 0, 0, H, rfl, hH⟩ ?_
  rintro kf l' s57 ⟨x45, A45, c45, x46, H, hl, hH⟩ K57 hK57
  revert l'
  refine skA ?_
  dsimp only [Al, Sk]
  intros
  cases kf with
  | zero => simp [impl_textOf.l1] at H
  | succ kf =>
   rw [impl_textOf.l1] at H
   refine sr fun K58 hK58 => bn rfl rfl rfl (HL_nil (hK58 _ _ ?_))
   dsimp only [putL, setL, evL, getL]
   refine HT_seq_k fun K59 hK59 => ?_
   revert H
   refine ct rfl (fun hb60 H => ?_) (fun hb60 H => ?_)
   ·refine HT_skip (hK59 _ _ (HT_seq_k fun K61 hK61 => (HT_block (sr fun K62 hK62 => ?_))))
    replace H := headE H
    obtain ⟨u63, hu63, H⟩ := H
    obtain ⟨b63, o63, cs63, hr63, hh63, hel63⟩ := Rd.elb HRp0 hu63
    obtain rfl := hr63
    refine hc (hel63 s57 rfl rfl Try.underlying24 tI3 (hc (o_load' rfl Try.underlying3 rfl ((hh63 hH.bs.mono) 0 _ rfl) (ag (HL_nil (hK62 _ _ ?_))))))
    dsimp only [putL, setL, evL, getL]
    refine HT_region ?_
    refine mv (mv (hc (o_conv rfl Try.underlying3 Try.underlying21 ?_)))
    replace H := headE H
    obtain ⟨u64, hu64, H⟩ := H
    obtain ⟨F1, hA, hB⟩ := hH.take [0] (by decide)
    dsimp only [addC, setC, rmC, selC, getC] at hA
    try dsimp only [putL, setL, evL, getL]
    refine hc (o_call (args := #[.slice A45 x45.length c45, .int .i32 (IntKind.i32.wrap u63)]) Try.func229 rfl rfl rfl (utf8_AppendRune.ok sb s57 F1 A45 c45 x45 (IntKind.i32.wrap u63) hA _ hu64) ?_)
    rintro _ s64 ⟨A65, c65, rfl, hD⟩
    replace hH := hB _ _ _ (Up.refl _ _ _) hD
    clear hD hA hB
    refine ag (HL_nil (hK61 _ _ ?_))
    dsimp only [putL, setL, evL, getL]
    refine HT_region ?_
    refine bn rfl rfl rfl (mv (HL_nil ?_))
    exact hK57 _ _ ⟨kf, Nat.lt_succ_self kf, u64, A65, c65, IntKind.i64.wrap (x46 + 1), H, rfl, hH.sel [1] (by decide)⟩
   ·refine HT_exit ?_
    exact hK6 _ _ ⟨x45, A45, c45, H, rfl, hH⟩
 ·rintro l' s66 ⟨x36, A36, c36, H, hl, hH⟩
  revert l'
  refine skA ?_
  dsimp only [Al, Sk]
  intros
  replace H := hG6 _ H
  try dsimp only at H
  refine hK4 _ _ ?_
  refine sr fun K67 hK67 => mv ?_
  dsimp only [putL, setL, evL, getL]
  refine hc (o_b2s (xs := x36) rfl Try.underlying22 Try.underlying5 Try.underlying9 (hH.rd 0 rfl) (ag (HL_nil (hK67 _ _ ?_))))
  dsimp only [putL, setL, evL, getL]
  refine HT_ret ?_
  exact hQr _ _ [.string (textB x36)] _ ⟨rfl, trivial⟩ H ⟨rfl, hH.sel [] (by decide)⟩
def impl_TextOf.f (p0 : List (Int)) : Option (ByteArray × Bool) := (impl_areRunes.f p0 1000).bind fun u4 => if (!u4) = true then (some ((⟨#[]⟩), false)) else ((impl_textOf.f p0).bind fun u8 => if (decide ((u8.size : Int) > 1000)) = true then (some ((⟨#[]⟩), false)) else (some (u8, true)))
def impl_TextOf.post (sb s : St) (F0 : Fp) (r : ByteArray × Bool) : Value → St → Prop := fun v s' => v = .tuple #[.string r.1, .bool r.2] ∧ Hp sb s F0 s' []
set_option maxRecDepth 100000 in
set_option maxHeartbeats 4000000 in
theorem impl_TextOf.ok (sb s : St) (F0 : Fp) (A0p : Option Addr) (c0p : Nat) (p0 : List (Int)) (HRp0 : Rd KI sb A0p c0p p0) (hH : Hp sb s F0 s []) (r : ByteArray × Bool) (H : impl_TextOf.f p0 = some r) : GCall Try.prog 170 #[.slice A0p p0.length c0p] s (impl_TextOf.post sb s F0 r) := by
 refine GCall_ofr (impl_TextOf.post sb s F0) [.tmp 2, .tmp 3] (ud [.slice A0p p0.length c0p] 13) Try.func170 rfl rfl rfl fun w Q hQr hQn hQp => ?_
 replace H := topE H
 unfold impl_TextOf.f at H
 dsimp only [ud, un]
 refine sr fun K1 hK1 => ag (ag (HL_nil (hK1 _ _ ?_)))
 dsimp only [putL, setL, evL, getL]
 refine HT_seq_k fun K2 hK2 => sr fun K3 hK3 => mv ?_
 replace H := headE H
 obtain ⟨u4, hu4, H⟩ := H
 refine hc (o_call (args := #[.slice A0p p0.length c0p, .int .i64 1000]) Try.func118 rfl rfl rfl (impl_areRunes.ok sb s no A0p c0p p0 1000 HRp0 (Hp.own hH.bs) _ hu4) ?_)
 rintro _ s4 ⟨rfl, hD⟩
 replace hH := hH.back0 hD (Up.refl _ _ _)
 clear hD
 refine hc (o_not rfl (HL_nil (hK3 _ _ ?_)))
 dsimp only [putL, setL, evL, getL]
 revert H
 refine ct rfl (fun hb5 H => ?_) (fun hb5 H => ?_)
 ·refine sr fun K6 hK6 => ag (ag (HL_nil (hK6 _ _ ?_)))
  dsimp only [putL, setL, evL, getL]
  refine HT_ret ?_
  exact hQr _ _ [.string (⟨#[]⟩), .bool false] _ ⟨rfl, rfl, trivial⟩ H ⟨rfl, hH⟩
 ·refine HT_skip (hK2 _ _ (sr fun K7 hK7 => (mv ?_)))
  replace H := headE H
  obtain ⟨u8, hu8, H⟩ := H
  refine hc (o_call (args := #[.slice A0p p0.length c0p]) Try.func212 rfl rfl rfl (impl_textOf.ok sb s4 no A0p c0p p0 HRp0 (Hp.own hH.bs) _ hu8) ?_)
  rintro _ s8 ⟨rfl, hD⟩
  replace hH := hH.back0 hD (Up.refl _ _ _)
  clear hD
  refine ag (HL_nil (hK7 _ _ ?_))
  dsimp only [putL, setL, evL, getL]
  refine HT_seq_k fun K9 hK9 => sr fun K10 hK10 => mv (hc (o_lens rfl Try.underlying9 (bn rfl rfl rfl (HL_nil (hK10 _ _ ?_)))))
  dsimp only [putL, setL, evL, getL]
  revert H
  refine ct rfl (fun hb11 H => ?_) (fun hb11 H => ?_)
  ·refine sr fun K12 hK12 => ag (ag (HL_nil (hK12 _ _ ?_)))
   dsimp only [putL, setL, evL, getL]
   refine HT_ret ?_
   exact hQr _ _ [.string (⟨#[]⟩), .bool false] _ ⟨rfl, rfl, trivial⟩ H ⟨rfl, hH⟩
  ·refine HT_skip (hK9 _ _ (sr fun K13 hK13 => (mv (ag (ag (HL_nil (hK13 _ _ ?_)))))))
   dsimp only [putL, setL, evL, getL]
   refine HT_ret ?_
   exact hQr _ _ [.string u8, .bool true] _ ⟨rfl, rfl, trivial⟩ H ⟨rfl, hH⟩
def impl_ScreenText.l1 (p0_0 : Int) (p0_1 : Int) (p0_2 : List (Int)) (p0_3 : Int) (p0_4 : Int) : Nat → (List (Int)) → Int → Option (List (Int))
 | 0, _, _ => none
 | kf + 1, x59, x60 => if (decide (x60 < p0_1)) = true then ((impl_Screen_rowOf.f p0_0 p0_1 p0_2 p0_3 p0_4 x60).bind fun u79 => (app? 17592186044416 x59 u79).bind fun x81 => (app? 17592186044416 x81 [10]).bind fun x83 => impl_ScreenText.l1 p0_0 p0_1 p0_2 p0_3 p0_4 kf x83 (IntKind.i64.wrap (x60 + 1))) else (some x59)
def impl_ScreenText.f (p0_0 : Int) (p0_1 : Int) (p0_2 : List (Int)) (p0_3 : Int) (p0_4 : Int) : Option (ByteArray × Bool) := (impl_GoodScreen.f p0_0 p0_1 p0_2 p0_3 p0_4).bind fun u5 => if (!u5) = true then (some ((⟨#[]⟩), false)) else ((impl_ScreenText.l1 p0_0 p0_1 p0_2 p0_3 p0_4 (((p0_1) - (0)).toNat + 2) ([] : List (Int)) 0).bind fun (o : (List (Int))) => match o with | x48 => ((impl_TextOf.f x48).bind fun u86 => some (u86.1, u86.2)))
def impl_ScreenText.post (sb s : St) (F0 : Fp) (r : ByteArray × Bool) : Value → St → Prop := fun v s' => v = .tuple #[.string r.1, .bool r.2] ∧ Hp sb s F0 s' []
set_option maxRecDepth 100000 in
set_option maxHeartbeats 4000000 in
theorem impl_ScreenText.ok (sb s : St) (F0 : Fp) (p0_0 : Int) (p0_1 : Int) (A0_2p : Option Addr) (c0_2p : Nat) (p0_2 : List (Int)) (p0_3 : Int) (p0_4 : Int) (HRp0_2 : Rd KI sb A0_2p c0_2p p0_2) (hH : Hp sb s F0 s []) (r : ByteArray × Bool) (H : impl_ScreenText.f p0_0 p0_1 p0_2 p0_3 p0_4 = some r) : GCall Try.prog 85 #[.agg #[.int .i64 p0_0, .int .i64 p0_1, .slice A0_2p p0_2.length c0_2p, .int .i64 p0_3, .int .i64 p0_4]] s (impl_ScreenText.post sb s F0 r) := by
 refine GCall_ofr (impl_ScreenText.post sb s F0) [.tmp 2, .tmp 3] (ud [.agg #[.int .i64 p0_0, .int .i64 p0_1, .slice A0_2p p0_2.length c0_2p, .int .i64 p0_3, .int .i64 p0_4]] 26) Try.func85 rfl rfl rfl fun w Q hQr hQn hQp => ?_
 replace H := topE H
 unfold impl_ScreenText.f at H
 dsimp only [ud, un]
 refine sr fun K1 hK1 => hc (o_boxH hH rfl ?_)
 clear hH
 intro b2 s2 hH _
 refine ag (ag (HL_nil (hK1 _ _ ?_)))
 dsimp only [putL, setL, evL, getL]
 refine HT_seq_k fun K3 hK3 => sr fun K4 hK4 => hc (o_loads' [.int .i64 p0_0, .int .i64 p0_1, .slice A0_2p p0_2.length c0_2p, .int .i64 p0_3, .int .i64 p0_4] rfl Try.underlying66 rfl tI66 rfl (hH.partv 0 rfl (0) [.int .i64 p0_0, .int .i64 p0_1, .slice A0_2p p0_2.length c0_2p, .int .i64 p0_3, .int .i64 p0_4] rfl) ?_)
 replace H := headE H
 obtain ⟨u5, hu5, H⟩ := H
 refine hc (o_call (args := #[.agg #[.int .i64 p0_0, .int .i64 p0_1, .slice A0_2p p0_2.length c0_2p, .int .i64 p0_3, .int .i64 p0_4]]) Try.func52 rfl rfl rfl (impl_GoodScreen.ok sb s2 no p0_0 p0_1 A0_2p c0_2p p0_2 p0_3 p0_4 HRp0_2 (Hp.own hH.bs) _ hu5) ?_)
 rintro _ s5 ⟨rfl, hD⟩
 replace hH := hH.back0 hD (Up.refl _ _ _)
 clear hD
 refine hc (o_not rfl (HL_nil (hK4 _ _ ?_)))
 dsimp only [putL, setL, evL, getL]
 revert H
 refine ct rfl (fun hb6 H => ?_) (fun hb6 H => ?_)
 ·refine sr fun K7 hK7 => ag (ag (HL_nil (hK7 _ _ ?_)))
  dsimp only [putL, setL, evL, getL]
  refine HT_ret ?_
  exact hQr _ _ [.string (⟨#[]⟩), .bool false] _ ⟨rfl, rfl, trivial⟩ H ⟨rfl, hH.sel [] (by decide)⟩
 ·refine HT_skip (hK3 _ _ (sr fun K8 hK8 => (hc (o_lit0H (α := Int) (K := KI) (O := OI) hH Try.underlying24 tI3 ?_))))
  clear hH
  intro A9 s9 hH _
  refine ag (HL_nil (hK8 _ _ ?_))
  dsimp only [putL, setL, evL, getL]
  refine HT_seq_k fun K10 hK10 => sr fun K11 hK11 => hc (o_faddr' (ft := 3) (off := 1) rfl Try.underlying66 rfl tI3 (by decide) (hc (o_load' rfl Try.underlying3 rfl (hH.hasv 0 rfl rfl) (mv (HL_nil (hK11 _ _ ?_))))))
  dsimp only [putL, setL, evL, getL]
  refine joinH H fun G12 hG12 H => ?_
  refine HT_toK (fun l' s' => ∃ (x48 : List (Int)) (A48 : Option Addr) (c48 : Nat), G12 x48 = some r ∧ skim [4] l' = ([.slice A48 x48.length c48], 23) ∧ Hp sb s F0 s' [Ck.ol OI 3 A48 c48 x48]) ?_ ?_
  ·intro K12 hK12
   refine HT_block ?_
   refine HT_loopK (fun kf l' s' => ∃ (x59 : List (Int)) (A59 : Option Addr) (c59 : Nat) (x60 : Int), (impl_ScreenText.l1 p0_0 p0_1 p0_2 p0_3 p0_4 kf x59 x60).bind G12 = some r ∧ skim [1, 2, 6, 0] l' = ([.pointer (some ⟨b2, 0, none⟩), .slice A59 x59.length c59, .int .i64 p0_1, .int .i64 x60], 15) ∧ Hp sb s F0 s' [Ck.ol OI 3 A59 c59 x59, Ck.ov b2 [.int .i64 p0_0, .int .i64 p0_1, .slice A0_2p p0_2.length c0_2p, .int .i64 p0_3, .int .i64 p0_4] 66]) (((p0_1) - (0)).toNat + 2) ⟨([] : List (Int)), A9, 0, 0, H, rfl, hH.sel [1, 0] (by decide)⟩ ?_
   rintro kf l' s73 ⟨x59, A59, c59, x60, H, hl, hH⟩ K73 hK73
   revert l'
   refine skA ?_
   dsimp only [Al, Sk]
   intros
   cases kf with
   | zero => simp [impl_ScreenText.l1] at H
   | succ kf =>
    rw [impl_ScreenText.l1] at H
    refine sr fun K74 hK74 => bn rfl rfl rfl (HL_nil (hK74 _ _ ?_))
    dsimp only [putL, setL, evL, getL]
    refine HT_seq_k fun K75 hK75 => ?_
    revert H
    refine ct rfl (fun hb76 H => ?_) (fun hb76 H => ?_)
    ·refine HT_skip (hK75 _ _ (HT_seq_k fun K77 hK77 => (HT_block (sr fun K78 hK78 => (mv (ag (HL_nil (hK78 _ _ ?_))))))))
     dsimp only [putL, setL, evL, getL]
     refine HT_region ?_
     refine mv (hc (o_loads' [.int .i64 p0_0, .int .i64 p0_1, .slice A0_2p p0_2.length c0_2p, .int .i64 p0_3, .int .i64 p0_4] rfl Try.underlying66 rfl tI66 rfl (hH.partv 1 rfl (0) [.int .i64 p0_0, .int .i64 p0_1, .slice A0_2p p0_2.length c0_2p, .int .i64 p0_3, .int .i64 p0_4] rfl) (mv ?_)))
     replace H := headE H
     obtain ⟨u79, hu79, H⟩ := H
     try dsimp only [putL, setL, evL, getL]
     refine hc (o_call (args := #[.agg #[.int .i64 p0_0, .int .i64 p0_1, .slice A0_2p p0_2.length c0_2p, .int .i64 p0_3, .int .i64 p0_4], .int .i64 x60]) Try.func167 rfl rfl rfl (impl_Screen_rowOf.ok sb s73 no p0_0 p0_1 A0_2p c0_2p p0_2 p0_3 p0_4 x60 HRp0_2 (Hp.own hH.bs) _ hu79) ?_)
     rintro _ s79 ⟨A80, c80, rfl, hD⟩
     replace hH := hH.back0 hD (Up.refl _ _ _)
     clear hD
     replace H := headE H
     obtain ⟨x81, hx81, H⟩ := H
     refine hc (o_appF (K := KI) (n := 17592186044416) (A := A59) (c := c59) (xs := x59) (ys := u79) (B := A80) (c2 := c80) hH 0 rfl rfl rfl rfl Try.underlying24 tI3 rfl (by decide) (by decide) (by decide) (Src.flat (hH.rd 2 rfl)) hx81 ?_)
     clear hH
     intro A81 c81 s81 hH
     refine hc (o_litF (K := KI) (O := OI) (ca := #[.int .i64 10]) [[.int .i64 10]] [10] hH Try.underlying24 tI3 rfl (by decide) rfl rfl (by kernel_rfl) rfl ⟨rfl, Ent.own (Ent.flat rfl), trivial⟩ ?_)
     clear hH
     intro A82 s82 hH _
     replace H := headE H
     obtain ⟨x83, hx83, H⟩ := H
     try dsimp only [putL, setL, evL, getL]
     refine hc (o_appF (K := KI) (n := 17592186044416) (A := A81) (c := c81) (xs := x81) (ys := [10]) (B := A82) (c2 := 1) hH 0 rfl rfl rfl rfl Try.underlying24 tI3 rfl (by decide) (by decide) (by decide) (Src.flat (hH.rd 3 rfl)) hx83 ?_)
     clear hH
     intro A83 c83 s83 hH
     refine ag (HL_nil (hK77 _ _ ?_))
     dsimp only [putL, setL, evL, getL]
     refine HT_region ?_
     refine bn rfl rfl rfl (mv (HL_nil ?_))
     exact hK73 _ _ ⟨kf, Nat.lt_succ_self kf, x83, A83, c83, IntKind.i64.wrap (x60 + 1), H, rfl, hH.sel [0, 1] (by decide)⟩
    ·refine HT_exit ?_
     exact hK12 _ _ ⟨x59, A59, c59, H, rfl, hH.sel [0] (by decide)⟩
  ·rintro l' s84 ⟨x48, A48, c48, H, hl, hH⟩
   revert l'
   refine skA ?_
   dsimp only [Al, Sk]
   intros
   replace H := hG12 _ H
   try dsimp only at H
   refine hK10 _ _ ?_
   refine sr fun K85 hK85 => mv ?_
   replace H := headE H
   obtain ⟨u86, hu86, H⟩ := H
   try dsimp only [putL, setL, evL, getL]
   refine hc (o_call (args := #[.slice A48 x48.length c48]) Try.func170 rfl rfl rfl (impl_TextOf.ok s84 s84 no A48 c48 x48 (hH.rd 0 rfl) (Hp.own (Bs.refl s84)) _ hu86) ?_)
   rintro _ s86 ⟨rfl, hD⟩
   replace hH := hH.back0T hD
   clear hD
   refine hc (o_extract rfl rfl (hc (o_extract rfl rfl ?_)))
   dsimp only [putL, setL, evL, getL]
   refine ag (ag (HL_nil (hK85 _ _ ?_)))
   dsimp only [putL, setL, evL, getL]
   refine HT_ret ?_
   exact hQr _ _ [.string u86.1, .bool u86.2] _ ⟨rfl, rfl, trivial⟩ H ⟨rfl, hH.sel [] (by decide)⟩
def spec_l1Utf8.f (p0 : Int) : Option ByteArray := if (decide (p0 < 128)) = true then (some (textB [IntKind.u8.wrap p0])) else (if (decide (p0 < 2048)) = true then ((quo? .i64 p0 64).bind fun u10 => (rem? p0 64).bind fun u11 => some (textB [IntKind.u8.wrap (IntKind.i64.wrap (192 + u10)), IntKind.u8.wrap (IntKind.i64.wrap (128 + u11))])) else (if (decide (p0 < 65536)) = true then ((quo? .i64 p0 4096).bind fun u16 => (quo? .i64 p0 64).bind fun u17 => (rem? u17 64).bind fun u18 => (rem? p0 64).bind fun u19 => some (textB [IntKind.u8.wrap (IntKind.i64.wrap (224 + u16)), IntKind.u8.wrap (IntKind.i64.wrap (128 + u18)), IntKind.u8.wrap (IntKind.i64.wrap (128 + u19))])) else ((quo? .i64 p0 262144).bind fun u22 => (quo? .i64 p0 4096).bind fun u23 => (rem? u23 64).bind fun u24 => (quo? .i64 p0 64).bind fun u25 => (rem? u25 64).bind fun u26 => (rem? p0 64).bind fun u27 => some (textB [IntKind.u8.wrap (IntKind.i64.wrap (240 + u22)), IntKind.u8.wrap (IntKind.i64.wrap (128 + u24)), IntKind.u8.wrap (IntKind.i64.wrap (128 + u26)), IntKind.u8.wrap (IntKind.i64.wrap (128 + u27))]))))
def spec_l1Utf8.post (sb s : St) (F0 : Fp) (r : ByteArray) : Value → St → Prop := fun v s' => v = .string r ∧ Hp sb s F0 s' []
set_option maxRecDepth 100000 in
set_option maxHeartbeats 4000000 in
theorem spec_l1Utf8.ok (sb s : St) (F0 : Fp) (p0 : Int) (hH : Hp sb s F0 s []) (r : ByteArray) (H : spec_l1Utf8.f p0 = some r) : GCall Try.prog 230 #[.int .i64 p0] s (spec_l1Utf8.post sb s F0 r) := by
 refine GCall_ofr (spec_l1Utf8.post sb s F0) [.tmp 2] (ud [.int .i64 p0] 60) Try.func230 rfl rfl rfl fun w Q hQr hQn hQp => ?_
 replace H := topE H
 unfold spec_l1Utf8.f at H
 dsimp only [ud, un]
 refine sr fun K1 hK1 => ag (HL_nil (hK1 _ _ ?_))
 dsimp only [putL, setL, evL, getL]
 refine HT_seq_k fun K2 hK2 => HT_block (sr fun K3 hK3 => (mv (bn rfl rfl rfl (ag (HL_nil (hK3 _ _ ?_))))))
 dsimp only [putL, setL, evL, getL]
 revert H
 refine ct rfl (fun hb4 H => ?_) (fun hb4 H => ?_)
 ·refine sr fun K5 hK5 => mv (hc (o_conv rfl Try.underlying3 Try.underlying5 (hc (o_litF (K := (Kd.int .u8)) (O := (Ow.flat (Kd.int_flat .u8))) (ca := #[.int .u8 (IntKind.u8.wrap p0)]) [[.int .u8 (IntKind.u8.wrap p0)]] [IntKind.u8.wrap p0] hH Try.underlying22 tI5 rfl (by decide) rfl rfl (by kernel_rfl) rfl ⟨rfl, Ent.own (Ent.flat rfl), trivial⟩ ?_))))
  clear hH
  intro A6 s6 hH _
  try dsimp only [putL, setL, evL, getL]
  refine hc (o_b2s (xs := [IntKind.u8.wrap p0]) rfl Try.underlying22 Try.underlying5 Try.underlying9 (hH.rd 0 rfl) (ag (HL_nil (hK5 _ _ ?_))))
  dsimp only [putL, setL, evL, getL]
  refine HT_ret ?_
  exact hQr _ _ [.string (textB [IntKind.u8.wrap p0])] _ ⟨rfl, trivial⟩ H ⟨rfl, hH.sel [] (by decide)⟩
 ·refine sr fun K7 hK7 => mv (bn rfl rfl rfl (ag (HL_nil (hK7 _ _ ?_))))
  dsimp only [putL, setL, evL, getL]
  revert H
  refine ct rfl (fun hb8 H => ?_) (fun hb8 H => ?_)
  ·refine sr fun K9 hK9 => mv ?_
   replace H := headE H
   obtain ⟨u10, hu10, H⟩ := H
   refine hc (o_quo' rfl rfl hu10 (bn rfl rfl rfl ?_))
   dsimp only [putL, setL, evL, getL]
   refine hc (o_conv rfl Try.underlying3 Try.underlying5 (mv ?_))
   replace H := headE H
   obtain ⟨u11, hu11, H⟩ := H
   refine hc (o_rem' rfl rfl hu11 ?_)
   dsimp only [putL, setL, evL, getL]
   refine bn rfl rfl rfl (hc (o_conv rfl Try.underlying3 Try.underlying5 (hc (o_litF (K := (Kd.int .u8)) (O := (Ow.flat (Kd.int_flat .u8))) (ca := #[.int .u8 (IntKind.u8.wrap (IntKind.i64.wrap (192 + u10))), .int .u8 (IntKind.u8.wrap (IntKind.i64.wrap (128 + u11)))]) [[.int .u8 (IntKind.u8.wrap (IntKind.i64.wrap (192 + u10)))], [.int .u8 (IntKind.u8.wrap (IntKind.i64.wrap (128 + u11)))]] [IntKind.u8.wrap (IntKind.i64.wrap (192 + u10)), IntKind.u8.wrap (IntKind.i64.wrap (128 + u11))] hH Try.underlying22 tI5 rfl (by decide) rfl rfl (by kernel_rfl) rfl ⟨rfl, Ent.own (Ent.flat rfl), rfl, Ent.own (Ent.flat rfl), trivial⟩ ?_))))
   clear hH
   intro A12 s12 hH _
   try dsimp only [putL, setL, evL, getL]
   refine hc (o_b2s (xs := [IntKind.u8.wrap (IntKind.i64.wrap (192 + u10)), IntKind.u8.wrap (IntKind.i64.wrap (128 + u11))]) rfl Try.underlying22 Try.underlying5 Try.underlying9 (hH.rd 0 rfl) (ag (HL_nil (hK9 _ _ ?_))))
   dsimp only [putL, setL, evL, getL]
   refine HT_ret ?_
   exact hQr _ _ [.string (textB [IntKind.u8.wrap (IntKind.i64.wrap (192 + u10)), IntKind.u8.wrap (IntKind.i64.wrap (128 + u11))])] _ ⟨rfl, trivial⟩ H ⟨rfl, hH.sel [] (by decide)⟩
  ·refine sr fun K13 hK13 => mv (bn rfl rfl rfl (ag (HL_nil (hK13 _ _ ?_))))
   dsimp only [putL, setL, evL, getL]
   revert H
   refine ct rfl (fun hb14 H => ?_) (fun hb14 H => ?_)
   ·refine sr fun K15 hK15 => mv ?_
    replace H := headE H
    obtain ⟨u16, hu16, H⟩ := H
    refine hc (o_quo' rfl rfl hu16 (bn rfl rfl rfl ?_))
    dsimp only [putL, setL, evL, getL]
    refine hc (o_conv rfl Try.underlying3 Try.underlying5 (mv ?_))
    replace H := headE H
    obtain ⟨u17, hu17, H⟩ := H
    refine hc (o_quo' rfl rfl hu17 ?_)
    replace H := headE H
    obtain ⟨u18, hu18, H⟩ := H
    try dsimp only [putL, setL, evL, getL]
    refine hc (o_rem' rfl rfl hu18 (bn rfl rfl rfl (hc (o_conv rfl Try.underlying3 Try.underlying5 ?_))))
    dsimp only [putL, setL, evL, getL]
    refine mv ?_
    replace H := headE H
    obtain ⟨u19, hu19, H⟩ := H
    refine hc (o_rem' rfl rfl hu19 (bn rfl rfl rfl ?_))
    dsimp only [putL, setL, evL, getL]
    refine hc (o_conv rfl Try.underlying3 Try.underlying5 (hc (o_litF (K := (Kd.int .u8)) (O := (Ow.flat (Kd.int_flat .u8))) (ca := #[.int .u8 (IntKind.u8.wrap (IntKind.i64.wrap (224 + u16))), .int .u8 (IntKind.u8.wrap (IntKind.i64.wrap (128 + u18))), .int .u8 (IntKind.u8.wrap (IntKind.i64.wrap (128 + u19)))]) [[.int .u8 (IntKind.u8.wrap (IntKind.i64.wrap (224 + u16)))], [.int .u8 (IntKind.u8.wrap (IntKind.i64.wrap (128 + u18)))], [.int .u8 (IntKind.u8.wrap (IntKind.i64.wrap (128 + u19)))]] [IntKind.u8.wrap (IntKind.i64.wrap (224 + u16)), IntKind.u8.wrap (IntKind.i64.wrap (128 + u18)), IntKind.u8.wrap (IntKind.i64.wrap (128 + u19))] hH Try.underlying22 tI5 rfl (by decide) rfl rfl (by kernel_rfl) rfl ⟨rfl, Ent.own (Ent.flat rfl), rfl, Ent.own (Ent.flat rfl), rfl, Ent.own (Ent.flat rfl), trivial⟩ ?_)))
    clear hH
    intro A20 s20 hH _
    refine hc (o_b2s (xs := [IntKind.u8.wrap (IntKind.i64.wrap (224 + u16)), IntKind.u8.wrap (IntKind.i64.wrap (128 + u18)), IntKind.u8.wrap (IntKind.i64.wrap (128 + u19))]) rfl Try.underlying22 Try.underlying5 Try.underlying9 (hH.rd 0 rfl) ?_)
    dsimp only [putL, setL, evL, getL]
    refine ag (HL_nil (hK15 _ _ ?_))
    dsimp only [putL, setL, evL, getL]
    refine HT_ret ?_
    exact hQr _ _ [.string (textB [IntKind.u8.wrap (IntKind.i64.wrap (224 + u16)), IntKind.u8.wrap (IntKind.i64.wrap (128 + u18)), IntKind.u8.wrap (IntKind.i64.wrap (128 + u19))])] _ ⟨rfl, trivial⟩ H ⟨rfl, hH.sel [] (by decide)⟩
   ·refine HT_skip (hK2 _ _ (sr fun K21 hK21 => (mv ?_)))
    replace H := headE H
    obtain ⟨u22, hu22, H⟩ := H
    refine hc (o_quo' rfl rfl hu22 (bn rfl rfl rfl ?_))
    dsimp only [putL, setL, evL, getL]
    refine hc (o_conv rfl Try.underlying3 Try.underlying5 (mv ?_))
    replace H := headE H
    obtain ⟨u23, hu23, H⟩ := H
    refine hc (o_quo' rfl rfl hu23 ?_)
    replace H := headE H
    obtain ⟨u24, hu24, H⟩ := H
    try dsimp only [putL, setL, evL, getL]
    refine hc (o_rem' rfl rfl hu24 (bn rfl rfl rfl (hc (o_conv rfl Try.underlying3 Try.underlying5 ?_))))
    dsimp only [putL, setL, evL, getL]
    refine mv ?_
    replace H := headE H
    obtain ⟨u25, hu25, H⟩ := H
    refine hc (o_quo' rfl rfl hu25 ?_)
    replace H := headE H
    obtain ⟨u26, hu26, H⟩ := H
    refine hc (o_rem' rfl rfl hu26 ?_)
    dsimp only [putL, setL, evL, getL]
    refine bn rfl rfl rfl (hc (o_conv rfl Try.underlying3 Try.underlying5 (mv ?_)))
    replace H := headE H
    obtain ⟨u27, hu27, H⟩ := H
    try dsimp only [putL, setL, evL, getL]
    refine hc (o_rem' rfl rfl hu27 (bn rfl rfl rfl (hc (o_conv rfl Try.underlying3 Try.underlying5 ?_))))
    dsimp only [putL, setL, evL, getL]
    refine hc (o_litF (K := (Kd.int .u8)) (O := (Ow.flat (Kd.int_flat .u8))) (ca := #[.int .u8 (IntKind.u8.wrap (IntKind.i64.wrap (240 + u22))), .int .u8 (IntKind.u8.wrap (IntKind.i64.wrap (128 + u24))), .int .u8 (IntKind.u8.wrap (IntKind.i64.wrap (128 + u26))), .int .u8 (IntKind.u8.wrap (IntKind.i64.wrap (128 + u27)))]) [[.int .u8 (IntKind.u8.wrap (IntKind.i64.wrap (240 + u22)))], [.int .u8 (IntKind.u8.wrap (IntKind.i64.wrap (128 + u24)))], [.int .u8 (IntKind.u8.wrap (IntKind.i64.wrap (128 + u26)))], [.int .u8 (IntKind.u8.wrap (IntKind.i64.wrap (128 + u27)))]] [IntKind.u8.wrap (IntKind.i64.wrap (240 + u22)), IntKind.u8.wrap (IntKind.i64.wrap (128 + u24)), IntKind.u8.wrap (IntKind.i64.wrap (128 + u26)), IntKind.u8.wrap (IntKind.i64.wrap (128 + u27))] hH Try.underlying22 tI5 rfl (by decide) rfl rfl (by kernel_rfl) rfl ⟨rfl, Ent.own (Ent.flat rfl), rfl, Ent.own (Ent.flat rfl), rfl, Ent.own (Ent.flat rfl), rfl, Ent.own (Ent.flat rfl), trivial⟩ ?_)
    clear hH
    intro A28 s28 hH _
    refine hc (o_b2s (xs := [IntKind.u8.wrap (IntKind.i64.wrap (240 + u22)), IntKind.u8.wrap (IntKind.i64.wrap (128 + u24)), IntKind.u8.wrap (IntKind.i64.wrap (128 + u26)), IntKind.u8.wrap (IntKind.i64.wrap (128 + u27))]) rfl Try.underlying22 Try.underlying5 Try.underlying9 (hH.rd 0 rfl) (ag (HL_nil (hK21 _ _ ?_))))
    dsimp only [putL, setL, evL, getL]
    refine HT_ret ?_
    exact hQr _ _ [.string (textB [IntKind.u8.wrap (IntKind.i64.wrap (240 + u22)), IntKind.u8.wrap (IntKind.i64.wrap (128 + u24)), IntKind.u8.wrap (IntKind.i64.wrap (128 + u26)), IntKind.u8.wrap (IntKind.i64.wrap (128 + u27))])] _ ⟨rfl, trivial⟩ H ⟨rfl, hH.sel [] (by decide)⟩
def spec_l1TextOf.l1 (p0 : List (Int)) : Nat → (List (Int)) → Int → Option (List (Int))
 | 0, _, _ => none
 | kf + 1, x46, x47 => if (decide (x47 < (p0.length : Int))) = true then ((rd? p0 x47).bind fun u64 => (spec_l1Utf8.f u64).bind fun u65 => (app? 140737488355328 x46 (bytesB u65)).bind fun x66 => spec_l1TextOf.l1 p0 kf x66 (IntKind.i64.wrap (x47 + 1))) else (some x46)
def spec_l1TextOf.f (p0 : List (Int)) : Option ByteArray := (spec_l1TextOf.l1 p0 ((((p0.length : Int)) - (0)).toNat + 2) [] 0).bind fun (o : (List (Int))) => match o with | x36 => (some (textB x36))
def spec_l1TextOf.post (sb s : St) (F0 : Fp) (r : ByteArray) : Value → St → Prop := fun v s' => v = .string r ∧ Hp sb s F0 s' []
set_option maxRecDepth 100000 in
set_option maxHeartbeats 4000000 in
theorem spec_l1TextOf.ok (sb s : St) (F0 : Fp) (A0p : Option Addr) (c0p : Nat) (p0 : List (Int)) (HRp0 : Rd KI sb A0p c0p p0) (hH : Hp sb s F0 s []) (r : ByteArray) (H : spec_l1TextOf.f p0 = some r) : GCall Try.prog 213 #[.slice A0p p0.length c0p] s (spec_l1TextOf.post sb s F0 r) := by
 refine GCall_ofr (spec_l1TextOf.post sb s F0) [.tmp 2] (ud [.slice A0p p0.length c0p] 18) Try.func213 rfl rfl rfl fun w Q hQr hQn hQp => ?_
 replace H := topE H
 unfold spec_l1TextOf.f at H
 dsimp only [ud, un]
 refine sr fun K1 hK1 => ag (HL_nil (hK1 _ _ ?_))
 dsimp only [putL, setL, evL, getL]
 refine sr fun K2 hK2 => ag (HL_nil (hK2 _ _ ?_))
 dsimp only [putL, setL, evL, getL]
 refine HT_seq_k fun K3 hK3 => sr fun K4 hK4 => mv (hc (o_len rfl Try.underlying24 (mv (HL_nil (hK4 _ _ ?_)))))
 dsimp only [putL, setL, evL, getL]
 refine joinH H fun G5 hG5 H => ?_
 refine HT_toK (fun l' s' => ∃ (x36 : List (Int)) (A36 : Option Addr) (c36 : Nat), G5 x36 = some r ∧ skim [3] l' = ([.slice A36 x36.length c36], 16) ∧ Hp sb s F0 s' [Ck.ol (Ow.flat (Kd.int_flat .u8)) 5 A36 c36 x36]) ?_ ?_
 ·intro K5 hK5
  refine HT_block ?_
  refine HT_loopK (fun kf l' s' => ∃ (x46 : List (Int)) (A46 : Option Addr) (c46 : Nat) (x47 : Int), (spec_l1TextOf.l1 p0 kf x46 x47).bind G5 = some r ∧ skim [3, 2, 0, 0] l' = ([.slice A46 x46.length c46, .slice A0p p0.length c0p, .int .i64 (p0.length : Int), .int .i64 x47], 11) ∧ Hp sb s F0 s' [Ck.ol (Ow.flat (Kd.int_flat .u8)) 5 A46 c46 x46]) ((((p0.length : Int)) - (0)).toNat + 2) ⟨[], none, 0, 0, H, rfl, (hH.nil (K := (Kd.int .u8)) (Ow.flat (Kd.int_flat .u8)) 5)⟩ ?_
  rintro kf l' s58 ⟨x46, A46, c46, x47, H, hl, hH⟩ K58 hK58
  revert l'
  refine skA ?_
  dsimp only [Al, Sk]
  intros
  cases kf with
  | zero => simp [spec_l1TextOf.l1] at H
  | succ kf =>
   rw [spec_l1TextOf.l1] at H
   refine sr fun K59 hK59 => bn rfl rfl rfl (HL_nil (hK59 _ _ ?_))
   dsimp only [putL, setL, evL, getL]
   refine HT_seq_k fun K60 hK60 => ?_
   revert H
   refine ct rfl (fun hb61 H => ?_) (fun hb61 H => ?_)
   ·refine HT_skip (hK60 _ _ (HT_seq_k fun K62 hK62 => (HT_block (sr fun K63 hK63 => ?_))))
    replace H := headE H
    obtain ⟨u64, hu64, H⟩ := H
    obtain ⟨b64, o64, cs64, hr64, hh64, hel64⟩ := Rd.elb HRp0 hu64
    obtain rfl := hr64
    refine hc (hel64 s58 rfl rfl Try.underlying24 tI3 (hc (o_load' rfl Try.underlying3 rfl ((hh64 hH.bs.mono) 0 _ rfl) (ag (HL_nil (hK63 _ _ ?_))))))
    dsimp only [putL, setL, evL, getL]
    refine HT_region ?_
    refine mv (mv ?_)
    replace H := headE H
    obtain ⟨u65, hu65, H⟩ := H
    refine hc (o_call (args := #[.int .i64 u64]) Try.func230 rfl rfl rfl (spec_l1Utf8.ok sb s58 no u64 (Hp.own hH.bs) _ hu65) ?_)
    rintro _ s65 ⟨rfl, hD⟩
    replace hH := hH.back0 hD (Up.refl _ _ _)
    clear hD
    replace H := headE H
    obtain ⟨x66, hx66, H⟩ := H
    try dsimp only [putL, setL, evL, getL]
    refine hc (o_appS (n := 140737488355328) (A := A46) (c := c46) (xs := x46) (S := u65) hH 0 rfl rfl rfl rfl Try.underlying22 Try.underlying9 tI5 rfl (by decide) (by decide) (by decide) hx66 ?_)
    clear hH
    intro A66 c66 s66 hH
    refine ag (HL_nil (hK62 _ _ ?_))
    dsimp only [putL, setL, evL, getL]
    refine HT_region ?_
    refine bn rfl rfl rfl (mv (HL_nil ?_))
    exact hK58 _ _ ⟨kf, Nat.lt_succ_self kf, x66, A66, c66, IntKind.i64.wrap (x47 + 1), H, rfl, hH⟩
   ·refine HT_exit ?_
    exact hK5 _ _ ⟨x46, A46, c46, H, rfl, hH⟩
 ·rintro l' s67 ⟨x36, A36, c36, H, hl, hH⟩
  revert l'
  refine skA ?_
  dsimp only [Al, Sk]
  intros
  replace H := hG5 _ H
  try dsimp only at H
  refine hK3 _ _ ?_
  refine sr fun K68 hK68 => mv ?_
  dsimp only [putL, setL, evL, getL]
  refine hc (o_b2s (xs := x36) rfl Try.underlying22 Try.underlying5 Try.underlying9 (hH.rd 0 rfl) (ag (HL_nil (hK68 _ _ ?_))))
  dsimp only [putL, setL, evL, getL]
  refine HT_ret ?_
  exact hQr _ _ [.string (textB x36)] _ ⟨rfl, trivial⟩ H ⟨rfl, hH.sel [] (by decide)⟩
def spec_TextOf.f (p0 : List (Int)) : Option (ByteArray × Bool) := ((spec_l1AllRunes.f p0).bind fun u20 => if (!u20) = true then (some true) else ((spec_l1TextOf.f p0).bind fun u22 => some (decide ((u22.size : Int) > 1000)))).bind fun (o : Bool) => match o with | x19 => (if x19 = true then (some ((⟨#[]⟩), false)) else ((spec_l1TextOf.f p0).bind fun u27 => some (u27, true)))
def spec_TextOf.post (sb s : St) (F0 : Fp) (r : ByteArray × Bool) : Value → St → Prop := fun v s' => v = .tuple #[.string r.1, .bool r.2] ∧ Hp sb s F0 s' []
set_option maxRecDepth 100000 in
set_option maxHeartbeats 4000000 in
theorem spec_TextOf.ok (sb s : St) (F0 : Fp) (A0p : Option Addr) (c0p : Nat) (p0 : List (Int)) (HRp0 : Rd KI sb A0p c0p p0) (hH : Hp sb s F0 s []) (r : ByteArray × Bool) (H : spec_TextOf.f p0 = some r) : GCall Try.prog 171 #[.slice A0p p0.length c0p] s (spec_TextOf.post sb s F0 r) := by
 refine GCall_ofr (spec_TextOf.post sb s F0) [.tmp 2, .tmp 3] (ud [.slice A0p p0.length c0p] 14) Try.func171 rfl rfl rfl fun w Q hQr hQn hQp => ?_
 replace H := topE H
 unfold spec_TextOf.f at H
 dsimp only [ud, un]
 refine sr fun K1 hK1 => ag (ag (HL_nil (hK1 _ _ ?_)))
 dsimp only [putL, setL, evL, getL]
 refine HT_seq_k fun K14 hK14 => ?_
 refine joinH H fun G15 hG15 H => ?_
 refine HT_joinK (fun l' s' => ∃ (x19 : Bool), G15 x19 = some r ∧ skim [0, 11] l' = ([.slice A0p p0.length c0p, .bool x19], 3) ∧ Hp sb s F0 s' []) ?_ ?_
 ·intro K15 hK15
  refine HT_region ?_
  refine mv ?_
  replace H := headE H
  obtain ⟨u20, hu20, H⟩ := H
  refine hc (o_call (args := #[.slice A0p p0.length c0p]) Try.func119 rfl rfl rfl (spec_l1AllRunes.ok sb s no A0p c0p p0 HRp0 (Hp.own hH.bs) _ hu20) ?_)
  rintro _ s20 ⟨rfl, hD⟩
  replace hH := hH.back0 hD (Up.refl _ _ _)
  clear hD
  refine hc (o_not rfl ?_)
  dsimp only [putL, setL, evL, getL]
  refine mv ?_
  revert H
  refine it (fun hb21 H => ?_) (fun hb21 H => ?_)
  ·refine wf rfl rfl rfl rfl hb21 (wf rfl rfl rfl rfl hb21 ?_)
   dsimp only [putL, setL, evL, getL]
   refine wf rfl rfl rfl rfl hb21 (wf rfl rfl rfl rfl hb21 (hc (o_pickT rfl hb21 (HL_nil ?_))))
   exact hK15 _ _ ⟨true, H, rfl, hH⟩
  ·refine wt rfl rfl rfl rfl hb21 (o_move ?_)
   replace H := headE H
   obtain ⟨u22, hu22, H⟩ := H
   try dsimp only [putL, setL, evL, getL]
   refine wt rfl rfl rfl rfl hb21 (o_call (args := #[.slice A0p p0.length c0p]) Try.func213 rfl rfl rfl (spec_l1TextOf.ok sb s20 no A0p c0p p0 HRp0 (Hp.own hH.bs) _ hu22) ?_)
   rintro _ s22 ⟨rfl, hD⟩
   replace hH := hH.back0 hD (Up.refl _ _ _)
   clear hD
   refine wt rfl rfl rfl rfl hb21 (o_lens rfl Try.underlying9 (wt rfl rfl rfl rfl hb21 (o_bin rfl rfl rfl ?_)))
   dsimp only [putL, setL, evL, getL]
   refine hc (o_pickF rfl hb21 (HL_nil ?_))
   exact hK15 _ _ ⟨decide ((u22.size : Int) > 1000), H, rfl, hH⟩
 ·rintro l' s23 ⟨x19, H, hl, hH⟩
  revert l'
  refine skA ?_
  dsimp only [Al, Sk]
  intros
  replace H := hG15 _ H
  try dsimp only at H
  revert H
  refine ct rfl (fun hb24 H => ?_) (fun hb24 H => ?_)
  ·refine sr fun K25 hK25 => ag (ag (HL_nil (hK25 _ _ ?_)))
   dsimp only [putL, setL, evL, getL]
   refine HT_ret ?_
   exact hQr _ _ [.string (⟨#[]⟩), .bool false] _ ⟨rfl, rfl, trivial⟩ H ⟨rfl, hH⟩
  ·refine HT_skip (hK14 _ _ (sr fun K26 hK26 => (mv ?_)))
   replace H := headE H
   obtain ⟨u27, hu27, H⟩ := H
   refine hc (o_call (args := #[.slice A0p p0.length c0p]) Try.func213 rfl rfl rfl (spec_l1TextOf.ok sb s23 no A0p c0p p0 HRp0 (Hp.own hH.bs) _ hu27) ?_)
   rintro _ s27 ⟨rfl, hD⟩
   replace hH := hH.back0 hD (Up.refl _ _ _)
   clear hD
   refine ag ?_
   dsimp only [putL, setL, evL, getL]
   refine ag (HL_nil (hK26 _ _ ?_))
   dsimp only [putL, setL, evL, getL]
   refine HT_ret ?_
   exact hQr _ _ [.string u27, .bool true] _ ⟨rfl, rfl, trivial⟩ H ⟨rfl, hH⟩
def spec_ScreenText.l1 (p0_0 : Int) (p0_1 : Int) (p0_2 : List (Int)) (p0_3 : Int) (p0_4 : Int) : Nat → (List (Int)) → Int → Option (List (Int))
 | 0, _, _ => none
 | kf + 1, x56, x57 => if (decide (x57 < p0_1)) = true then ((spec_l16Row.f p0_0 p0_1 p0_2 p0_3 p0_4 x57).bind fun u74 => (app? 17592186044416 x56 u74).bind fun x76 => (app? 17592186044416 x76 [10]).bind fun x78 => spec_ScreenText.l1 p0_0 p0_1 p0_2 p0_3 p0_4 kf x78 (IntKind.i64.wrap (x57 + 1))) else (some x56)
def spec_ScreenText.f (p0_0 : Int) (p0_1 : Int) (p0_2 : List (Int)) (p0_3 : Int) (p0_4 : Int) : Option (ByteArray × Bool) := (spec_GoodScreen.f p0_0 p0_1 p0_2 p0_3 p0_4).bind fun u5 => if (!u5) = true then (some ((⟨#[]⟩), false)) else ((spec_ScreenText.l1 p0_0 p0_1 p0_2 p0_3 p0_4 (((p0_1) - (0)).toNat + 2) [] 0).bind fun (o : (List (Int))) => match o with | x45 => ((spec_TextOf.f x45).bind fun u81 => some (u81.1, u81.2)))
def spec_ScreenText.post (sb s : St) (F0 : Fp) (r : ByteArray × Bool) : Value → St → Prop := fun v s' => v = .tuple #[.string r.1, .bool r.2] ∧ Hp sb s F0 s' []
set_option maxRecDepth 100000 in
set_option maxHeartbeats 4000000 in
theorem spec_ScreenText.ok (sb s : St) (F0 : Fp) (p0_0 : Int) (p0_1 : Int) (A0_2p : Option Addr) (c0_2p : Nat) (p0_2 : List (Int)) (p0_3 : Int) (p0_4 : Int) (HRp0_2 : Rd KI sb A0_2p c0_2p p0_2) (hH : Hp sb s F0 s []) (r : ByteArray × Bool) (H : spec_ScreenText.f p0_0 p0_1 p0_2 p0_3 p0_4 = some r) : GCall Try.prog 86 #[.agg #[.int .i64 p0_0, .int .i64 p0_1, .slice A0_2p p0_2.length c0_2p, .int .i64 p0_3, .int .i64 p0_4]] s (spec_ScreenText.post sb s F0 r) := by
 refine GCall_ofr (spec_ScreenText.post sb s F0) [.tmp 2, .tmp 3] (ud [.agg #[.int .i64 p0_0, .int .i64 p0_1, .slice A0_2p p0_2.length c0_2p, .int .i64 p0_3, .int .i64 p0_4]] 25) Try.func86 rfl rfl rfl fun w Q hQr hQn hQp => ?_
 replace H := topE H
 unfold spec_ScreenText.f at H
 dsimp only [ud, un]
 refine sr fun K1 hK1 => hc (o_boxH hH rfl ?_)
 clear hH
 intro b2 s2 hH _
 refine ag (ag (HL_nil (hK1 _ _ ?_)))
 dsimp only [putL, setL, evL, getL]
 refine HT_seq_k fun K3 hK3 => sr fun K4 hK4 => hc (o_loads' [.int .i64 p0_0, .int .i64 p0_1, .slice A0_2p p0_2.length c0_2p, .int .i64 p0_3, .int .i64 p0_4] rfl Try.underlying66 rfl tI66 rfl (hH.partv 0 rfl (0) [.int .i64 p0_0, .int .i64 p0_1, .slice A0_2p p0_2.length c0_2p, .int .i64 p0_3, .int .i64 p0_4] rfl) ?_)
 replace H := headE H
 obtain ⟨u5, hu5, H⟩ := H
 refine hc (o_call (args := #[.agg #[.int .i64 p0_0, .int .i64 p0_1, .slice A0_2p p0_2.length c0_2p, .int .i64 p0_3, .int .i64 p0_4]]) Try.func53 rfl rfl rfl (spec_GoodScreen.ok sb s2 no p0_0 p0_1 A0_2p c0_2p p0_2 p0_3 p0_4 HRp0_2 (Hp.own hH.bs) _ hu5) ?_)
 rintro _ s5 ⟨rfl, hD⟩
 replace hH := hH.back0 hD (Up.refl _ _ _)
 clear hD
 refine hc (o_not rfl (HL_nil (hK4 _ _ ?_)))
 dsimp only [putL, setL, evL, getL]
 revert H
 refine ct rfl (fun hb6 H => ?_) (fun hb6 H => ?_)
 ·refine sr fun K7 hK7 => ag (ag (HL_nil (hK7 _ _ ?_)))
  dsimp only [putL, setL, evL, getL]
  refine HT_ret ?_
  exact hQr _ _ [.string (⟨#[]⟩), .bool false] _ ⟨rfl, rfl, trivial⟩ H ⟨rfl, hH.sel [] (by decide)⟩
 ·refine HT_skip (hK3 _ _ (sr fun K8 hK8 => (ag (HL_nil (hK8 _ _ ?_)))))
  dsimp only [putL, setL, evL, getL]
  refine HT_seq_k fun K9 hK9 => sr fun K10 hK10 => ag (HL_nil (hK10 _ _ ?_))
  dsimp only [putL, setL, evL, getL]
  refine joinH H fun G11 hG11 H => ?_
  refine HT_toK (fun l' s' => ∃ (x45 : List (Int)) (A45 : Option Addr) (c45 : Nat), G11 x45 = some r ∧ skim [4] l' = ([.slice A45 x45.length c45], 22) ∧ Hp sb s F0 s' [Ck.ol OI 3 A45 c45 x45]) ?_ ?_
  ·intro K11 hK11
   refine HT_block ?_
   refine HT_loopK (fun kf l' s' => ∃ (x56 : List (Int)) (A56 : Option Addr) (c56 : Nat) (x57 : Int), (spec_ScreenText.l1 p0_0 p0_1 p0_2 p0_3 p0_4 kf x56 x57).bind G11 = some r ∧ skim [1, 2, 0] l' = ([.pointer (some ⟨b2, 0, none⟩), .slice A56 x56.length c56, .int .i64 x57], 21) ∧ Hp sb s F0 s' [Ck.ol OI 3 A56 c56 x56, Ck.ov b2 [.int .i64 p0_0, .int .i64 p0_1, .slice A0_2p p0_2.length c0_2p, .int .i64 p0_3, .int .i64 p0_4] 66]) (((p0_1) - (0)).toNat + 2) ⟨[], none, 0, 0, H, rfl, (hH.nil (K := KI) OI 3).sel [1, 0] (by decide)⟩ ?_
   rintro kf l' s69 ⟨x56, A56, c56, x57, H, hl, hH⟩ K69 hK69
   revert l'
   refine skA ?_
   dsimp only [Al, Sk]
   intros
   cases kf with
   | zero => simp [spec_ScreenText.l1] at H
   | succ kf =>
    rw [spec_ScreenText.l1] at H
    refine HT_seq_k fun K70 hK70 => sr fun K71 hK71 => mv (hc (o_faddr' (ft := 3) (off := 1) rfl Try.underlying66 rfl tI3 (by decide) (hc (o_load' rfl Try.underlying3 rfl (hH.hasv 1 rfl rfl) ?_))))
    dsimp only [putL, setL, evL, getL]
    refine bn rfl rfl rfl (HL_nil (hK71 _ _ ?_))
    dsimp only [putL, setL, evL, getL]
    revert H
    refine ct rfl (fun hb72 H => ?_) (fun hb72 H => ?_)
    ·refine HT_skip (hK70 _ _ (HT_seq_k fun K73 hK73 => (HT_block ?_)))
     refine HT_region ?_
     refine mv (hc (o_loads' [.int .i64 p0_0, .int .i64 p0_1, .slice A0_2p p0_2.length c0_2p, .int .i64 p0_3, .int .i64 p0_4] rfl Try.underlying66 rfl tI66 rfl (hH.partv 1 rfl (0) [.int .i64 p0_0, .int .i64 p0_1, .slice A0_2p p0_2.length c0_2p, .int .i64 p0_3, .int .i64 p0_4] rfl) (mv ?_)))
     replace H := headE H
     obtain ⟨u74, hu74, H⟩ := H
     try dsimp only [putL, setL, evL, getL]
     refine hc (o_call (args := #[.agg #[.int .i64 p0_0, .int .i64 p0_1, .slice A0_2p p0_2.length c0_2p, .int .i64 p0_3, .int .i64 p0_4], .int .i64 x57]) Try.func168 rfl rfl rfl (spec_l16Row.ok sb s69 no p0_0 p0_1 A0_2p c0_2p p0_2 p0_3 p0_4 x57 HRp0_2 (Hp.own hH.bs) _ hu74) ?_)
     rintro _ s74 ⟨A75, c75, rfl, hD⟩
     replace hH := hH.back0 hD (Up.refl _ _ _)
     clear hD
     replace H := headE H
     obtain ⟨x76, hx76, H⟩ := H
     refine hc (o_appF (K := KI) (n := 17592186044416) (A := A56) (c := c56) (xs := x56) (ys := u74) (B := A75) (c2 := c75) hH 0 rfl rfl rfl rfl Try.underlying24 tI3 rfl (by decide) (by decide) (by decide) (Src.flat (hH.rd 2 rfl)) hx76 ?_)
     clear hH
     intro A76 c76 s76 hH
     refine hc (o_litF (K := KI) (O := OI) (ca := #[.int .i64 10]) [[.int .i64 10]] [10] hH Try.underlying24 tI3 rfl (by decide) rfl rfl (by kernel_rfl) rfl ⟨rfl, Ent.own (Ent.flat rfl), trivial⟩ ?_)
     clear hH
     intro A77 s77 hH _
     replace H := headE H
     obtain ⟨x78, hx78, H⟩ := H
     try dsimp only [putL, setL, evL, getL]
     refine hc (o_appF (K := KI) (n := 17592186044416) (A := A76) (c := c76) (xs := x76) (ys := [10]) (B := A77) (c2 := 1) hH 0 rfl rfl rfl rfl Try.underlying24 tI3 rfl (by decide) (by decide) (by decide) (Src.flat (hH.rd 3 rfl)) hx78 ?_)
     clear hH
     intro A78 c78 s78 hH
     refine ag (HL_nil (hK73 _ _ ?_))
     dsimp only [putL, setL, evL, getL]
     refine HT_region ?_
     refine mv (bn rfl rfl rfl (ag (HL_nil ?_)))
     exact hK69 _ _ ⟨kf, Nat.lt_succ_self kf, x78, A78, c78, IntKind.i64.wrap (x57 + 1), H, rfl, hH.sel [0, 1] (by decide)⟩
    ·refine HT_exit ?_
     exact hK11 _ _ ⟨x56, A56, c56, H, rfl, hH.sel [0] (by decide)⟩
  ·rintro l' s79 ⟨x45, A45, c45, H, hl, hH⟩
   revert l'
   refine skA ?_
   dsimp only [Al, Sk]
   intros
   replace H := hG11 _ H
   try dsimp only at H
   refine hK9 _ _ ?_
   refine sr fun K80 hK80 => ?_
   try dsimp only [putL, setL, evL, getL]
   refine mv ?_
   replace H := headE H
   obtain ⟨u81, hu81, H⟩ := H
   refine hc (o_call (args := #[.slice A45 x45.length c45]) Try.func171 rfl rfl rfl (spec_TextOf.ok s79 s79 no A45 c45 x45 (hH.rd 0 rfl) (Hp.own (Bs.refl s79)) _ hu81) ?_)
   rintro _ s81 ⟨rfl, hD⟩
   replace hH := hH.back0T hD
   clear hD
   refine hc (o_extract rfl rfl ?_)
   dsimp only [putL, setL, evL, getL]
   refine hc (o_extract rfl rfl (ag (ag (HL_nil (hK80 _ _ ?_)))))
   dsimp only [putL, setL, evL, getL]
   refine HT_ret ?_
   exact hQr _ _ [.string u81.1, .bool u81.2] _ ⟨rfl, rfl, trivial⟩ H ⟨rfl, hH.sel [] (by decide)⟩
def bits_Mul32.f (p0 : Int) (p1 : Int) : Option (Int × Int) := (shrK? .u64 (IntKind.u64.wrap ((IntKind.u64.wrap p0) * (IntKind.u64.wrap p1))) 32).bind fun u4 => some ((IntKind.u32.wrap u4), (IntKind.u32.wrap (IntKind.u64.wrap ((IntKind.u64.wrap p0) * (IntKind.u64.wrap p1)))))
def bits_Mul32.post (sb s : St) (F0 : Fp) (r : Int × Int) : Value → St → Prop := fun v s' => v = .tuple #[.int .u32 r.1, .int .u32 r.2] ∧ Hp sb s F0 s' []
set_option maxRecDepth 100000 in
set_option maxHeartbeats 4000000 in
theorem bits_Mul32.ok (sb s : St) (F0 : Fp) (p0 : Int) (p1 : Int) (hH : Hp sb s F0 s []) (r : Int × Int) (H : bits_Mul32.f p0 p1 = some r) : GCall Try.prog 235 #[.int .u32 p0, .int .u32 p1] s (bits_Mul32.post sb s F0 r) := by
 refine GCall_ofr (bits_Mul32.post sb s F0) [.tmp 4, .tmp 5] (ud [.int .u32 p0, .int .u32 p1] 15) Try.func235 rfl rfl rfl fun w Q hQr hQn hQp => ?_
 replace H := topE H
 unfold bits_Mul32.f at H
 dsimp only [ud, un]
 refine sr fun K1 hK1 => ag (ag (HL_nil (hK1 _ _ ?_)))
 dsimp only [putL, setL, evL, getL]
 refine sr fun K2 hK2 => mv (hc (o_conv rfl Try.underlying227 Try.underlying111 (mv ?_)))
 dsimp only [putL, setL, evL, getL]
 refine hc (o_conv rfl Try.underlying227 Try.underlying111 (bn rfl rfl rfl (ag (HL_nil (hK2 _ _ ?_)))))
 dsimp only [putL, setL, evL, getL]
 refine sr fun K3 hK3 => mv ?_
 replace H := headE H
 obtain ⟨u4, hu4, H⟩ := H
 refine hc (o_shrK rfl rfl hu4 (hc (o_conv rfl Try.underlying111 Try.underlying227 ?_)))
 dsimp only [putL, setL, evL, getL]
 refine mv (hc (o_conv rfl Try.underlying111 Try.underlying227 (ag ?_)))
 dsimp only [putL, setL, evL, getL]
 refine ag (HL_nil (hK3 _ _ ?_))
 dsimp only [putL, setL, evL, getL]
 refine HT_ret ?_
 exact hQr _ _ [.int .u32 (IntKind.u32.wrap u4), .int .u32 (IntKind.u32.wrap (IntKind.u64.wrap ((IntKind.u64.wrap p0) * (IntKind.u64.wrap p1))))] _ ⟨rfl, rfl, trivial⟩ H ⟨rfl, hH⟩
def bits_Mul64.f (p0 : Int) (p1 : Int) : Option (Int × Int) := (shrK? .u64 p0 32).bind fun u4 => (shrK? .u64 p1 32).bind fun u7 => (shrK? .u64 (IntKind.u64.wrap ((bits .and .u64 p0 4294967295) * (bits .and .u64 p1 4294967295))) 32).bind fun u10 => (shrK? .u64 (IntKind.u64.wrap ((IntKind.u64.wrap (u4 * (bits .and .u64 p1 4294967295))) + u10)) 32).bind fun u13 => (shrK? .u64 (IntKind.u64.wrap ((bits .and .u64 (IntKind.u64.wrap ((IntKind.u64.wrap (u4 * (bits .and .u64 p1 4294967295))) + u10)) 4294967295) + (IntKind.u64.wrap ((bits .and .u64 p0 4294967295) * u7)))) 32).bind fun u16 => some ((IntKind.u64.wrap ((IntKind.u64.wrap ((IntKind.u64.wrap (u4 * u7)) + u13)) + u16)), (IntKind.u64.wrap (p0 * p1)))
def bits_Mul64.post (sb s : St) (F0 : Fp) (r : Int × Int) : Value → St → Prop := fun v s' => v = .tuple #[.int .u64 r.1, .int .u64 r.2] ∧ Hp sb s F0 s' []
set_option maxRecDepth 100000 in
set_option maxHeartbeats 4000000 in
theorem bits_Mul64.ok (sb s : St) (F0 : Fp) (p0 : Int) (p1 : Int) (hH : Hp sb s F0 s []) (r : Int × Int) (H : bits_Mul64.f p0 p1 = some r) : GCall Try.prog 236 #[.int .u64 p0, .int .u64 p1] s (bits_Mul64.post sb s F0 r) := by
 refine GCall_ofr (bits_Mul64.post sb s F0) [.tmp 4, .tmp 5] (ud [.int .u64 p0, .int .u64 p1] 49) Try.func236 rfl rfl rfl fun w Q hQr hQn hQp => ?_
 replace H := topE H
 unfold bits_Mul64.f at H
 dsimp only [ud, un]
 refine sr fun K1 hK1 => ag (ag (HL_nil (hK1 _ _ ?_)))
 dsimp only [putL, setL, evL, getL]
 refine sr fun K2 hK2 => mv (bn rfl rfl rfl (ag (HL_nil (hK2 _ _ ?_))))
 dsimp only [putL, setL, evL, getL]
 refine sr fun K3 hK3 => mv ?_
 replace H := headE H
 obtain ⟨u4, hu4, H⟩ := H
 refine hc (o_shrK rfl rfl hu4 (ag (HL_nil (hK3 _ _ ?_))))
 dsimp only [putL, setL, evL, getL]
 refine sr fun K5 hK5 => mv (bn rfl rfl rfl (ag (HL_nil (hK5 _ _ ?_))))
 dsimp only [putL, setL, evL, getL]
 refine sr fun K6 hK6 => mv ?_
 replace H := headE H
 obtain ⟨u7, hu7, H⟩ := H
 refine hc (o_shrK rfl rfl hu7 (ag (HL_nil (hK6 _ _ ?_))))
 dsimp only [putL, setL, evL, getL]
 refine sr fun K8 hK8 => mv (mv (bn rfl rfl rfl ?_))
 dsimp only [putL, setL, evL, getL]
 refine ag (HL_nil (hK8 _ _ ?_))
 dsimp only [putL, setL, evL, getL]
 refine sr fun K9 hK9 => mv (mv (bn rfl rfl rfl ?_))
 dsimp only [putL, setL, evL, getL]
 refine mv ?_
 replace H := headE H
 obtain ⟨u10, hu10, H⟩ := H
 refine hc (o_shrK rfl rfl hu10 (bn rfl rfl rfl ?_))
 dsimp only [putL, setL, evL, getL]
 refine ag (HL_nil (hK9 _ _ ?_))
 dsimp only [putL, setL, evL, getL]
 refine sr fun K11 hK11 => mv (bn rfl rfl rfl (ag (HL_nil (hK11 _ _ ?_))))
 dsimp only [putL, setL, evL, getL]
 refine sr fun K12 hK12 => mv ?_
 replace H := headE H
 obtain ⟨u13, hu13, H⟩ := H
 refine hc (o_shrK rfl rfl hu13 (ag (HL_nil (hK12 _ _ ?_))))
 dsimp only [putL, setL, evL, getL]
 refine sr fun K14 hK14 => mv (mv (mv ?_))
 dsimp only [putL, setL, evL, getL]
 refine bn rfl rfl rfl (bn rfl rfl rfl (ag (HL_nil (hK14 _ _ ?_))))
 dsimp only [putL, setL, evL, getL]
 refine sr fun K15 hK15 => mv (mv (bn rfl rfl rfl ?_))
 dsimp only [putL, setL, evL, getL]
 refine mv (bn rfl rfl rfl (mv ?_))
 replace H := headE H
 obtain ⟨u16, hu16, H⟩ := H
 try dsimp only [putL, setL, evL, getL]
 refine hc (o_shrK rfl rfl hu16 (bn rfl rfl rfl (ag (HL_nil (hK15 _ _ ?_)))))
 dsimp only [putL, setL, evL, getL]
 refine sr fun K17 hK17 => mv (mv (bn rfl rfl rfl ?_))
 dsimp only [putL, setL, evL, getL]
 refine ag (HL_nil (hK17 _ _ ?_))
 dsimp only [putL, setL, evL, getL]
 refine HT_ret ?_
 exact hQr _ _ [.int .u64 (IntKind.u64.wrap ((IntKind.u64.wrap ((IntKind.u64.wrap (u4 * u7)) + u13)) + u16)), .int .u64 (IntKind.u64.wrap (p0 * p1))] _ ⟨rfl, rfl, trivial⟩ H ⟨rfl, hH⟩
def bits_Mul.f (p0 : Int) (p1 : Int) : Option (Int × Int) := if false = true then ((bits_Mul32.f (IntKind.u32.wrap p0) (IntKind.u32.wrap p1)).bind fun u5 => some ((IntKind.u64.wrap u5.1), (IntKind.u64.wrap u5.2))) else ((bits_Mul64.f p0 p1).bind fun u8 => some (u8.1, u8.2))
def bits_Mul.post (sb s : St) (F0 : Fp) (r : Int × Int) : Value → St → Prop := fun v s' => v = .tuple #[.int .u64 r.1, .int .u64 r.2] ∧ Hp sb s F0 s' []
set_option maxRecDepth 100000 in
set_option maxHeartbeats 4000000 in
theorem bits_Mul.ok (sb s : St) (F0 : Fp) (p0 : Int) (p1 : Int) (hH : Hp sb s F0 s []) (r : Int × Int) (H : bits_Mul.f p0 p1 = some r) : GCall Try.prog 222 #[.int .u64 p0, .int .u64 p1] s (bits_Mul.post sb s F0 r) := by
 refine GCall_ofr (bits_Mul.post sb s F0) [.tmp 4, .tmp 5] (ud [.int .u64 p0, .int .u64 p1] 28) Try.func222 rfl rfl rfl fun w Q hQr hQn hQp => ?_
 replace H := topE H
 unfold bits_Mul.f at H
 dsimp only [ud, un]
 refine sr fun K1 hK1 => ag (ag (HL_nil (hK1 _ _ ?_)))
 dsimp only [putL, setL, evL, getL]
 refine HT_seq_k fun K2 hK2 => ?_
 revert H
 refine ct rfl (fun hb3 H => ?_) (fun hb3 H => ?_)
 ·refine sr fun K4 hK4 => mv (hc (o_conv rfl Try.underlying119 Try.underlying227 (mv ?_)))
  dsimp only [putL, setL, evL, getL]
  refine hc (o_conv rfl Try.underlying119 Try.underlying227 ?_)
  replace H := headE H
  obtain ⟨u5, hu5, H⟩ := H
  refine hc (o_call (args := #[.int .u32 (IntKind.u32.wrap p0), .int .u32 (IntKind.u32.wrap p1)]) Try.func235 rfl rfl rfl (bits_Mul32.ok sb s no (IntKind.u32.wrap p0) (IntKind.u32.wrap p1) (Hp.own hH.bs) _ hu5) ?_)
  rintro _ s5 ⟨rfl, hD⟩
  replace hH := hH.back0 hD (Up.refl _ _ _)
  clear hD
  refine mv ?_
  dsimp only [putL, setL, evL, getL]
  refine hc (o_extract rfl rfl (hc (o_extract rfl rfl (ag ?_))))
  dsimp only [putL, setL, evL, getL]
  refine ag (HL_nil (hK4 _ _ ?_))
  dsimp only [putL, setL, evL, getL]
  refine sr fun K6 hK6 => mv (hc (o_conv rfl Try.underlying227 Try.underlying119 (mv ?_)))
  dsimp only [putL, setL, evL, getL]
  refine hc (o_conv rfl Try.underlying227 Try.underlying119 (ag (ag (HL_nil (hK6 _ _ ?_)))))
  dsimp only [putL, setL, evL, getL]
  refine HT_ret ?_
  exact hQr _ _ [.int .u64 (IntKind.u64.wrap u5.1), .int .u64 (IntKind.u64.wrap u5.2)] _ ⟨rfl, rfl, trivial⟩ H ⟨rfl, hH⟩
 ·refine HT_skip (hK2 _ _ (sr fun K7 hK7 => (mv (mv ?_))))
  replace H := headE H
  obtain ⟨u8, hu8, H⟩ := H
  refine hc (o_call (args := #[.int .u64 p0, .int .u64 p1]) Try.func236 rfl rfl rfl (bits_Mul64.ok sb s no p0 p1 (Hp.own hH.bs) _ hu8) ?_)
  rintro _ s8 ⟨rfl, hD⟩
  replace hH := hH.back0 hD (Up.refl _ _ _)
  clear hD
  try dsimp only [putL, setL, evL, getL]
  refine mv (hc (o_extract rfl rfl (hc (o_extract rfl rfl ?_))))
  dsimp only [putL, setL, evL, getL]
  refine ag (ag (HL_nil (hK7 _ _ ?_)))
  dsimp only [putL, setL, evL, getL]
  refine sr fun K9 hK9 => mv (mv (ag ?_))
  dsimp only [putL, setL, evL, getL]
  refine ag (HL_nil (hK9 _ _ ?_))
  dsimp only [putL, setL, evL, getL]
  refine HT_ret ?_
  exact hQr _ _ [.int .u64 u8.1, .int .u64 u8.2] _ ⟨rfl, rfl, trivial⟩ H ⟨rfl, hH⟩
end Go.Proofs.Ytkieinlcpkpcjaa
