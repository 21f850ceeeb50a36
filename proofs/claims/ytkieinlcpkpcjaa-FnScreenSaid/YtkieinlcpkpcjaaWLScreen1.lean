/- The functions that the law reaches, as plain functions, each with its contract: printed by a program of the prover's. No conditions: lemmas. -/
import Derived.Test.YtkieinlcpkpcjaaWLScreen0
set_option linter.unusedVariables false
set_option linter.unusedSimpArgs false
namespace Go.Proofs.Ytkieinlcpkpcjaa
open Go Go.Proofs.GL
attribute [local irreducible] HL HT HX HK
def impl_GoodScreen.f (p0_0 : Int) (p0_1 : Int) (p0_2 : List (Int)) (p0_3 : Int) (p0_4 : Int) : Option Bool := (impl_inRange.f p0_0 1 20).bind fun u4 => if u4 = true then ((impl_inRange.f p0_1 1 8).bind fun u6 => if u6 = true then (if ((p0_2.length : Int) == (IntKind.i64.wrap (p0_0 * p0_1))) = true then ((impl_inRange.f p0_3 0 p0_0).bind fun u9 => if u9 = true then ((impl_isPlace.f p0_4 p0_1).bind fun u11 => if u11 = true then ((slices_ContainsFunc_int_int_impl_GoodScreen_1.f p0_2).bind fun u13 => some (!u13)) else (some false)) else (some false)) else (some false)) else (some false)) else (some false)
def impl_GoodScreen.post (sb s : St) (F0 : Fp) (r : Bool) : Value → St → Prop := fun v s' => v = .bool r ∧ Hp sb s F0 s' []
set_option maxRecDepth 100000 in
set_option maxHeartbeats 4000000 in
theorem impl_GoodScreen.ok (sb s : St) (F0 : Fp) (p0_0 : Int) (p0_1 : Int) (A0_2p : Option Addr) (c0_2p : Nat) (p0_2 : List (Int)) (p0_3 : Int) (p0_4 : Int) (HRp0_2 : Rd KI sb A0_2p c0_2p p0_2) (hH : Hp sb s F0 s []) (r : Bool) (H : impl_GoodScreen.f p0_0 p0_1 p0_2 p0_3 p0_4 = some r) : GCall Try.prog 52 #[.agg #[.int .i64 p0_0, .int .i64 p0_1, .slice A0_2p p0_2.length c0_2p, .int .i64 p0_3, .int .i64 p0_4]] s (impl_GoodScreen.post sb s F0 r) := by
 refine GCall_ofr (impl_GoodScreen.post sb s F0) [.tmp 2] (ud [.agg #[.int .i64 p0_0, .int .i64 p0_1, .slice A0_2p p0_2.length c0_2p, .int .i64 p0_3, .int .i64 p0_4]] 41) Try.func52 rfl rfl rfl fun w Q hQr hQn hQp => ?_
 replace H := topE H
 unfold impl_GoodScreen.f at H
 dsimp only [ud, un]
 refine sr fun K1 hK1 => hc (o_boxH hH rfl ?_)
 clear hH
 intro b2 s2 hH _
 refine ag (HL_nil (hK1 _ _ ?_))
 dsimp only [putL, setL, evL, getL]
 refine sr fun K3 hK3 => hc (o_faddr' (ft := 3) (off := 0) rfl Try.underlying66 rfl tI3 (by decide) (hc (o_load' rfl Try.underlying3 rfl (hH.hasv 0 rfl rfl) ?_)))
 replace H := headE H
 obtain ⟨u4, hu4, H⟩ := H
 refine hc (o_call (args := #[.int .i64 p0_0, .int .i64 1, .int .i64 20]) Try.func105 rfl rfl rfl (impl_inRange.ok sb s2 no p0_0 1 20 (Hp.own hH.bs) _ hu4) ?_)
 rintro _ s4 ⟨rfl, hD⟩
 replace hH := hH.back0 hD (Up.refl _ _ _)
 clear hD
 try dsimp only [putL, setL, evL, getL]
 refine mv ?_
 revert H
 refine it (fun hb5 H => ?_) (fun hb5 H => ?_)
 ·refine wt rfl rfl rfl rfl hb5 (o_faddr' (ft := 3) (off := 1) rfl Try.underlying66 rfl tI3 (by decide) (wt rfl rfl rfl rfl hb5 (o_load' rfl Try.underlying3 rfl (hH.hasv 0 rfl rfl) ?_)))
  replace H := headE H
  obtain ⟨u6, hu6, H⟩ := H
  try dsimp only [putL, setL, evL, getL]
  refine wt rfl rfl rfl rfl hb5 (o_call (args := #[.int .i64 p0_1, .int .i64 1, .int .i64 8]) Try.func105 rfl rfl rfl (impl_inRange.ok sb s4 no p0_1 1 8 (Hp.own hH.bs) _ hu6) ?_)
  rintro _ s6 ⟨rfl, hD⟩
  replace hH := hH.back0 hD (Up.refl _ _ _)
  clear hD
  refine hc (o_pickT rfl hb5 (mv ?_))
  revert H
  refine it (fun hb7 H => ?_) (fun hb7 H => ?_)
  ·refine wt rfl rfl rfl rfl hb7 (o_faddr' (ft := 24) (off := 2) rfl Try.underlying66 rfl tI24 (by decide) ?_)
   dsimp only [putL, setL, evL, getL]
   refine wt rfl rfl rfl rfl hb7 (o_load' rfl Try.underlying24 rfl (hH.hasv 0 rfl rfl) (wt rfl rfl rfl rfl hb7 (o_len rfl Try.underlying24 (wt rfl rfl rfl rfl hb7 (o_faddr' (ft := 3) (off := 0) rfl Try.underlying66 rfl tI3 (by decide) ?_)))))
   dsimp only [putL, setL, evL, getL]
   refine wt rfl rfl rfl rfl hb7 (o_load' rfl Try.underlying3 rfl (hH.hasv 0 rfl rfl) (wt rfl rfl rfl rfl hb7 (o_faddr' (ft := 3) (off := 1) rfl Try.underlying66 rfl tI3 (by decide) (wt rfl rfl rfl rfl hb7 (o_load' rfl Try.underlying3 rfl (hH.hasv 0 rfl rfl) ?_)))))
   dsimp only [putL, setL, evL, getL]
   refine wt rfl rfl rfl rfl hb7 (o_bin rfl rfl rfl (wt rfl rfl rfl rfl hb7 (o_bin rfl rfl rfl (hc (o_pickT rfl hb7 ?_)))))
   dsimp only [putL, setL, evL, getL]
   refine mv ?_
   revert H
   refine it (fun hb8 H => ?_) (fun hb8 H => ?_)
   ·refine wt rfl rfl rfl rfl hb8 (o_faddr' (ft := 3) (off := 3) rfl Try.underlying66 rfl tI3 (by decide) (wt rfl rfl rfl rfl hb8 (o_load' rfl Try.underlying3 rfl (hH.hasv 0 rfl rfl) ?_)))
    dsimp only [putL, setL, evL, getL]
    refine wt rfl rfl rfl rfl hb8 (o_faddr' (ft := 3) (off := 0) rfl Try.underlying66 rfl tI3 (by decide) (wt rfl rfl rfl rfl hb8 (o_load' rfl Try.underlying3 rfl (hH.hasv 0 rfl rfl) ?_)))
    replace H := headE H
    obtain ⟨u9, hu9, H⟩ := H
    refine wt rfl rfl rfl rfl hb8 (o_call (args := #[.int .i64 p0_3, .int .i64 0, .int .i64 p0_0]) Try.func105 rfl rfl rfl (impl_inRange.ok sb s6 no p0_3 0 p0_0 (Hp.own hH.bs) _ hu9) ?_)
    rintro _ s9 ⟨rfl, hD⟩
    replace hH := hH.back0 hD (Up.refl _ _ _)
    clear hD
    try dsimp only [putL, setL, evL, getL]
    refine hc (o_pickT rfl hb8 (mv ?_))
    revert H
    refine it (fun hb10 H => ?_) (fun hb10 H => ?_)
    ·refine wt rfl rfl rfl rfl hb10 (o_faddr' (ft := 3) (off := 4) rfl Try.underlying66 rfl tI3 (by decide) ?_)
     dsimp only [putL, setL, evL, getL]
     refine wt rfl rfl rfl rfl hb10 (o_load' rfl Try.underlying3 rfl (hH.hasv 0 rfl rfl) (wt rfl rfl rfl rfl hb10 (o_faddr' (ft := 3) (off := 1) rfl Try.underlying66 rfl tI3 (by decide) (wt rfl rfl rfl rfl hb10 (o_load' rfl Try.underlying3 rfl (hH.hasv 0 rfl rfl) ?_)))))
     replace H := headE H
     obtain ⟨u11, hu11, H⟩ := H
     try dsimp only [putL, setL, evL, getL]
     refine wt rfl rfl rfl rfl hb10 (o_call (args := #[.int .i64 p0_4, .int .i64 p0_1]) Try.func133 rfl rfl rfl (impl_isPlace.ok sb s9 no p0_4 p0_1 (Hp.own hH.bs) _ hu11) ?_)
     rintro _ s11 ⟨rfl, hD⟩
     replace hH := hH.back0 hD (Up.refl _ _ _)
     clear hD
     refine hc (o_pickT rfl hb10 (mv ?_))
     revert H
     refine it (fun hb12 H => ?_) (fun hb12 H => ?_)
     ·refine wt rfl rfl rfl rfl hb12 (o_faddr' (ft := 24) (off := 2) rfl Try.underlying66 rfl tI24 (by decide) ?_)
      dsimp only [putL, setL, evL, getL]
      refine wt rfl rfl rfl rfl hb12 (o_load' rfl Try.underlying24 rfl (hH.hasv 0 rfl rfl) ?_)
      replace H := headE H
      obtain ⟨u13, hu13, H⟩ := H
      refine wt rfl rfl rfl rfl hb12 (o_call (args := #[.slice A0_2p p0_2.length c0_2p, .func (.func 145) #[] #[]]) Try.func114 rfl rfl rfl (slices_ContainsFunc_int_int_impl_GoodScreen_1.ok sb s11 no A0_2p c0_2p p0_2 HRp0_2 (Hp.own hH.bs) _ hu13) ?_)
      rintro _ s13 ⟨rfl, hD⟩
      replace hH := hH.back0 hD (Up.refl _ _ _)
      clear hD
      refine wt rfl rfl rfl rfl hb12 (o_not rfl ?_)
      dsimp only [putL, setL, evL, getL]
      refine hc (o_pickT rfl hb12 (ag (HL_nil (hK3 _ _ ?_))))
      dsimp only [putL, setL, evL, getL]
      refine HT_ret ?_
      exact hQr _ _ [.bool (!u13)] _ ⟨rfl, trivial⟩ H ⟨rfl, hH.sel [] (by decide)⟩
     ·refine wf rfl rfl rfl rfl hb12 (wf rfl rfl rfl rfl hb12 (wf rfl rfl rfl rfl hb12 ?_))
      dsimp only [putL, setL, evL, getL]
      refine wf rfl rfl rfl rfl hb12 (hc (o_pickF rfl hb12 (ag (HL_nil (hK3 _ _ ?_)))))
      dsimp only [putL, setL, evL, getL]
      refine HT_ret ?_
      exact hQr _ _ [.bool false] _ ⟨rfl, trivial⟩ H ⟨rfl, hH.sel [] (by decide)⟩
    ·refine wf rfl rfl rfl rfl hb10 (wf rfl rfl rfl rfl hb10 (wf rfl rfl rfl rfl hb10 ?_))
     dsimp only [putL, setL, evL, getL]
     refine wf rfl rfl rfl rfl hb10 (wf rfl rfl rfl rfl hb10 (hc (o_pickF rfl hb10 ?_)))
     dsimp only [putL, setL, evL, getL]
     refine mv (wf rfl rfl rfl rfl rfl (wf rfl rfl rfl rfl rfl ?_))
     dsimp only [putL, setL, evL, getL]
     refine wf rfl rfl rfl rfl rfl (wf rfl rfl rfl rfl rfl (hc (o_pickF rfl rfl ?_)))
     dsimp only [putL, setL, evL, getL]
     refine ag (HL_nil (hK3 _ _ ?_))
     dsimp only [putL, setL, evL, getL]
     refine HT_ret ?_
     exact hQr _ _ [.bool false] _ ⟨rfl, trivial⟩ H ⟨rfl, hH.sel [] (by decide)⟩
   ·refine wf rfl rfl rfl rfl hb8 (wf rfl rfl rfl rfl hb8 (wf rfl rfl rfl rfl hb8 ?_))
    dsimp only [putL, setL, evL, getL]
    refine wf rfl rfl rfl rfl hb8 (wf rfl rfl rfl rfl hb8 (hc (o_pickF rfl hb8 ?_)))
    dsimp only [putL, setL, evL, getL]
    refine mv (wf rfl rfl rfl rfl rfl (wf rfl rfl rfl rfl rfl ?_))
    dsimp only [putL, setL, evL, getL]
    refine wf rfl rfl rfl rfl rfl (wf rfl rfl rfl rfl rfl (wf rfl rfl rfl rfl rfl ?_))
    dsimp only [putL, setL, evL, getL]
    refine hc (o_pickF rfl rfl (mv (wf rfl rfl rfl rfl rfl ?_)))
    dsimp only [putL, setL, evL, getL]
    refine wf rfl rfl rfl rfl rfl (wf rfl rfl rfl rfl rfl (wf rfl rfl rfl rfl rfl ?_))
    dsimp only [putL, setL, evL, getL]
    refine hc (o_pickF rfl rfl (ag (HL_nil (hK3 _ _ ?_))))
    dsimp only [putL, setL, evL, getL]
    refine HT_ret ?_
    exact hQr _ _ [.bool false] _ ⟨rfl, trivial⟩ H ⟨rfl, hH.sel [] (by decide)⟩
  ·refine wf rfl rfl rfl rfl hb7 (wf rfl rfl rfl rfl hb7 (wf rfl rfl rfl rfl hb7 ?_))
   dsimp only [putL, setL, evL, getL]
   refine wf rfl rfl rfl rfl hb7 (wf rfl rfl rfl rfl hb7 (wf rfl rfl rfl rfl hb7 ?_))
   dsimp only [putL, setL, evL, getL]
   refine wf rfl rfl rfl rfl hb7 (wf rfl rfl rfl rfl hb7 (wf rfl rfl rfl rfl hb7 ?_))
   dsimp only [putL, setL, evL, getL]
   refine hc (o_pickF rfl hb7 (mv (wf rfl rfl rfl rfl rfl ?_)))
   dsimp only [putL, setL, evL, getL]
   refine wf rfl rfl rfl rfl rfl (wf rfl rfl rfl rfl rfl (wf rfl rfl rfl rfl rfl ?_))
   dsimp only [putL, setL, evL, getL]
   refine wf rfl rfl rfl rfl rfl (hc (o_pickF rfl rfl (mv ?_)))
   dsimp only [putL, setL, evL, getL]
   refine wf rfl rfl rfl rfl rfl (wf rfl rfl rfl rfl rfl (wf rfl rfl rfl rfl rfl ?_))
   dsimp only [putL, setL, evL, getL]
   refine wf rfl rfl rfl rfl rfl (wf rfl rfl rfl rfl rfl (hc (o_pickF rfl rfl ?_)))
   dsimp only [putL, setL, evL, getL]
   refine mv (wf rfl rfl rfl rfl rfl (wf rfl rfl rfl rfl rfl ?_))
   dsimp only [putL, setL, evL, getL]
   refine wf rfl rfl rfl rfl rfl (wf rfl rfl rfl rfl rfl (hc (o_pickF rfl rfl ?_)))
   dsimp only [putL, setL, evL, getL]
   refine ag (HL_nil (hK3 _ _ ?_))
   dsimp only [putL, setL, evL, getL]
   refine HT_ret ?_
   exact hQr _ _ [.bool false] _ ⟨rfl, trivial⟩ H ⟨rfl, hH.sel [] (by decide)⟩
 ·refine wf rfl rfl rfl rfl hb5 (wf rfl rfl rfl rfl hb5 (wf rfl rfl rfl rfl hb5 ?_))
  dsimp only [putL, setL, evL, getL]
  refine hc (o_pickF rfl hb5 (mv (wf rfl rfl rfl rfl rfl ?_)))
  dsimp only [putL, setL, evL, getL]
  refine wf rfl rfl rfl rfl rfl (wf rfl rfl rfl rfl rfl (wf rfl rfl rfl rfl rfl ?_))
  dsimp only [putL, setL, evL, getL]
  refine wf rfl rfl rfl rfl rfl (wf rfl rfl rfl rfl rfl (wf rfl rfl rfl rfl rfl ?_))
  dsimp only [putL, setL, evL, getL]
  refine wf rfl rfl rfl rfl rfl (wf rfl rfl rfl rfl rfl (hc (o_pickF rfl rfl ?_)))
  dsimp only [putL, setL, evL, getL]
  refine mv (wf rfl rfl rfl rfl rfl (wf rfl rfl rfl rfl rfl ?_))
  dsimp only [putL, setL, evL, getL]
  refine wf rfl rfl rfl rfl rfl (wf rfl rfl rfl rfl rfl (wf rfl rfl rfl rfl rfl ?_))
  dsimp only [putL, setL, evL, getL]
  refine hc (o_pickF rfl rfl (mv (wf rfl rfl rfl rfl rfl ?_)))
  dsimp only [putL, setL, evL, getL]
  refine wf rfl rfl rfl rfl rfl (wf rfl rfl rfl rfl rfl (wf rfl rfl rfl rfl rfl ?_))
  dsimp only [putL, setL, evL, getL]
  refine wf rfl rfl rfl rfl rfl (hc (o_pickF rfl rfl (mv ?_)))
  dsimp only [putL, setL, evL, getL]
  refine wf rfl rfl rfl rfl rfl (wf rfl rfl rfl rfl rfl (wf rfl rfl rfl rfl rfl ?_))
  dsimp only [putL, setL, evL, getL]
  refine wf rfl rfl rfl rfl rfl (hc (o_pickF rfl rfl (ag (HL_nil (hK3 _ _ ?_)))))
  dsimp only [putL, setL, evL, getL]
  refine HT_ret ?_
  exact hQr _ _ [.bool false] _ ⟨rfl, trivial⟩ H ⟨rfl, hH.sel [] (by decide)⟩
def impl_areRunes_1.f (p0 : Int) : Option Bool := (impl_GoodRune.f p0).bind fun u3 => some (!u3)
def impl_areRunes_1.post (sb s : St) (F0 : Fp) (r : Bool) : Value → St → Prop := fun v s' => v = .bool r ∧ Hp sb s F0 s' []
set_option maxRecDepth 100000 in
set_option maxHeartbeats 4000000 in
theorem impl_areRunes_1.ok (sb s : St) (F0 : Fp) (p0 : Int) (hH : Hp sb s F0 s []) (r : Bool) (H : impl_areRunes_1.f p0 = some r) : GCall Try.prog 186 #[.int .i64 p0] s (impl_areRunes_1.post sb s F0 r) := by
 refine GCall_ofr (impl_areRunes_1.post sb s F0) [.tmp 2] (ud [.int .i64 p0] 5) Try.func186 rfl rfl rfl fun w Q hQr hQn hQp => ?_
 replace H := topE H
 unfold impl_areRunes_1.f at H
 dsimp only [ud, un]
 refine sr fun K1 hK1 => ag (HL_nil (hK1 _ _ ?_))
 dsimp only [putL, setL, evL, getL]
 refine sr fun K2 hK2 => mv ?_
 replace H := headE H
 obtain ⟨u3, hu3, H⟩ := H
 refine hc (o_call (args := #[.int .i64 p0]) Try.func146 rfl rfl rfl (impl_GoodRune.ok sb s no p0 (Hp.own hH.bs) _ hu3) ?_)
 rintro _ s3 ⟨rfl, hD⟩
 replace hH := hH.back0 hD (Up.refl _ _ _)
 clear hD
 refine hc (o_not rfl ?_)
 dsimp only [putL, setL, evL, getL]
 refine ag (HL_nil (hK2 _ _ ?_))
 dsimp only [putL, setL, evL, getL]
 refine HT_ret ?_
 exact hQr _ _ [.bool (!u3)] _ ⟨rfl, trivial⟩ H ⟨rfl, hH⟩
def slices_IndexFunc_int_int_impl_areRunes_1.l1 (p0 : List (Int)) : Nat → Int → Option (Lo Unit Int)
 | 0, _ => none
 | kf + 1, x48 => if (decide (x48 < (p0.length : Int))) = true then ((rd? p0 x48).bind fun u67 => (impl_areRunes_1.f u67).bind fun u68 => if u68 = true then ((some x48).bind fun z => some (Lo.ret z)) else (slices_IndexFunc_int_int_impl_areRunes_1.l1 p0 kf (IntKind.i64.wrap (x48 + 1)))) else (some (Lo.go ()))
def slices_IndexFunc_int_int_impl_areRunes_1.f (p0 : List (Int)) : Option Int := (slices_IndexFunc_int_int_impl_areRunes_1.l1 p0 ((((p0.length : Int)) - (0)).toNat + 2) 0).bind fun (o : Lo Unit Int) => match o with | .go () => (some (-1)) | .ret z => some z
def slices_IndexFunc_int_int_impl_areRunes_1.post (sb s : St) (F0 : Fp) (r : Int) : Value → St → Prop := fun v s' => v = .int .i64 r ∧ Hp sb s F0 s' []
set_option maxRecDepth 100000 in
set_option maxHeartbeats 4000000 in
theorem slices_IndexFunc_int_int_impl_areRunes_1.ok (sb s : St) (F0 : Fp) (A0p : Option Addr) (c0p : Nat) (p0 : List (Int)) (HRp0 : Rd KI sb A0p c0p p0) (hH : Hp sb s F0 s []) (r : Int) (H : slices_IndexFunc_int_int_impl_areRunes_1.f p0 = some r) : GCall Try.prog 184 #[.slice A0p p0.length c0p, .func (.func 186) #[] #[]] s (slices_IndexFunc_int_int_impl_areRunes_1.post sb s F0 r) := by
 refine GCall_ofr (slices_IndexFunc_int_int_impl_areRunes_1.post sb s F0) [.tmp 4] (ud [.slice A0p p0.length c0p, .func (.func 186) #[] #[]] 17) Try.func184 rfl rfl rfl fun w Q hQr hQn hQp => ?_
 replace H := topE H
 unfold slices_IndexFunc_int_int_impl_areRunes_1.f at H
 dsimp only [ud, un]
 refine sr fun K1 hK1 => ag (HL_nil (hK1 _ _ ?_))
 dsimp only [putL, setL, evL, getL]
 refine HT_seq_k fun K2 hK2 => sr fun K3 hK3 => mv (hc (o_len rfl Try.underlying24 (mv (HL_nil (hK3 _ _ ?_)))))
 dsimp only [putL, setL, evL, getL]
 refine joinH H fun G4 hG4 H => ?_
 refine HT_toK (fun l' s' => G4 (.go ()) = some r ∧ skim [] l' = ([], 20) ∧ Hp sb s F0 s' []) ?_ ?_
 ·intro K4 hK4
  refine HT_block ?_
  refine HT_loopK (fun kf l' s' => ∃ (x48 : Int), (slices_IndexFunc_int_int_impl_areRunes_1.l1 p0 kf x48).bind G4 = some r ∧ skim [0, 0, 5, 0] l' = ([.slice A0p p0.length c0p, .func (.func 186) #[] #[], .int .i64 (p0.length : Int), .int .i64 x48], 11) ∧ Hp sb s F0 s' []) ((((p0.length : Int)) - (0)).toNat + 2) ⟨0, H, rfl, hH⟩ ?_
  rintro kf l' s60 ⟨x48, H, hl, hH⟩ K60 hK60
  revert l'
  refine skA ?_
  dsimp only [Al, Sk]
  intros
  cases kf with
  | zero => simp [slices_IndexFunc_int_int_impl_areRunes_1.l1] at H
  | succ kf =>
   rw [slices_IndexFunc_int_int_impl_areRunes_1.l1] at H
   refine sr fun K61 hK61 => bn rfl rfl rfl (HL_nil (hK61 _ _ ?_))
   dsimp only [putL, setL, evL, getL]
   refine HT_seq_k fun K62 hK62 => ?_
   revert H
   refine ct rfl (fun hb63 H => ?_) (fun hb63 H => ?_)
   ·refine HT_skip (hK62 _ _ (HT_seq_k fun K64 hK64 => (HT_block (sr fun K65 hK65 => (mv (ag (HL_nil (hK65 _ _ ?_))))))))
    dsimp only [putL, setL, evL, getL]
    refine sr fun K66 hK66 => mv (mv (mv ?_))
    replace H := headE H
    obtain ⟨u67, hu67, H⟩ := H
    obtain ⟨b67, o67, cs67, hr67, hh67, hel67⟩ := Rd.elb HRp0 hu67
    obtain rfl := hr67
    try dsimp only [putL, setL, evL, getL]
    refine hc (hel67 s60 rfl rfl Try.underlying24 tI3 (hc (o_load' rfl Try.underlying3 rfl ((hh67 hH.bs.mono) 0 _ rfl) ?_)))
    replace H := headE H
    obtain ⟨u68, hu68, H⟩ := H
    refine hc (o_callv (first := #[]) (cap := #[]) (args := #[.int .i64 u67]) rfl Try.func186 rfl rfl [.int .i64 u67] rfl (by simp) (impl_areRunes_1.ok sb s60 no u67 (Hp.own hH.bs) _ hu68) ?_)
    rintro _ s68 ⟨rfl, hD⟩
    replace hH := hH.back0 hD (Up.refl _ _ _)
    clear hD
    refine HL_nil (hK66 _ _ ?_)
    try dsimp only [putL, setL, evL, getL]
    revert H
    refine ct rfl (fun hb69 H => ?_) (fun hb69 H => ?_)
    ·refine sr fun K70 hK70 => mv (ag (HL_nil (hK70 _ _ ?_)))
     dsimp only [putL, setL, evL, getL]
     refine HT_ret ?_
     replace H := escH (fun z hz => hG4 _ hz) H
     exact hQr _ _ [.int .i64 x48] _ ⟨rfl, trivial⟩ H ⟨rfl, hH⟩
    ·refine HT_skip (hK64 _ _ ?_)
     refine HT_region ?_
     refine bn rfl rfl rfl (mv (HL_nil ?_))
     exact hK60 _ _ ⟨kf, Nat.lt_succ_self kf, IntKind.i64.wrap (x48 + 1), H, rfl, hH⟩
   ·refine HT_exit ?_
    exact hK4 _ _ ⟨H, rfl, hH⟩
 ·rintro l' s71 ⟨H, hl, hH⟩
  revert l'
  refine skA ?_
  dsimp only [Al, Sk]
  intros
  replace H := hG4 _ H
  try dsimp only at H
  refine hK2 _ _ ?_
  refine sr fun K72 hK72 => ag (HL_nil (hK72 _ _ ?_))
  dsimp only [putL, setL, evL, getL]
  refine HT_ret ?_
  exact hQr _ _ [.int .i64 (-1)] _ ⟨rfl, trivial⟩ H ⟨rfl, hH⟩
def slices_ContainsFunc_int_int_impl_areRunes_1.f (p0 : List (Int)) : Option Bool := (slices_IndexFunc_int_int_impl_areRunes_1.f p0).bind fun u3 => some (decide (u3 ≥ 0))
def slices_ContainsFunc_int_int_impl_areRunes_1.post (sb s : St) (F0 : Fp) (r : Bool) : Value → St → Prop := fun v s' => v = .bool r ∧ Hp sb s F0 s' []
set_option maxRecDepth 100000 in
set_option maxHeartbeats 4000000 in
theorem slices_ContainsFunc_int_int_impl_areRunes_1.ok (sb s : St) (F0 : Fp) (A0p : Option Addr) (c0p : Nat) (p0 : List (Int)) (HRp0 : Rd KI sb A0p c0p p0) (hH : Hp sb s F0 s []) (r : Bool) (H : slices_ContainsFunc_int_int_impl_areRunes_1.f p0 = some r) : GCall Try.prog 114 #[.slice A0p p0.length c0p, .func (.func 186) #[] #[]] s (slices_ContainsFunc_int_int_impl_areRunes_1.post sb s F0 r) := by
 refine GCall_ofr (slices_ContainsFunc_int_int_impl_areRunes_1.post sb s F0) [.tmp 4] (ud [.slice A0p p0.length c0p, .func (.func 186) #[] #[]] 7) Try.func114 rfl rfl rfl fun w Q hQr hQn hQp => ?_
 replace H := topE H
 unfold slices_ContainsFunc_int_int_impl_areRunes_1.f at H
 dsimp only [ud, un]
 refine sr fun K1 hK1 => ag (HL_nil (hK1 _ _ ?_))
 dsimp only [putL, setL, evL, getL]
 refine sr fun K2 hK2 => mv (mv ?_)
 replace H := headE H
 obtain ⟨u3, hu3, H⟩ := H
 refine hc (o_call (args := #[.slice A0p p0.length c0p, .func (.func 186) #[] #[]]) Try.func184 rfl rfl rfl (slices_IndexFunc_int_int_impl_areRunes_1.ok sb s no A0p c0p p0 HRp0 (Hp.own hH.bs) _ hu3) ?_)
 rintro _ s3 ⟨rfl, hD⟩
 replace hH := hH.back0 hD (Up.refl _ _ _)
 clear hD
 try dsimp only [putL, setL, evL, getL]
 refine bn rfl rfl rfl (ag (HL_nil (hK2 _ _ ?_)))
 dsimp only [putL, setL, evL, getL]
 refine HT_ret ?_
 exact hQr _ _ [.bool (decide (u3 ≥ 0))] _ ⟨rfl, trivial⟩ H ⟨rfl, hH⟩
def impl_areRunes.f (p0 : List (Int)) (p1 : Int) : Option Bool := if (decide ((p0.length : Int) ≤ p1)) = true then ((slices_ContainsFunc_int_int_impl_areRunes_1.f p0).bind fun u4 => some (!u4)) else (some false)
def impl_areRunes.post (sb s : St) (F0 : Fp) (r : Bool) : Value → St → Prop := fun v s' => v = .bool r ∧ Hp sb s F0 s' []
set_option maxRecDepth 100000 in
set_option maxHeartbeats 4000000 in
theorem impl_areRunes.ok (sb s : St) (F0 : Fp) (A0p : Option Addr) (c0p : Nat) (p0 : List (Int)) (p1 : Int) (HRp0 : Rd KI sb A0p c0p p0) (hH : Hp sb s F0 s []) (r : Bool) (H : impl_areRunes.f p0 p1 = some r) : GCall Try.prog 118 #[.slice A0p p0.length c0p, .int .i64 p1] s (impl_areRunes.post sb s F0 r) := by
 refine GCall_ofr (impl_areRunes.post sb s F0) [.tmp 4] (ud [.slice A0p p0.length c0p, .int .i64 p1] 12) Try.func118 rfl rfl rfl fun w Q hQr hQn hQp => ?_
 replace H := topE H
 unfold impl_areRunes.f at H
 dsimp only [ud, un]
 refine sr fun K1 hK1 => ag (HL_nil (hK1 _ _ ?_))
 dsimp only [putL, setL, evL, getL]
 refine sr fun K2 hK2 => mv (hc (o_len rfl Try.underlying24 (mv ?_)))
 dsimp only [putL, setL, evL, getL]
 refine bn rfl rfl rfl (mv ?_)
 revert H
 refine it (fun hb3 H => ?_) (fun hb3 H => ?_)
 ·refine wt rfl rfl rfl rfl hb3 (o_move ?_)
  replace H := headE H
  obtain ⟨u4, hu4, H⟩ := H
  try dsimp only [putL, setL, evL, getL]
  refine wt rfl rfl rfl rfl hb3 (o_call (args := #[.slice A0p p0.length c0p, .func (.func 186) #[] #[]]) Try.func114 rfl rfl rfl (slices_ContainsFunc_int_int_impl_areRunes_1.ok sb s no A0p c0p p0 HRp0 (Hp.own hH.bs) _ hu4) ?_)
  rintro _ s4 ⟨rfl, hD⟩
  replace hH := hH.back0 hD (Up.refl _ _ _)
  clear hD
  refine wt rfl rfl rfl rfl hb3 (o_not rfl (hc (o_pickT rfl hb3 ?_)))
  dsimp only [putL, setL, evL, getL]
  refine ag (HL_nil (hK2 _ _ ?_))
  dsimp only [putL, setL, evL, getL]
  refine HT_ret ?_
  exact hQr _ _ [.bool (!u4)] _ ⟨rfl, trivial⟩ H ⟨rfl, hH⟩
 ·refine wf rfl rfl rfl rfl hb3 (wf rfl rfl rfl rfl hb3 (wf rfl rfl rfl rfl hb3 ?_))
  dsimp only [putL, setL, evL, getL]
  refine hc (o_pickF rfl hb3 (ag (HL_nil (hK2 _ _ ?_))))
  dsimp only [putL, setL, evL, getL]
  refine HT_ret ?_
  exact hQr _ _ [.bool false] _ ⟨rfl, trivial⟩ H ⟨rfl, hH⟩
def slices_Clone_int_int.f (p0 : List (Int)) : Option (List (Int)) := app? 17592186044416 [] p0
def slices_Clone_int_int.post (sb s : St) (F0 : Fp) (r : List (Int)) : Value → St → Prop := fun v s' => ∃ (A0 : Option Addr) (c0 : Nat), v = .slice A0 r.length c0 ∧ Hp sb s F0 s' [Ck.ol OI 3 A0 c0 r]
set_option maxRecDepth 100000 in
set_option maxHeartbeats 4000000 in
theorem slices_Clone_int_int.ok (sb s : St) (F0 : Fp) (A0p : Option Addr) (c0p : Nat) (p0 : List (Int)) (HRp0 : Rd KI sb A0p c0p p0) (hH : Hp sb s F0 s []) (r : List (Int)) (H : slices_Clone_int_int.f p0 = some r) : GCall Try.prog 141 #[.slice A0p p0.length c0p] s (slices_Clone_int_int.post sb s F0 r) := by
 refine GCall_ofk [.tmp 2] [.slice A0p p0.length c0p, undef, undef, undef, undef, undef, undef, undef] Try.func141 rfl rfl rfl ?_
 intro w Q hQr hQn hQp
 unfold slices_Clone_int_int.f at H
 refine HT_seq_k ?_
 intro K1 hK1
 refine HT_region ?_
 refine HL_cons rfl ?_
 refine o_assign ?_
 refine HL_nil ?_
 refine hK1 _ _ ?_
 refine HT_seq_k ?_
 intro K2 hK2
 refine HT_seq_k ?_
 intro K3 hK3
 refine HT_region ?_
 refine HL_cons rfl ?_
 refine o_move ?_
 dsimp only [putL, setL, evL, getL]
 refine HL_cons rfl ?_
 refine o_eqN rfl rfl Try.underlying24 ?_
 dsimp only [putL, setL, evL, getL]
 refine HL_nil ?_
 refine hK3 _ _ ?_
 cases A0p with
 | none =>
  have hp : p0 = [] := by
   by_cases h : p0 = []
   ·exact h
   ·obtain ⟨b, o, hA, _⟩ := HRp0.2.2 h
    cases hA
  subst hp
  obtain ⟨_, rfl⟩ := app?_some H
  refine HT_true rfl ?_
  refine HT_seq_k ?_
  intro K4 hK4
  refine HT_region ?_
  refine HL_cons rfl ?_
  refine o_assign ?_
  dsimp only [putL, setL, evL, getL]
  refine HL_nil ?_
  refine hK4 _ _ ?_
  refine HT_ret ?_
  exact hQr _ _ [.slice none 0 0] ⟨rfl, trivial⟩ ⟨none, 0, rfl, hH.nil (K := KI) OI 3⟩
 | some a =>
  refine HT_false rfl ?_
  refine HT_skip ?_
  refine hK2 _ _ ?_
  refine HT_seq_k ?_
  intro K4 hK4
  refine HT_region ?_
  refine HL_cons rfl ?_
  refine o_lit0H (α := Int) (K := KI) (O := OI) hH Try.underlying24 tI3 ?_
  intro A1 s1 hH hG
  dsimp only [putL, setL, evL, getL]
  refine HL_cons rfl ?_
  refine o_move ?_
  dsimp only [putL, setL, evL, getL]
  refine HL_cons rfl ?_
  refine o_appF (n := 17592186044416) (A := A1) (c := 0) (xs := ([] : List (Int))) (ys := p0) (B := some a) (c2 := c0p) hH 0 rfl rfl rfl rfl Try.underlying24 tI3 rfl (by decide) (by decide) (by decide) (Src.flat (HRp0.mono hH.bs.mono)) H ?_
  intro A2 c2 s2 hH
  dsimp only [putL, setL, evL, getL]
  refine HL_cons rfl ?_
  refine o_assign ?_
  dsimp only [putL, setL, evL, getL]
  refine HL_nil ?_
  refine hK4 _ _ ?_
  refine HT_ret ?_
  exact hQr _ _ [.slice A2 r.length c2] ⟨rfl, trivial⟩ ⟨A2, c2, rfl, hH⟩
def bits_Mul32.f (p0 : Int) (p1 : Int) : Option (Int × Int) := (shrK? .u64 (IntKind.u64.wrap ((IntKind.u64.wrap p0) * (IntKind.u64.wrap p1))) 32).bind fun u4 => some ((IntKind.u32.wrap u4), (IntKind.u32.wrap (IntKind.u64.wrap ((IntKind.u64.wrap p0) * (IntKind.u64.wrap p1)))))
def bits_Mul32.post (sb s : St) (F0 : Fp) (r : Int × Int) : Value → St → Prop := fun v s' => v = .tuple #[.int .u32 r.1, .int .u32 r.2] ∧ Hp sb s F0 s' []
set_option maxRecDepth 100000 in
set_option maxHeartbeats 4000000 in
theorem bits_Mul32.ok (sb s : St) (F0 : Fp) (p0 : Int) (p1 : Int) (hH : Hp sb s F0 s []) (r : Int × Int) (H : bits_Mul32.f p0 p1 = some r) : GCall Try.prog 235 #[.int .u32 p0, .int .u32 p1] s (bits_Mul32.post sb s F0 r) := by
 refine GCall_ofr (bits_Mul32.post sb s F0) [.tmp 4, .tmp 5] (ud [.int .u32 p0, .int .u32 p1] 15) Try.func235 rfl rfl rfl fun w Q hQr hQn hQp => ?_
 replace H := topE H
 unfold bits_Mul32.f at H
 dsimp only [ud, un]
 refine sr fun K1 hK1 => ag (ag (HL_nil (hK1 _ _ ?_)))
 dsimp only [putL, setL, evL, getL]
 refine sr fun K2 hK2 => mv (hc (o_conv rfl Try.underlying227 Try.underlying111 (mv ?_)))
 dsimp only [putL, setL, evL, getL]
 refine hc (o_conv rfl Try.underlying227 Try.underlying111 (bn rfl rfl rfl (ag (HL_nil (hK2 _ _ ?_)))))
 dsimp only [putL, setL, evL, getL]
 refine sr fun K3 hK3 => mv ?_
 replace H := headE H
 obtain ⟨u4, hu4, H⟩ := H
 refine hc (o_shrK rfl rfl hu4 (hc (o_conv rfl Try.underlying111 Try.underlying227 ?_)))
 dsimp only [putL, setL, evL, getL]
 refine mv (hc (o_conv rfl Try.underlying111 Try.underlying227 (ag ?_)))
 dsimp only [putL, setL, evL, getL]
 refine ag (HL_nil (hK3 _ _ ?_))
 dsimp only [putL, setL, evL, getL]
 refine HT_ret ?_
 exact hQr _ _ [.int .u32 (IntKind.u32.wrap u4), .int .u32 (IntKind.u32.wrap (IntKind.u64.wrap ((IntKind.u64.wrap p0) * (IntKind.u64.wrap p1))))] _ ⟨rfl, rfl, trivial⟩ H ⟨rfl, hH⟩
def bits_Mul64.f (p0 : Int) (p1 : Int) : Option (Int × Int) := (shrK? .u64 p0 32).bind fun u4 => (shrK? .u64 p1 32).bind fun u7 => (shrK? .u64 (IntKind.u64.wrap ((bits .and .u64 p0 4294967295) * (bits .and .u64 p1 4294967295))) 32).bind fun u10 => (shrK? .u64 (IntKind.u64.wrap ((IntKind.u64.wrap (u4 * (bits .and .u64 p1 4294967295))) + u10)) 32).bind fun u13 => (shrK? .u64 (IntKind.u64.wrap ((bits .and .u64 (IntKind.u64.wrap ((IntKind.u64.wrap (u4 * (bits .and .u64 p1 4294967295))) + u10)) 4294967295) + (IntKind.u64.wrap ((bits .and .u64 p0 4294967295) * u7)))) 32).bind fun u16 => some ((IntKind.u64.wrap ((IntKind.u64.wrap ((IntKind.u64.wrap (u4 * u7)) + u13)) + u16)), (IntKind.u64.wrap (p0 * p1)))
def bits_Mul64.post (sb s : St) (F0 : Fp) (r : Int × Int) : Value → St → Prop := fun v s' => v = .tuple #[.int .u64 r.1, .int .u64 r.2] ∧ Hp sb s F0 s' []
set_option maxRecDepth 100000 in
set_option maxHeartbeats 4000000 in
theorem bits_Mul64.ok (sb s : St) (F0 : Fp) (p0 : Int) (p1 : Int) (hH : Hp sb s F0 s []) (r : Int × Int) (H : bits_Mul64.f p0 p1 = some r) : GCall Try.prog 236 #[.int .u64 p0, .int .u64 p1] s (bits_Mul64.post sb s F0 r) := by
 refine GCall_ofr (bits_Mul64.post sb s F0) [.tmp 4, .tmp 5] (ud [.int .u64 p0, .int .u64 p1] 49) Try.func236 rfl rfl rfl fun w Q hQr hQn hQp => ?_
 replace H := topE H
 unfold bits_Mul64.f at H
 dsimp only [ud, un]
 refine sr fun K1 hK1 => ag (ag (HL_nil (hK1 _ _ ?_)))
 dsimp only [putL, setL, evL, getL]
 refine sr fun K2 hK2 => mv (bn rfl rfl rfl (ag (HL_nil (hK2 _ _ ?_))))
 dsimp only [putL, setL, evL, getL]
 refine sr fun K3 hK3 => mv ?_
 replace H := headE H
 obtain ⟨u4, hu4, H⟩ := H
 refine hc (o_shrK rfl rfl hu4 (ag (HL_nil (hK3 _ _ ?_))))
 dsimp only [putL, setL, evL, getL]
 refine sr fun K5 hK5 => mv (bn rfl rfl rfl (ag (HL_nil (hK5 _ _ ?_))))
 dsimp only [putL, setL, evL, getL]
 refine sr fun K6 hK6 => mv ?_
 replace H := headE H
 obtain ⟨u7, hu7, H⟩ := H
 refine hc (o_shrK rfl rfl hu7 (ag (HL_nil (hK6 _ _ ?_))))
 dsimp only [putL, setL, evL, getL]
 refine sr fun K8 hK8 => mv (mv (bn rfl rfl rfl ?_))
 dsimp only [putL, setL, evL, getL]
 refine ag (HL_nil (hK8 _ _ ?_))
 dsimp only [putL, setL, evL, getL]
 refine sr fun K9 hK9 => mv (mv (bn rfl rfl rfl ?_))
 dsimp only [putL, setL, evL, getL]
 refine mv ?_
 replace H := headE H
 obtain ⟨u10, hu10, H⟩ := H
 refine hc (o_shrK rfl rfl hu10 (bn rfl rfl rfl ?_))
 dsimp only [putL, setL, evL, getL]
 refine ag (HL_nil (hK9 _ _ ?_))
 dsimp only [putL, setL, evL, getL]
 refine sr fun K11 hK11 => mv (bn rfl rfl rfl (ag (HL_nil (hK11 _ _ ?_))))
 dsimp only [putL, setL, evL, getL]
 refine sr fun K12 hK12 => mv ?_
 replace H := headE H
 obtain ⟨u13, hu13, H⟩ := H
 refine hc (o_shrK rfl rfl hu13 (ag (HL_nil (hK12 _ _ ?_))))
 dsimp only [putL, setL, evL, getL]
 refine sr fun K14 hK14 => mv (mv (mv ?_))
 dsimp only [putL, setL, evL, getL]
 refine bn rfl rfl rfl (bn rfl rfl rfl (ag (HL_nil (hK14 _ _ ?_))))
 dsimp only [putL, setL, evL, getL]
 refine sr fun K15 hK15 => mv (mv (bn rfl rfl rfl ?_))
 dsimp only [putL, setL, evL, getL]
 refine mv (bn rfl rfl rfl (mv ?_))
 replace H := headE H
 obtain ⟨u16, hu16, H⟩ := H
 try dsimp only [putL, setL, evL, getL]
 refine hc (o_shrK rfl rfl hu16 (bn rfl rfl rfl (ag (HL_nil (hK15 _ _ ?_)))))
 dsimp only [putL, setL, evL, getL]
 refine sr fun K17 hK17 => mv (mv (bn rfl rfl rfl ?_))
 dsimp only [putL, setL, evL, getL]
 refine ag (HL_nil (hK17 _ _ ?_))
 dsimp only [putL, setL, evL, getL]
 refine HT_ret ?_
 exact hQr _ _ [.int .u64 (IntKind.u64.wrap ((IntKind.u64.wrap ((IntKind.u64.wrap (u4 * u7)) + u13)) + u16)), .int .u64 (IntKind.u64.wrap (p0 * p1))] _ ⟨rfl, rfl, trivial⟩ H ⟨rfl, hH⟩
def bits_Mul.f (p0 : Int) (p1 : Int) : Option (Int × Int) := if false = true then ((bits_Mul32.f (IntKind.u32.wrap p0) (IntKind.u32.wrap p1)).bind fun u5 => some ((IntKind.u64.wrap u5.1), (IntKind.u64.wrap u5.2))) else ((bits_Mul64.f p0 p1).bind fun u8 => some (u8.1, u8.2))
def bits_Mul.post (sb s : St) (F0 : Fp) (r : Int × Int) : Value → St → Prop := fun v s' => v = .tuple #[.int .u64 r.1, .int .u64 r.2] ∧ Hp sb s F0 s' []
set_option maxRecDepth 100000 in
set_option maxHeartbeats 4000000 in
theorem bits_Mul.ok (sb s : St) (F0 : Fp) (p0 : Int) (p1 : Int) (hH : Hp sb s F0 s []) (r : Int × Int) (H : bits_Mul.f p0 p1 = some r) : GCall Try.prog 222 #[.int .u64 p0, .int .u64 p1] s (bits_Mul.post sb s F0 r) := by
 refine GCall_ofr (bits_Mul.post sb s F0) [.tmp 4, .tmp 5] (ud [.int .u64 p0, .int .u64 p1] 28) Try.func222 rfl rfl rfl fun w Q hQr hQn hQp => ?_
 replace H := topE H
 unfold bits_Mul.f at H
 dsimp only [ud, un]
 refine sr fun K1 hK1 => ag (ag (HL_nil (hK1 _ _ ?_)))
 dsimp only [putL, setL, evL, getL]
 refine HT_seq_k fun K2 hK2 => ?_
 revert H
 refine ct rfl (fun hb3 H => ?_) (fun hb3 H => ?_)
 ·refine sr fun K4 hK4 => mv (hc (o_conv rfl Try.underlying119 Try.underlying227 (mv ?_)))
  dsimp only [putL, setL, evL, getL]
  refine hc (o_conv rfl Try.underlying119 Try.underlying227 ?_)
  replace H := headE H
  obtain ⟨u5, hu5, H⟩ := H
  refine hc (o_call (args := #[.int .u32 (IntKind.u32.wrap p0), .int .u32 (IntKind.u32.wrap p1)]) Try.func235 rfl rfl rfl (bits_Mul32.ok sb s no (IntKind.u32.wrap p0) (IntKind.u32.wrap p1) (Hp.own hH.bs) _ hu5) ?_)
  rintro _ s5 ⟨rfl, hD⟩
  replace hH := hH.back0 hD (Up.refl _ _ _)
  clear hD
  refine mv ?_
  dsimp only [putL, setL, evL, getL]
  refine hc (o_extract rfl rfl (hc (o_extract rfl rfl (ag ?_))))
  dsimp only [putL, setL, evL, getL]
  refine ag (HL_nil (hK4 _ _ ?_))
  dsimp only [putL, setL, evL, getL]
  refine sr fun K6 hK6 => mv (hc (o_conv rfl Try.underlying227 Try.underlying119 (mv ?_)))
  dsimp only [putL, setL, evL, getL]
  refine hc (o_conv rfl Try.underlying227 Try.underlying119 (ag (ag (HL_nil (hK6 _ _ ?_)))))
  dsimp only [putL, setL, evL, getL]
  refine HT_ret ?_
  exact hQr _ _ [.int .u64 (IntKind.u64.wrap u5.1), .int .u64 (IntKind.u64.wrap u5.2)] _ ⟨rfl, rfl, trivial⟩ H ⟨rfl, hH⟩
 ·refine HT_skip (hK2 _ _ (sr fun K7 hK7 => (mv (mv ?_))))
  replace H := headE H
  obtain ⟨u8, hu8, H⟩ := H
  refine hc (o_call (args := #[.int .u64 p0, .int .u64 p1]) Try.func236 rfl rfl rfl (bits_Mul64.ok sb s no p0 p1 (Hp.own hH.bs) _ hu8) ?_)
  rintro _ s8 ⟨rfl, hD⟩
  replace hH := hH.back0 hD (Up.refl _ _ _)
  clear hD
  try dsimp only [putL, setL, evL, getL]
  refine mv (hc (o_extract rfl rfl (hc (o_extract rfl rfl ?_))))
  dsimp only [putL, setL, evL, getL]
  refine ag (ag (HL_nil (hK7 _ _ ?_)))
  dsimp only [putL, setL, evL, getL]
  refine sr fun K9 hK9 => mv (mv (ag ?_))
  dsimp only [putL, setL, evL, getL]
  refine ag (HL_nil (hK9 _ _ ?_))
  dsimp only [putL, setL, evL, getL]
  refine HT_ret ?_
  exact hQr _ _ [.int .u64 u8.1, .int .u64 u8.2] _ ⟨rfl, rfl, trivial⟩ H ⟨rfl, hH⟩
def slices_Repeat_int_int.l1 (x25 : List (Int)) : Nat → (List (Int)) → Int → Option (List (Int))
 | 0, _, _ => none
 | kf + 1, x59, x60 => if (decide (x60 < (x25.length : Int))) = true then ((cut? x59 x60 (x59.length : Int)).bind fun x73 => (cut? x59 0 x60).bind fun x74 => (some (cpy x59 (Int.toNat x60) x73.length x74)).bind fun x75 => slices_Repeat_int_int.l1 x25 kf x75 (IntKind.i64.wrap (x60 + ((min x74.length x73.length : Nat) : Int)))) else (some x59)
def slices_Repeat_int_int.f (p0 : List (Int)) (p1 : Int) : Option (List (Int)) := if (decide (p1 < 0)) = true then none else ((bits_Mul.f (IntKind.u64.wrap (p0.length : Int)) (IntKind.u64.wrap p1)).bind fun u9 => (if (decide (u9.1 > 0)) = true then (some true) else (some (decide (u9.2 > 9223372036854775807)))).bind fun (o : Bool) => match o with | x20 => (if x20 = true then none else ((mk? 17592186044416 0 (IntKind.i64.wrap u9.2)).bind fun x25 => (some (cpy x25 (Int.toNat 0) x25.length p0)).bind fun x27 => (slices_Repeat_int_int.l1 x25 ((((x25.length : Int)) - (((min p0.length x25.length : Nat) : Int))).toNat + 2) x27 ((min p0.length x25.length : Nat) : Int)).bind fun (o : (List (Int))) => match o with | x52 => (some x52))))
def slices_Repeat_int_int.post (sb s : St) (F0 : Fp) (r : (List (Int))) : Value → St → Prop := fun v s' => ∃ (A0 : Option Addr) (c0 : Nat), v = .slice A0 r.length c0 ∧ Hp sb s F0 s' [Ck.ol OI 3 A0 c0 r]
set_option maxRecDepth 100000 in
set_option maxHeartbeats 4000000 in
theorem slices_Repeat_int_int.ok (sb s : St) (F0 : Fp) (A0p : Option Addr) (c0p : Nat) (p0 : List (Int)) (p1 : Int) (HRp0 : Rd KI sb A0p c0p p0) (hH : Hp sb s F0 s []) (r : (List (Int))) (H : slices_Repeat_int_int.f p0 p1 = some r) : GCall Try.prog 198 #[.slice A0p p0.length c0p, .int .i64 p1] s (slices_Repeat_int_int.post sb s F0 r) := by
 refine GCall_ofr (slices_Repeat_int_int.post sb s F0) [.tmp 4] (ud [.slice A0p p0.length c0p, .int .i64 p1] 46) Try.func198 rfl rfl rfl fun w Q hQr hQn hQp => ?_
 replace H := topE H
 unfold slices_Repeat_int_int.f at H
 dsimp only [ud, un]
 refine sr fun K1 hK1 => ag (HL_nil (hK1 _ _ ?_))
 dsimp only [putL, setL, evL, getL]
 refine HT_seq_k fun K5 hK5 => sr fun K6 hK6 => mv (bn rfl rfl rfl (HL_nil (hK6 _ _ ?_)))
 dsimp only [putL, setL, evL, getL]
 revert H
 refine ct rfl (fun hb7 H => ?_) (fun hb7 H => ?_)
 ·cases H
 ·refine HT_skip (hK5 _ _ (sr fun K8 hK8 => (mv (hc (o_len rfl Try.underlying24 (hc (o_conv rfl Try.underlying3 Try.underlying119 ?_)))))))
  dsimp only [putL, setL, evL, getL]
  refine mv (hc (o_conv rfl Try.underlying3 Try.underlying119 ?_))
  replace H := headE H
  obtain ⟨u9, hu9, H⟩ := H
  refine hc (o_call (args := #[.int .u64 (IntKind.u64.wrap (p0.length : Int)), .int .u64 (IntKind.u64.wrap p1)]) Try.func222 rfl rfl rfl (bits_Mul.ok sb s no (IntKind.u64.wrap (p0.length : Int)) (IntKind.u64.wrap p1) (Hp.own hH.bs) _ hu9) ?_)
  rintro _ s9 ⟨rfl, hD⟩
  replace hH := hH.back0 hD (Up.refl _ _ _)
  clear hD
  try dsimp only [putL, setL, evL, getL]
  refine mv (hc (o_extract rfl rfl (hc (o_extract rfl rfl ?_))))
  dsimp only [putL, setL, evL, getL]
  refine ag (ag (HL_nil (hK8 _ _ ?_)))
  dsimp only [putL, setL, evL, getL]
  refine HT_seq_k fun K17 hK17 => ?_
  refine joinH H fun G18 hG18 H => ?_
  refine HT_joinK (fun l' s' => ∃ (x20 : Bool), G18 x20 = some r ∧ skim [0, 5, 19] l' = ([.slice A0p p0.length c0p, .int .u64 u9.2, .bool x20], 22) ∧ Hp sb s F0 s' []) ?_ ?_
  ·intro K18 hK18
   refine HT_region ?_
   refine mv (bn rfl rfl rfl (mv ?_))
   revert H
   refine it (fun hb21 H => ?_) (fun hb21 H => ?_)
   ·refine wf rfl rfl rfl rfl hb21 ?_
    dsimp only [putL, setL, evL, getL]
    refine wf rfl rfl rfl rfl hb21 (hc (o_pickT rfl hb21 (HL_nil ?_)))
    exact hK18 _ _ ⟨true, H, rfl, hH⟩
   ·refine wt rfl rfl rfl rfl hb21 (o_move ?_)
    dsimp only [putL, setL, evL, getL]
    refine wt rfl rfl rfl rfl hb21 (o_bin rfl rfl rfl (hc (o_pickF rfl hb21 (HL_nil ?_))))
    exact hK18 _ _ ⟨decide (u9.2 > 9223372036854775807), H, rfl, hH⟩
  ·rintro l' s22 ⟨x20, H, hl, hH⟩
   revert l'
   refine skA ?_
   dsimp only [Al, Sk]
   intros
   replace H := hG18 _ H
   try dsimp only at H
   revert H
   refine ct rfl (fun hb23 H => ?_) (fun hb23 H => ?_)
   ·cases H
   ·refine HT_skip (hK17 _ _ (sr fun K24 hK24 => (mv ?_)))
    dsimp only [putL, setL, evL, getL]
    refine hc (o_conv rfl Try.underlying119 Try.underlying3 ?_)
    replace H := headE H
    obtain ⟨x25, hx25, H⟩ := H
    refine hc (o_makeH (K := KI) (O := OI) (x0 := 0) hH rfl Try.underlying24 tI3 rfl (by decide) (by decide) (by decide) (Own0.fl fun _ => rfl) hx25 ?_)
    clear hH
    intro A25 c25 s25 hH _
    refine ag (HL_nil (hK24 _ _ ?_))
    dsimp only [putL, setL, evL, getL]
    refine sr fun K26 hK26 => mv (mv ?_)
    replace H := headE H
    obtain ⟨x27, hx27, H⟩ := H
    refine hc (o_copyF (K := KI) (lo := Int.toNat 0) (n := x25.length) (ys := p0) hH 0 rfl rfl rfl rfl Try.underlying24 tI3 (.inl ⟨rfl, rfl⟩) (Nat.le_of_eq (Nat.zero_add _)) (HRp0.mono hH.bs.mono) hx27 ?_)
    clear hH
    intro s27 hH
    have hl27 := cpy_len (Nat.le_of_eq (Nat.zero_add _)) hx27
    try dsimp only [putL, setL, evL, getL]
    refine ag (HL_nil (hK26 _ _ ?_))
    dsimp only [putL, setL, evL, getL]
    refine joinH H fun G28 hG28 H => ?_
    refine HT_joinK (fun l' s' => ∃ (x52 : List (Int)), G28 x52 = some r ∧ skim [7] l' = ([.slice A25 x25.length c25], 41) ∧ Hp sb s F0 s' [Ck.ol OI 3 A25 c25 x52] ∧ x52.length = x25.length) ?_ ?_
    ·intro K28 hK28
     refine HT_block ?_
     refine HT_loopK (fun kf l' s' => ∃ (x59 : List (Int)) (x60 : Int), (slices_Repeat_int_int.l1 x25 kf x59 x60).bind G28 = some r ∧ skim [7, 0] l' = ([.slice A25 x25.length c25, .int .i64 x60], 40) ∧ Hp sb s F0 s' [Ck.ol OI 3 A25 c25 x59] ∧ x59.length = x25.length) ((((x25.length : Int)) - (((min p0.length x25.length : Nat) : Int))).toNat + 2) ⟨x27, ((min p0.length x25.length : Nat) : Int), H, rfl, hH, hl27⟩ ?_
     rintro kf l' s69 ⟨x59, x60, H, hl, hH, hl59⟩ K69 hK69
     revert l'
     refine skA ?_
     dsimp only [Al, Sk]
     intros
     cases kf with
     | zero => simp [slices_Repeat_int_int.l1] at H
     | succ kf =>
      rw [slices_Repeat_int_int.l1] at H
      refine HT_seq_k fun K70 hK70 => sr fun K71 hK71 => mv (mv (hc (o_len rfl Try.underlying24 ?_)))
      dsimp only [putL, setL, evL, getL]
      refine bn rfl rfl rfl (HL_nil (hK71 _ _ ?_))
      dsimp only [putL, setL, evL, getL]
      revert H
      refine ct rfl (fun hb72 H => ?_) (fun hb72 H => ?_)
      ·refine HT_skip (hK70 _ _ (HT_block ?_))
       refine HX_draw hMix ?_
       refine HX_lim (R := fun _ => True) (k := 0) (fun s' => Gro s69 s') 7 ?_
       have hR := Gro.refl s69
       have hH0 := hH
       refine HK_readP 0 (v := .int .i64 x60) rfl (by kernel_rfl) hQp rfl (fun s' K hK => o_move hK) rfl rfl (fun _ => hR) ?_
       try dsimp only [putL, setL, evL, getL]
       refine HK_readP 1 (v := .slice A25 x25.length c25) rfl (by kernel_rfl) hQp rfl (fun s' K hK => o_move hK) rfl rfl (fun _ => hR) ?_
       refine HK_readP 2 (v := .int .i64 x60) rfl (by kernel_rfl) hQp rfl (fun s' K hK => o_move hK) rfl rfl (fun _ => hR) ?_
       replace H := headE H
       obtain ⟨x73, hx73, H⟩ := H
       refine HK_readP 3 (v := .slice (cutA A25 c25 (Int.toNat x60) (Kd.sz KI)) x73.length (c25 - Int.toNat x60)) rfl (by kernel_rfl) hQp rfl (fun s' K hK => o_cutA (xs := x59) (kl := .i64) (kh := .i64) (L := x60) (H := (x59.length : Int)) (sliceLen hl59) rfl rfl Try.underlying24 tI3 (hH.rd 0 rfl).1 hx73 hK) rfl rfl (fun _ => hR) ?_
       have D73 := @Der.cut _ _ OI 3 A25 c25 _ _ _ _ hx73
       try dsimp only [putL, setL, evL, getL]
       refine HK_readP 4 (v := .slice A25 x25.length c25) rfl (by kernel_rfl) hQp rfl (fun s' K hK => o_move hK) rfl rfl (fun _ => hR) ?_
       refine HK_readP 5 (v := .int .i64 x60) rfl (by kernel_rfl) hQp rfl (fun s' K hK => o_move hK) rfl rfl (fun _ => hR) ?_
       replace H := headE H
       obtain ⟨x74, hx74, H⟩ := H
       refine HK_readP 6 (v := .slice (cutA A25 c25 (Int.toNat 0) (Kd.sz KI)) x74.length (c25 - Int.toNat 0)) rfl (by kernel_rfl) hQp rfl (fun s' K hK => o_cutA (xs := x59) (kl := .i64) (kh := .i64) (L := 0) (H := x60) (sliceLen hl59) rfl rfl Try.underlying24 tI3 (hH.rd 0 rfl).1 hx74 hK) rfl rfl (fun _ => hR) ?_
       have D74 := @Der.cut _ _ OI 3 A25 c25 _ _ _ _ hx74
       try dsimp only [putL, setL, evL, getL]
       refine HK_more [7] (by kernel_rfl) rfl (fun _ => hR) ⟨⟨_, rfl, Or.inl ⟨rfl, ?_⟩⟩, trivial⟩
       replace H := headE H
       obtain ⟨x75, hx75, H⟩ := H
       skip
       refine o_copyF (K := KI) (lo := Int.toNat x60) (n := x73.length) (ys := x74) hH 0 rfl rfl rfl rfl Try.underlying24 tI3 (.inr rfl) (cut?_room hx73) (D74 _ _ hH.bs (hH.ckP 0)) hx75 ?_
       clear hH
       intro s75 hH
       have hl75 := (cpy_len (cut?_room hx73) hx75).trans hl59
       refine HK_free (by kernel_rfl) ?_
       refine HX_lim (R := fun _ => True) (k := 0) (fun s' => Gro s75 s') 11 ?_
       have hR := Gro.refl s75
       have hH0 := hH
       try dsimp only [putL, setL, evL, getL]
       refine HK_readP 8 (v := .int .i64 (IntKind.i64.wrap (x60 + ((min x74.length x73.length : Nat) : Int)))) rfl (by kernel_rfl) hQp rfl (fun s' K hK => o_bin rfl rfl rfl hK) rfl rfl (fun _ => hR) ?_
       refine HK_more [9] (by kernel_rfl) rfl (fun _ => hR) ⟨⟨_, rfl, Or.inl ⟨rfl, ?_⟩⟩, trivial⟩
       skip
       refine o_assign ?_
       refine HK_done (fun _ => hR) (by kernel_rfl) ?_
       exact hK69 _ _ ⟨kf, Nat.lt_succ_self kf, x75, IntKind.i64.wrap (x60 + ((min x74.length x73.length : Nat) : Int)), H, rfl, hH, hl75⟩
      ·refine HT_exit ?_
       exact hK28 _ _ ⟨x59, H, rfl, hH, hl59⟩
    ·rintro l' s76 ⟨x52, H, hl, hH, hl52⟩
     revert l'
     refine skA ?_
     dsimp only [Al, Sk]
     intros
     replace H := hG28 _ H
     try dsimp only at H
     refine sr fun K77 hK77 => ?_
     try dsimp only [putL, setL, evL, getL]
     refine mv (ag (HL_nil (hK77 _ _ ?_)))
     dsimp only [putL, setL, evL, getL]
     refine HT_ret ?_
     exact hQr _ _ [.slice A25 x25.length c25] _ ⟨rfl, trivial⟩ H ⟨A25, c25, (by first | (rw [hl52]; first | done | rfl) | rfl), hH⟩
def slices_Grow_int_int_nil.f (p1 : Int) : Option (List (Int)) := if (decide (p1 < 0)) = true then none else ((if (decide ((IntKind.i64.wrap (p1 - (IntKind.i64.wrap (0 - 0)))) > 0)) = true then ((cut? ([] : List (Int)) 0 0).bind fun x19 => (mk? 17592186044416 0 (IntKind.i64.wrap (p1 - (IntKind.i64.wrap (0 - 0))))).bind fun x20 => (cut? x20 0 0).bind fun x21 => some x21) else (some [])).bind fun (o : (List (Int))) => match o with | x15 => (some x15))
def slices_Grow_int_int_nil.post (sb s : St) (F0 : Fp) (r : (List (Int))) : Value → St → Prop := fun v s' => ∃ (A0 : Option Addr) (c0 : Nat), v = .slice A0 r.length c0 ∧ Hp sb s F0 s' [Ck.ol OI 3 A0 c0 r]
set_option maxRecDepth 100000 in
set_option maxHeartbeats 4000000 in
theorem slices_Grow_int_int_nil.ok (sb s : St) (F0 : Fp) (p1 : Int) (hH : Hp sb s F0 s []) (r : (List (Int))) (H : slices_Grow_int_int_nil.f p1 = some r) : GCall Try.prog 219 #[.slice none 0 0, .int .i64 p1] s (slices_Grow_int_int_nil.post sb s F0 r) := by
 refine GCall_ofr (slices_Grow_int_int_nil.post sb s F0) [.tmp 4] (ud [.slice none 0 0, .int .i64 p1] 25) Try.func219 rfl rfl rfl fun w Q hQr hQn hQp => ?_
 replace H := topE H
 unfold slices_Grow_int_int_nil.f at H
 dsimp only [ud, un]
 refine sr fun K1 hK1 => ag (HL_nil (hK1 _ _ ?_))
 dsimp only [putL, setL, evL, getL]
 refine HT_seq_k fun K5 hK5 => sr fun K6 hK6 => mv (bn rfl rfl rfl (HL_nil (hK6 _ _ ?_)))
 dsimp only [putL, setL, evL, getL]
 revert H
 refine ct rfl (fun hb7 H => ?_) (fun hb7 H => ?_)
 ·cases H
 ·refine HT_skip (hK5 _ _ ?_)
  refine joinH H fun G8 hG8 H => ?_
  refine HT_joinK (fun l' s' => ∃ (x15 : List (Int)) (A15 : Option Addr) (c15 : Nat), G8 x15 = some r ∧ skim [0] l' = ([.slice A15 x15.length c15], 27) ∧ Hp sb s F0 s' [Ck.ol OI 3 A15 c15 x15]) ?_ ?_
  ·intro K8 hK8
   refine sr fun K16 hK16 => mv (mv (hc (o_cap rfl Try.underlying24 ?_)))
   dsimp only [putL, setL, evL, getL]
   refine mv (hc (o_len rfl Try.underlying24 (bn rfl rfl rfl ?_)))
   dsimp only [putL, setL, evL, getL]
   refine bn rfl rfl rfl (ag (HL_nil (hK16 _ _ ?_)))
   dsimp only [putL, setL, evL, getL]
   refine sr fun K17 hK17 => mv (bn rfl rfl rfl (HL_nil (hK17 _ _ ?_)))
   dsimp only [putL, setL, evL, getL]
   revert H
   refine ct rfl (fun hb18 H => ?_) (fun hb18 H => ?_)
   ·refine HT_region ?_
    refine mv (mv (hc (o_cap rfl Try.underlying24 ?_)))
    replace H := headE H
    obtain ⟨x19, hx19, H⟩ := H
    obtain rfl := cut?_nil hx19
    try dsimp only [putL, setL, evL, getL]
    refine hc (o_cutA (xs := ([] : List (Int))) (kl := .i64) (kh := .i64) (L := 0) (H := 0) rfl rfl rfl Try.underlying24 tI3 (Nat.le_refl 0) (ys := []) hx19 (mv ?_))
    replace H := headE H
    obtain ⟨x20, hx20, H⟩ := H
    refine hc (o_appM (K := KI) (O := OI) (x0 := 0) hH rfl rfl Try.underlying24 Try.underlying3 tI3 rfl (by decide) (by decide) (by decide) (Own0.fl fun _ => rfl) hx20 ?_)
    clear hH
    intro A20 c20 s20 hH _
    try dsimp only [putL, setL, evL, getL]
    refine mv (hc (o_len rfl Try.underlying24 ?_))
    replace H := headE H
    obtain ⟨x21, hx21, H⟩ := H
    refine hc (o_cutA (xs := x20) (kl := .i64) (kh := .i64) (L := 0) (H := 0) rfl rfl rfl Try.underlying24 tI3 (hH.rd 0 rfl).1 hx21 ?_)
    have D21 := @Der.cut _ _ OI 3 A20 c20 _ _ _ _ hx21
    try dsimp only [putL, setL, evL, getL]
    refine ag (HL_nil ?_)
    exact hK8 _ _ ⟨x21, (cutA A20 c20 (Int.toNat 0) (Kd.sz KI)), c20 - Int.toNat 0, H, rfl, (hH.cut 0 rfl rfl hx21)⟩
   ·refine HT_skip ?_
    exact hK8 _ _ ⟨[], none, 0, H, rfl, (hH.nil (K := KI) OI 3)⟩
  ·rintro l' s22 ⟨x15, A15, c15, H, hl, hH⟩
   revert l'
   refine skA ?_
   dsimp only [Al, Sk]
   intros
   replace H := hG8 _ H
   try dsimp only at H
   refine sr fun K23 hK23 => mv (ag (HL_nil (hK23 _ _ ?_)))
   dsimp only [putL, setL, evL, getL]
   refine HT_ret ?_
   exact hQr _ _ [.slice A15 x15.length c15] _ ⟨rfl, trivial⟩ H ⟨A15, c15, rfl, hH⟩
def slices_Concat_int_int.l1 (p0 : List (List (Int))) : Nat → Int → Int → Option Int
 | 0, _, _ => none
 | kf + 1, x80, x81 => if (decide (x81 < (p0.length : Int))) = true then ((rd? p0 x81).bind fun u114 => if (decide ((IntKind.i64.wrap (x80 + (u114.length : Int))) < 0)) = true then none else (slices_Concat_int_int.l1 p0 kf (IntKind.i64.wrap (x80 + (u114.length : Int))) (IntKind.i64.wrap (x81 + 1)))) else (some x80)
def slices_Concat_int_int.l2 (p0 : List (List (Int))) : Nat → (List (Int)) → Int → Option (List (Int))
 | 0, _, _ => none
 | kf + 1, x164, x165 => if (decide (x165 < (p0.length : Int))) = true then ((rd? p0 x165).bind fun u182 => (app? 17592186044416 x164 u182).bind fun x184 => slices_Concat_int_int.l2 p0 kf x184 (IntKind.i64.wrap (x165 + 1))) else (some x164)
def slices_Concat_int_int.f (p0 : List (List (Int))) : Option (List (Int)) := (slices_Concat_int_int.l1 p0 ((((p0.length : Int)) - (0)).toNat + 2) 0 0).bind fun (o : Int) => match o with | x62 => ((slices_Grow_int_int_nil.f x62).bind fun u121 => (slices_Concat_int_int.l2 p0 ((((p0.length : Int)) - (0)).toNat + 2) u121 0).bind fun (o : (List (Int))) => match o with | x155 => (some x155))
def slices_Concat_int_int.post (sb s : St) (F0 : Fp) (r : (List (Int))) : Value → St → Prop := fun v s' => ∃ (A0 : Option Addr) (c0 : Nat), v = .slice A0 r.length c0 ∧ Hp sb s F0 s' [Ck.ol OI 3 A0 c0 r]
set_option maxRecDepth 100000 in
set_option maxHeartbeats 4000000 in
theorem slices_Concat_int_int.ok (sb s : St) (F0 : Fp) (A0p : Option Addr) (c0p : Nat) (p0 : List (List (Int))) (HRp0 : Rd (Kd.sl KI) sb A0p c0p p0) (hH : Hp sb s F0 s []) (r : (List (Int))) (H : slices_Concat_int_int.f p0 = some r) : GCall Try.prog 185 #[.slice A0p p0.length c0p] s (slices_Concat_int_int.post sb s F0 r) := by
 refine GCall_ofr (slices_Concat_int_int.post sb s F0) [.tmp 2] (ud [.slice A0p p0.length c0p] 35) Try.func185 rfl rfl rfl fun w Q hQr hQn hQp => ?_
 replace H := topE H
 unfold slices_Concat_int_int.f at H
 dsimp only [ud, un]
 refine sr fun K1 hK1 => ag (HL_nil (hK1 _ _ ?_))
 dsimp only [putL, setL, evL, getL]
 refine sr fun K2 hK2 => ag (HL_nil (hK2 _ _ ?_))
 dsimp only [putL, setL, evL, getL]
 refine HT_seq_k fun K3 hK3 => sr fun K4 hK4 => mv (hc (o_len rfl Try.underlying105 (mv (HL_nil (hK4 _ _ ?_)))))
 dsimp only [putL, setL, evL, getL]
 refine joinH H fun G5 hG5 H => ?_
 refine HT_toK (fun l' s' => ∃ (x62 : Int), G5 x62 = some r ∧ skim [0, 2] l' = ([.slice A0p p0.length c0p, .int .i64 x62], 33) ∧ Hp sb s F0 s' []) ?_ ?_
 ·intro K5 hK5
  refine HT_block ?_
  refine HT_loopK (fun kf l' s' => ∃ (x80 : Int) (x81 : Int), (slices_Concat_int_int.l1 p0 kf x80 x81).bind G5 = some r ∧ skim [0, 2, 5, 0, 0] l' = ([.slice A0p p0.length c0p, .int .i64 x80, .slice A0p p0.length c0p, .int .i64 (p0.length : Int), .int .i64 x81], 25) ∧ Hp sb s F0 s' []) ((((p0.length : Int)) - (0)).toNat + 2) ⟨0, 0, H, rfl, hH⟩ ?_
  rintro kf l' s101 ⟨x80, x81, H, hl, hH⟩ K101 hK101
  revert l'
  refine skA ?_
  dsimp only [Al, Sk]
  intros
  cases kf with
  | zero => simp [slices_Concat_int_int.l1] at H
  | succ kf =>
   rw [slices_Concat_int_int.l1] at H
   refine sr fun K102 hK102 => bn rfl rfl rfl (HL_nil (hK102 _ _ ?_))
   dsimp only [putL, setL, evL, getL]
   refine HT_seq_k fun K103 hK103 => ?_
   revert H
   refine ct rfl (fun hb104 H => ?_) (fun hb104 H => ?_)
   ·refine HT_skip (hK103 _ _ (HT_seq_k fun K112 hK112 => (HT_block (sr fun K113 hK113 => ?_))))
    replace H := headE H
    obtain ⟨u114, hu114, H⟩ := H
    obtain ⟨b114, o114, cs114, hr114, hh114, hel114⟩ := Rd.elb HRp0 hu114
    obtain ⟨A115, c115, rfl, D115⟩ := hr114
    refine hc (hel114 s101 rfl rfl Try.underlying105 tI24 (hc (o_load' rfl Try.underlying24 rfl ((hh114 hH.bs.mono) 0 _ rfl) (ag (HL_nil (hK113 _ _ ?_))))))
    dsimp only [putL, setL, evL, getL]
    refine sr fun K116 hK116 => mv (mv (hc (o_len rfl Try.underlying24 ?_)))
    dsimp only [putL, setL, evL, getL]
    refine bn rfl rfl rfl (ag (HL_nil (hK116 _ _ ?_)))
    dsimp only [putL, setL, evL, getL]
    refine sr fun K117 hK117 => mv (bn rfl rfl rfl (HL_nil (hK117 _ _ ?_)))
    dsimp only [putL, setL, evL, getL]
    revert H
    refine ct rfl (fun hb118 H => ?_) (fun hb118 H => ?_)
    ·cases H
    ·refine HT_skip (hK112 _ _ ?_)
     refine HT_region ?_
     refine bn rfl rfl rfl (mv (HL_nil ?_))
     exact hK101 _ _ ⟨kf, Nat.lt_succ_self kf, IntKind.i64.wrap (x80 + (u114.length : Int)), IntKind.i64.wrap (x81 + 1), H, rfl, hH⟩
   ·refine HT_exit ?_
    exact hK5 _ _ ⟨x80, H, rfl, hH⟩
 ·rintro l' s119 ⟨x62, H, hl, hH⟩
  revert l'
  refine skA ?_
  dsimp only [Al, Sk]
  intros
  replace H := hG5 _ H
  try dsimp only at H
  refine hK3 _ _ ?_
  refine sr fun K120 hK120 => mv ?_
  replace H := headE H
  obtain ⟨u121, hu121, H⟩ := H
  try dsimp only [putL, setL, evL, getL]
  refine hc (o_call (args := #[.slice none 0 0, .int .i64 x62]) Try.func219 rfl rfl rfl (slices_Grow_int_int_nil.ok sb s119 no x62 (Hp.own hH.bs) _ hu121) ?_)
  rintro _ s121 ⟨A122, c122, rfl, hD⟩
  replace hH := hH.back0 hD (Up.refl _ _ _)
  clear hD
  refine ag (HL_nil (hK120 _ _ ?_))
  dsimp only [putL, setL, evL, getL]
  refine HT_seq_k fun K123 hK123 => sr fun K124 hK124 => mv (hc (o_len rfl Try.underlying105 (mv (HL_nil (hK124 _ _ ?_)))))
  dsimp only [putL, setL, evL, getL]
  refine joinH H fun G125 hG125 H => ?_
  refine HT_toK (fun l' s' => ∃ (x155 : List (Int)) (A155 : Option Addr) (c155 : Nat), G125 x155 = some r ∧ skim [6] l' = ([.slice A155 x155.length c155], 30) ∧ Hp sb s F0 s' [Ck.ol OI 3 A155 c155 x155]) ?_ ?_
  ·intro K125 hK125
   refine HT_block ?_
   refine HT_loopK (fun kf l' s' => ∃ (x164 : List (Int)) (A164 : Option Addr) (c164 : Nat) (x165 : Int), (slices_Concat_int_int.l2 p0 kf x164 x165).bind G125 = some r ∧ skim [6, 18, 0, 0] l' = ([.slice A164 x164.length c164, .slice A0p p0.length c0p, .int .i64 (p0.length : Int), .int .i64 x165], 9) ∧ Hp sb s F0 s' [Ck.ol OI 3 A164 c164 x164]) ((((p0.length : Int)) - (0)).toNat + 2) ⟨u121, A122, c122, 0, H, rfl, hH⟩ ?_
   rintro kf l' s176 ⟨x164, A164, c164, x165, H, hl, hH⟩ K176 hK176
   revert l'
   refine skA ?_
   dsimp only [Al, Sk]
   intros
   cases kf with
   | zero => simp [slices_Concat_int_int.l2] at H
   | succ kf =>
    rw [slices_Concat_int_int.l2] at H
    refine sr fun K177 hK177 => bn rfl rfl rfl (HL_nil (hK177 _ _ ?_))
    dsimp only [putL, setL, evL, getL]
    refine HT_seq_k fun K178 hK178 => ?_
    revert H
    refine ct rfl (fun hb179 H => ?_) (fun hb179 H => ?_)
    ·refine HT_skip (hK178 _ _ (HT_seq_k fun K180 hK180 => (HT_block (sr fun K181 hK181 => ?_))))
     replace H := headE H
     obtain ⟨u182, hu182, H⟩ := H
     obtain ⟨b182, o182, cs182, hr182, hh182, hel182⟩ := Rd.elb HRp0 hu182
     obtain ⟨A183, c183, rfl, D183⟩ := hr182
     refine hc (hel182 s176 rfl rfl Try.underlying105 tI24 (hc (o_load' rfl Try.underlying24 rfl ((hh182 hH.bs.mono) 0 _ rfl) (ag (HL_nil (hK181 _ _ ?_))))))
     dsimp only [putL, setL, evL, getL]
     refine HT_region ?_
     refine mv (mv ?_)
     replace H := headE H
     obtain ⟨x184, hx184, H⟩ := H
     refine hc (o_appF (K := KI) (n := 17592186044416) (A := A164) (c := c164) (xs := x164) (ys := u182) (B := A183) (c2 := c183) hH 0 rfl rfl rfl rfl Try.underlying24 tI3 rfl (by decide) (by decide) (by decide) (Src.flat (D183.mono hH.bs.mono)) hx184 ?_)
     clear hH
     intro A184 c184 s184 hH
     try dsimp only [putL, setL, evL, getL]
     refine ag (HL_nil (hK180 _ _ ?_))
     dsimp only [putL, setL, evL, getL]
     refine HT_region ?_
     refine bn rfl rfl rfl (mv (HL_nil ?_))
     exact hK176 _ _ ⟨kf, Nat.lt_succ_self kf, x184, A184, c184, IntKind.i64.wrap (x165 + 1), H, rfl, hH⟩
    ·refine HT_exit ?_
     exact hK125 _ _ ⟨x164, A164, c164, H, rfl, hH⟩
  ·rintro l' s185 ⟨x155, A155, c155, H, hl, hH⟩
   revert l'
   refine skA ?_
   dsimp only [Al, Sk]
   intros
   replace H := hG125 _ H
   try dsimp only at H
   refine hK123 _ _ ?_
   refine sr fun K186 hK186 => mv ?_
   dsimp only [putL, setL, evL, getL]
   refine ag (HL_nil (hK186 _ _ ?_))
   dsimp only [putL, setL, evL, getL]
   refine HT_ret ?_
   exact hQr _ _ [.slice A155 x155.length c155] _ ⟨rfl, trivial⟩ H ⟨A155, c155, rfl, hH⟩
def impl_Screen_down.f (p0_0 : Int) (p0_1 : Int) (p0_2 : List (Int)) (p0_3 : Int) (p0_4 : Int) : Option ((List (Int)) × Int × Int) := if (decide (p0_4 < (IntKind.i64.wrap (p0_1 - 1)))) = true then (some (p0_2, 0, (IntKind.i64.wrap (p0_4 + 1)))) else ((cut? p0_2 p0_0 (p0_2.length : Int)).bind fun x8 => (slices_Repeat_int_int.f [32] p0_0).bind fun u10 => (slices_Concat_int_int.f [x8, u10]).bind fun u16 => some (u16, 0, p0_4))
def impl_Screen_down.post (sb s : St) (F0 : Fp) (bp0 : Nat) (p0_0 : Int) (p0_1 : Int) (r : (List (Int)) × Int × Int) : Value → St → Prop := fun v s' => ∃ (A0 : Option Addr) (c0 : Nat), v = .tuple #[] ∧ Hp sb s F0 s' [Ck.ol OI 3 A0 c0 r.1, Ck.ov bp0 [.int .i64 p0_0, .int .i64 p0_1, .slice A0 r.1.length c0, .int .i64 r.2.1, .int .i64 r.2.2] 66]
set_option maxRecDepth 100000 in
set_option maxHeartbeats 4000000 in
theorem impl_Screen_down.ok (sb s : St) (F0 : Fp) (bp0 : Nat) (p0_0 : Int) (p0_1 : Int) (A0_2p : Option Addr) (c0_2p : Nat) (p0_2 : List (Int)) (p0_3 : Int) (p0_4 : Int) (hH : Hp sb s F0 s [Ck.ov bp0 [.int .i64 p0_0, .int .i64 p0_1, .slice A0_2p p0_2.length c0_2p, .int .i64 p0_3, .int .i64 p0_4] 66, Ck.ol OI 3 A0_2p c0_2p p0_2]) (r : (List (Int)) × Int × Int) (H : impl_Screen_down.f p0_0 p0_1 p0_2 p0_3 p0_4 = some r) : GCall Try.prog 196 #[.pointer (some ⟨bp0, 0, none⟩)] s (impl_Screen_down.post sb s F0 bp0 p0_0 p0_1 r) := by
 refine GCall_ofr (impl_Screen_down.post sb s F0 bp0 p0_0 p0_1) [] (ud [.pointer (some ⟨bp0, 0, none⟩)] 41) Try.func196 rfl rfl rfl fun w Q hQr hQn hQp => ?_
 replace H := topE H
 unfold impl_Screen_down.f at H
 dsimp only [ud, un]
 refine sr fun K1 hK1 => mv (hc (o_nilck rfl (hc (o_faddr' (ft := 3) (off := 3) rfl Try.underlying66 rfl tI3 (by decide) ?_))))
 dsimp only [putL, setL, evL, getL]
 refine hc (o_stvH (vs := [.int .i64 0]) (us' := [.int .i64 p0_0, .int .i64 p0_1, .slice A0_2p p0_2.length c0_2p, .int .i64 0, .int .i64 p0_4]) hH 0 rfl rfl rfl rfl rfl tI3 rfl (List.cons_ne_nil _ _) rfl rfl rfl ?_)
 clear hH
 intro s2 hH
 refine HL_nil (hK1 _ _ ?_)
 try dsimp only [putL, setL, evL, getL]
 refine HT_seq_k fun K3 hK3 => ?_
 refine sx hMix fun K4 hK4 => ?_
 refine HX_lim (R := fun _ => True) (k := 0) (fun s' => Gro s2 s') 11 ?_
 have hR := Gro.refl s2
 have hH0 := hH
 refine HK_readP 0 (v := .pointer (some ⟨bp0, 0, none⟩)) rfl (by kernel_rfl) hQp rfl (fun s' K hK => o_move hK) rfl rfl (fun _ => hR) ?_
 refine HK_readP 1 (v := .pointer (some ⟨bp0, 0, none⟩)) rfl (by kernel_rfl) hQp rfl (fun s' K hK => o_nilck rfl hK) rfl rfl (fun _ => hR) ?_
 try dsimp only [putL, setL, evL, getL]
 refine HK_readP 2 (v := .pointer (some ⟨bp0, 0 + 4, none⟩)) rfl (by kernel_rfl) hQp rfl (fun s' K hK => o_faddr' (ft := 3) (off := 4) rfl Try.underlying66 rfl tI3 (by decide) hK) rfl rfl (fun _ => hR) ?_
 refine HK_read 3 (v := .int .i64 p0_4) rfl (by kernel_rfl) hQp rfl (fun s' hR' K hK => o_load' rfl Try.underlying3 rfl (has_gro hR' (hH0.hasv 0 rfl rfl)) hK) rfl rfl hR ?_
 refine HK_readP 4 (v := .pointer (some ⟨bp0, 0, none⟩)) rfl (by kernel_rfl) hQp rfl (fun s' K hK => o_move hK) rfl rfl (fun _ => hR) ?_
 try dsimp only [putL, setL, evL, getL]
 refine HK_readP 5 (v := .pointer (some ⟨bp0, 0, none⟩)) rfl (by kernel_rfl) hQp rfl (fun s' K hK => o_nilck rfl hK) rfl rfl (fun _ => hR) ?_
 refine HK_readP 6 (v := .pointer (some ⟨bp0, 0 + 1, none⟩)) rfl (by kernel_rfl) hQp rfl (fun s' K hK => o_faddr' (ft := 3) (off := 1) rfl Try.underlying66 rfl tI3 (by decide) hK) rfl rfl (fun _ => hR) ?_
 refine HK_read 7 (v := .int .i64 p0_1) rfl (by kernel_rfl) hQp rfl (fun s' hR' K hK => o_load' rfl Try.underlying3 rfl (has_gro hR' (hH0.hasv 0 rfl rfl)) hK) rfl rfl hR ?_
 try dsimp only [putL, setL, evL, getL]
 refine HK_readP 8 (v := .int .i64 (IntKind.i64.wrap (p0_1 - 1))) rfl (by kernel_rfl) hQp rfl (fun s' K hK => o_bin rfl rfl rfl hK) rfl rfl (fun _ => hR) ?_
 refine HK_readP 9 (v := .bool (decide (p0_4 < (IntKind.i64.wrap (p0_1 - 1))))) rfl (by kernel_rfl) hQp rfl (fun s' K hK => o_bin rfl rfl rfl hK) rfl rfl (fun _ => hR) ?_
 refine HK_done (fun _ => hR) (by kernel_rfl) ?_
 refine hK4 _ _ ?_
 try dsimp only [putL, setL, evL, getL]
 revert H
 refine ct rfl (fun hb5 H => ?_) (fun hb5 H => ?_)
 ·refine sr fun K6 hK6 => mv (hc (o_nilck rfl (hc (o_faddr' (ft := 3) (off := 4) rfl Try.underlying66 rfl tI3 (by decide) ?_))))
  dsimp only [putL, setL, evL, getL]
  refine hc (o_load' rfl Try.underlying3 rfl (hH.hasv 0 rfl rfl) (bn rfl rfl rfl (hc (o_nilck rfl ?_))))
  dsimp only [putL, setL, evL, getL]
  refine hc (o_faddr' (ft := 3) (off := 4) rfl Try.underlying66 rfl tI3 (by decide) (hc (o_stvH (vs := [.int .i64 (IntKind.i64.wrap (p0_4 + 1))]) (us' := [.int .i64 p0_0, .int .i64 p0_1, .slice A0_2p p0_2.length c0_2p, .int .i64 0, .int .i64 (IntKind.i64.wrap (p0_4 + 1))]) hH 0 rfl rfl rfl rfl rfl tI3 rfl (List.cons_ne_nil _ _) rfl rfl rfl ?_)))
  clear hH
  intro s7 hH
  refine HL_nil (hK6 _ _ ?_)
  try dsimp only [putL, setL, evL, getL]
  refine HT_ret ?_
  exact hQr _ _ [] _ trivial H ⟨A0_2p, c0_2p, rfl, hH.sel [1, 0] (by decide)⟩
 ·refine HT_skip (hK3 _ _ ?_)
  refine HX_draw hMix ?_
  refine HX_lim (R := fun _ => True) (k := 0) (fun s' => Gro s2 s') 20 ?_
  have hR := Gro.refl s2
  have hH0 := hH
  refine HK_readP 1 (v := .pointer (some ⟨bp0, 0, none⟩)) rfl (by kernel_rfl) hQp rfl (fun s' K hK => o_move hK) rfl rfl (fun _ => hR) ?_
  try dsimp only [putL, setL, evL, getL]
  refine HK_readP 2 (v := .pointer (some ⟨bp0, 0, none⟩)) rfl (by kernel_rfl) hQp rfl (fun s' K hK => o_nilck rfl hK) rfl rfl (fun _ => hR) ?_
  refine HK_readP 3 (v := .pointer (some ⟨bp0, 0 + 2, none⟩)) rfl (by kernel_rfl) hQp rfl (fun s' K hK => o_faddr' (ft := 24) (off := 2) rfl Try.underlying66 rfl tI24 (by decide) hK) rfl rfl (fun _ => hR) ?_
  refine HK_read 4 (v := .slice A0_2p p0_2.length c0_2p) rfl (by kernel_rfl) hQp rfl (fun s' hR' K hK => o_load' rfl Try.underlying24 rfl (has_gro hR' (hH0.hasv 0 rfl rfl)) hK) rfl rfl hR ?_
  try dsimp only [putL, setL, evL, getL]
  refine HK_readP 5 (v := .pointer (some ⟨bp0, 0, none⟩)) rfl (by kernel_rfl) hQp rfl (fun s' K hK => o_move hK) rfl rfl (fun _ => hR) ?_
  refine HK_readP 6 (v := .pointer (some ⟨bp0, 0, none⟩)) rfl (by kernel_rfl) hQp rfl (fun s' K hK => o_nilck rfl hK) rfl rfl (fun _ => hR) ?_
  refine HK_readP 7 (v := .pointer (some ⟨bp0, 0 + 0, none⟩)) rfl (by kernel_rfl) hQp rfl (fun s' K hK => o_faddr' (ft := 3) (off := 0) rfl Try.underlying66 rfl tI3 (by decide) hK) rfl rfl (fun _ => hR) ?_
  try dsimp only [putL, setL, evL, getL]
  refine HK_read 8 (v := .int .i64 p0_0) rfl (by kernel_rfl) hQp rfl (fun s' hR' K hK => o_load' rfl Try.underlying3 rfl (has_gro hR' (hH0.hasv 0 rfl rfl)) hK) rfl rfl hR ?_
  replace H := headE H
  obtain ⟨x8, hx8, H⟩ := H
  refine HK_readP 9 (v := .slice (cutA A0_2p c0_2p (Int.toNat p0_0) (Kd.sz KI)) x8.length (c0_2p - Int.toNat p0_0)) rfl (by kernel_rfl) hQp rfl (fun s' K hK => o_cutA (xs := p0_2) (kl := .i64) (kh := .i64) (L := p0_0) (H := (p0_2.length : Int)) rfl rfl rfl Try.underlying24 tI3 (hH.rd 1 rfl).1 hx8 hK) rfl rfl (fun _ => hR) ?_
  have D8 := @Der.cut _ _ OI 3 A0_2p c0_2p _ _ _ _ hx8
  refine HK_readP 11 (v := .pointer (some ⟨bp0, 0, none⟩)) rfl (by kernel_rfl) hQp rfl (fun s' K hK => o_move hK) rfl rfl (fun _ => hR) ?_
  try dsimp only [putL, setL, evL, getL]
  refine HK_readP 12 (v := .pointer (some ⟨bp0, 0, none⟩)) rfl (by kernel_rfl) hQp rfl (fun s' K hK => o_nilck rfl hK) rfl rfl (fun _ => hR) ?_
  refine HK_readP 13 (v := .pointer (some ⟨bp0, 0 + 0, none⟩)) rfl (by kernel_rfl) hQp rfl (fun s' K hK => o_faddr' (ft := 3) (off := 0) rfl Try.underlying66 rfl tI3 (by decide) hK) rfl rfl (fun _ => hR) ?_
  refine HK_read 14 (v := .int .i64 p0_0) rfl (by kernel_rfl) hQp rfl (fun s' hR' K hK => o_load' rfl Try.underlying3 rfl (has_gro hR' (hH0.hasv 0 rfl rfl)) hK) rfl rfl hR ?_
  try dsimp only [putL, setL, evL, getL]
  refine HK_readP 0 (v := .pointer (some ⟨bp0, 0, none⟩)) rfl (by kernel_rfl) hQp rfl (fun s' K hK => o_move hK) rfl rfl (fun _ => hR) ?_
  refine HK_more [10] (by kernel_rfl) rfl (fun _ => hR) ⟨⟨_, rfl, Or.inl ⟨rfl, ?_⟩⟩, trivial⟩
  skip
  refine o_litF (K := KI) (O := OI) (ca := #[.int .i64 32]) [[.int .i64 32]] [32] hH Try.underlying24 tI3 rfl (by decide) rfl rfl (by kernel_rfl) rfl ⟨rfl, Ent.own (Ent.flat rfl), trivial⟩ ?_
  clear hH
  intro A9 s9 hH hG
  replace hR := hR.trans hG
  refine HK_more [15] (by kernel_rfl) rfl (fun _ => hR) ⟨⟨_, rfl, Or.inl ⟨rfl, ?_⟩⟩, trivial⟩
  replace H := headE H
  obtain ⟨u10, hu10, H⟩ := H
  skip
  refine o_call (args := #[.slice A9 [32].length 1, .int .i64 p0_0]) Try.func198 rfl rfl rfl (slices_Repeat_int_int.ok s9 s9 no A9 1 [32] p0_0 (hH.rd 2 rfl) (Hp.own (Bs.refl s9)) _ hu10) ?_
  rintro _ s10 ⟨A11, c11, rfl, hD⟩
  replace hR := hR.trans hD.gro
  replace hH := hH.back0T hD
  clear hD
  try dsimp only [putL, setL, evL, getL]
  refine HK_more [16] (by kernel_rfl) rfl (fun _ => hR) ⟨⟨_, rfl, Or.inl ⟨rfl, ?_⟩⟩, trivial⟩
  replace hH := hH.cut 1 rfl rfl hx8
  obtain ⟨sb14, hU14, D14, hH⟩ := hH.freeze 1 rfl rfl
  obtain ⟨sb15, hU15, D15, hH⟩ := hH.freeze 3 rfl rfl
  skip
  refine o_litF (K := (Kd.sl KI)) (O := (Ow.lent (Kd.sl KI))) (ca := #[.slice (cutA A0_2p c0_2p (Int.toNat p0_0) (Kd.sz KI)) x8.length (c0_2p - Int.toNat p0_0), .slice A11 u10.length c11]) [[.slice (cutA A0_2p c0_2p (Int.toNat p0_0) (Kd.sz KI)) x8.length (c0_2p - Int.toNat p0_0)], [.slice A11 u10.length c11]] [x8, u10] hH Try.underlying105 tI24 rfl (by decide) rfl rfl (by kernel_rfl) rfl ⟨rfl, Ent.own (Ent.lent ⟨_, _, rfl, (D14.mono hU15.bs.mono)⟩), rfl, Ent.own (Ent.lent ⟨_, _, rfl, D15⟩), trivial⟩ ?_
  clear hH
  intro A12 s12 hH hG
  replace hR := hR.trans hG
  refine HK_more [17] (by kernel_rfl) rfl (fun _ => hR) ⟨⟨_, rfl, Or.inl ⟨rfl, ?_⟩⟩, trivial⟩
  replace H := headE H
  obtain ⟨u16, hu16, H⟩ := H
  skip
  refine o_call (args := #[.slice A12 [x8, u10].length 2]) Try.func185 rfl rfl rfl (slices_Concat_int_int.ok s12 s12 no A12 2 [x8, u10] (hH.rd 4 rfl) (Hp.own (Bs.refl s12)) _ hu16) ?_
  rintro _ s16 ⟨A17, c17, rfl, hD⟩
  replace hR := hR.trans hD.gro
  replace hH := hH.back0T hD
  clear hD
  refine HK_readP 18 (v := .pointer (some ⟨bp0, 0, none⟩)) rfl (by kernel_rfl) hQp rfl (fun s' K hK => o_nilck rfl hK) rfl rfl (fun _ => hR) ?_
  try dsimp only [putL, setL, evL, getL]
  refine HK_readP 19 (v := .pointer (some ⟨bp0, 0 + 2, none⟩)) rfl (by kernel_rfl) hQp rfl (fun s' K hK => o_faddr' (ft := 24) (off := 2) rfl Try.underlying66 rfl tI24 (by decide) hK) rfl rfl (fun _ => hR) ?_
  refine HK_more [20] (by kernel_rfl) rfl (fun _ => hR) ⟨⟨_, rfl, Or.inl ⟨rfl, ?_⟩⟩, trivial⟩
  skip
  refine o_stvH (vs := [.slice A17 u16.length c17]) (us' := [.int .i64 p0_0, .int .i64 p0_1, .slice A17 u16.length c17, .int .i64 0, .int .i64 p0_4]) hH 0 rfl rfl rfl rfl rfl tI24 rfl (List.cons_ne_nil _ _) rfl rfl rfl ?_
  clear hH
  intro s18 hH
  refine HK_free (by kernel_rfl) ?_
  try dsimp only [putL, setL, evL, getL]
  refine HX_done (by kernel_rfl) ?_
  replace hH := hH.drop 4 rfl
  dsimp only [addC, setC, rmC, selC, getC] at hH
  replace hH : Hp sb s F0 s18 [Ck.ov bp0 [.int .i64 p0_0, .int .i64 p0_1, .slice A17 u16.length c17, .int .i64 0, .int .i64 p0_4] 66, Ck.emp, Ck.ol OI 3 A9 1 [32], Ck.emp, Ck.emp, Ck.ol OI 3 A17 c17 u16] := hH.down (hU14.bs.trans hU15.bs)
  exact hQn _ _ [] _ trivial H ⟨A17, c17, rfl, hH.sel [5, 0] (by decide)⟩
def impl_newScreen.f (p0 : Int) (p1 : Int) : Option (Int × Int × (List (Int)) × Int × Int) := (slices_Repeat_int_int.f [32] (IntKind.i64.wrap (p0 * p1))).bind fun u5 => some (p0, p1, u5, 0, 0)
def impl_newScreen.post (sb s : St) (F0 : Fp) (r : Int × Int × (List (Int)) × Int × Int) : Value → St → Prop := fun v s' => ∃ (A2 : Option Addr) (c2 : Nat), v = .agg #[.int .i64 r.1, .int .i64 r.2.1, .slice A2 r.2.2.1.length c2, .int .i64 r.2.2.2.1, .int .i64 r.2.2.2.2] ∧ Hp sb s F0 s' [Ck.ol OI 3 A2 c2 r.2.2.1]
set_option maxRecDepth 100000 in
set_option maxHeartbeats 4000000 in
theorem impl_newScreen.ok (sb s : St) (F0 : Fp) (p0 : Int) (p1 : Int) (hH : Hp sb s F0 s []) (r : Int × Int × (List (Int)) × Int × Int) (H : impl_newScreen.f p0 p1 = some r) : GCall Try.prog 147 #[.int .i64 p0, .int .i64 p1] s (impl_newScreen.post sb s F0 r) := by
 refine GCall_ofr (impl_newScreen.post sb s F0) [.cell 4 66] (ud [.int .i64 p0, .int .i64 p1] 11) Try.func147 rfl rfl rfl fun w Q hQr hQn hQp => ?_
 replace H := topE H
 unfold impl_newScreen.f at H
 dsimp only [ud, un]
 refine sr fun K1 hK1 => hc (o_allocH hH tI66 ?_)
 clear hH
 intro b2 s2 hH _
 refine HL_nil (hK1 _ _ ?_)
 try dsimp only [putL, setL, evL, getL]
 refine sr fun K3 hK3 => mv (mv (hc (o_litF (K := KI) (O := OI) (ca := #[.int .i64 32]) [[.int .i64 32]] [32] hH Try.underlying24 tI3 rfl (by decide) rfl rfl (by kernel_rfl) rfl ⟨rfl, Ent.own (Ent.flat rfl), trivial⟩ ?_)))
 clear hH
 intro A4 s4 hH _
 try dsimp only [putL, setL, evL, getL]
 refine mv (mv (bn rfl rfl rfl ?_))
 replace H := headE H
 obtain ⟨u5, hu5, H⟩ := H
 try dsimp only [putL, setL, evL, getL]
 refine hc (o_call (args := #[.slice A4 [32].length 1, .int .i64 (IntKind.i64.wrap (p0 * p1))]) Try.func198 rfl rfl rfl (slices_Repeat_int_int.ok s4 s4 no A4 1 [32] (IntKind.i64.wrap (p0 * p1)) (hH.rd 1 rfl) (Hp.own (Bs.refl s4)) _ hu5) ?_)
 rintro _ s5 ⟨A6, c6, rfl, hD⟩
 replace hH := hH.back0T hD
 clear hD
 refine hc (o_build (pl := [(0, 1), (1, 1), (2, 1), (3, 1), (4, 1)]) (cs := #[.int .i64 p0, .int .i64 p1, .slice A6 u5.length c6, .int .i64 0, .int .i64 0]) Try.underlying66 tI66 (by kernel_rfl) (by kernel_rfl) rfl (hc (o_stvH (vs := [.int .i64 p0, .int .i64 p1, .slice A6 u5.length c6, .int .i64 0, .int .i64 0]) (us' := [.int .i64 p0, .int .i64 p1, .slice A6 u5.length c6, .int .i64 0, .int .i64 0]) hH 0 rfl rfl rfl rfl rfl tI66 rfl (List.cons_ne_nil _ _) rfl rfl rfl ?_)))
 clear hH
 intro s7 hH
 refine HL_nil (hK3 _ _ ?_)
 try dsimp only [putL, setL, evL, getL]
 refine HT_ret ?_
 exact hQr _ _ [.agg #[.int .i64 p0, .int .i64 p1, .slice A6 u5.length c6, .int .i64 0, .int .i64 0]] _ ⟨ResV.cells rfl Try.underlying66 rfl tI66 (hH.var 0 rfl) rfl, trivial⟩ H ⟨A6, c6, rfl, hH.sel [2] (by decide)⟩
def impl_Screen_put.f (p0_0 : Int) (p0_1 : Int) (p0_2 : List (Int)) (p0_3 : Int) (p0_4 : Int) (p1 : Int) : Option (Int × Int × (List (Int)) × Int × Int) := if (p1 == 8) = true then (some (p0_0, p0_1, p0_2, (max (IntKind.i64.wrap (p0_3 - 1)) 0), p0_4)) else (if (p1 == 9) = true then ((quo? .i64 p0_3 4).bind fun u6 => some (p0_0, p0_1, p0_2, (min (IntKind.i64.wrap ((IntKind.i64.wrap (u6 + 1)) * 4)) p0_0), p0_4)) else (if (p1 == 10) = true then ((impl_Screen_down.f p0_0 p0_1 p0_2 p0_3 p0_4).bind fun u10 => some (p0_0, p0_1, u10.1, u10.2.1, u10.2.2)) else (if (p1 == 12) = true then ((impl_newScreen.f p0_0 p0_1).bind fun u14 => some (u14.1, u14.2.1, u14.2.2.1, u14.2.2.2.1, u14.2.2.2.2)) else (if (p1 == 13) = true then (some (p0_0, p0_1, p0_2, 0, p0_4)) else (if (decide (p1 ≥ 32)) = true then ((if (p0_3 == p0_0) = true then ((impl_Screen_down.f p0_0 p0_1 p0_2 p0_3 p0_4).bind fun u32 => some (u32.1, u32.2.1, u32.2.2)) else (some (p0_2, p0_3, p0_4))).bind fun (o : (List (Int)) × Int × Int) => match o with | (x27, x28, x29) => ((rd? x27 (IntKind.i64.wrap ((IntKind.i64.wrap (x29 * p0_0)) + x28))).bind fun u36 => (st? x27 (IntKind.i64.wrap ((IntKind.i64.wrap (x29 * p0_0)) + x28)) p1).bind fun x37 => some (p0_0, p0_1, x37, (IntKind.i64.wrap (x28 + 1)), x29))) else (some (p0_0, p0_1, p0_2, p0_3, p0_4)))))))
def impl_Screen_put.post (sb s : St) (F0 : Fp) (bp0 : Nat) (r : Int × Int × (List (Int)) × Int × Int) : Value → St → Prop := fun v s' => ∃ (A2 : Option Addr) (c2 : Nat), v = .tuple #[] ∧ Hp sb s F0 s' [Ck.ol OI 3 A2 c2 r.2.2.1, Ck.ov bp0 [.int .i64 r.1, .int .i64 r.2.1, .slice A2 r.2.2.1.length c2, .int .i64 r.2.2.2.1, .int .i64 r.2.2.2.2] 66]
set_option maxRecDepth 100000 in
set_option maxHeartbeats 4000000 in
theorem impl_Screen_put.ok (sb s : St) (F0 : Fp) (bp0 : Nat) (p0_0 : Int) (p0_1 : Int) (A0_2p : Option Addr) (c0_2p : Nat) (p0_2 : List (Int)) (p0_3 : Int) (p0_4 : Int) (p1 : Int) (hH : Hp sb s F0 s [Ck.ov bp0 [.int .i64 p0_0, .int .i64 p0_1, .slice A0_2p p0_2.length c0_2p, .int .i64 p0_3, .int .i64 p0_4] 66, Ck.ol OI 3 A0_2p c0_2p p0_2]) (r : Int × Int × (List (Int)) × Int × Int) (H : impl_Screen_put.f p0_0 p0_1 p0_2 p0_3 p0_4 p1 = some r) : GCall Try.prog 142 #[.pointer (some ⟨bp0, 0, none⟩), .int .i64 p1] s (impl_Screen_put.post sb s F0 bp0 r) := by
 refine GCall_ofr (impl_Screen_put.post sb s F0 bp0) [] (ud [.pointer (some ⟨bp0, 0, none⟩), .int .i64 p1] 98) Try.func142 rfl rfl rfl fun w Q hQr hQn hQp => ?_
 replace H := topE H
 unfold impl_Screen_put.f at H
 dsimp only [ud, un]
 refine HT_block (sr fun K1 hK1 => (mv (bn rfl rfl rfl (ag (HL_nil (hK1 _ _ ?_))))))
 dsimp only [putL, setL, evL, getL]
 revert H
 refine ct rfl (fun hb2 H => ?_) (fun hb2 H => ?_)
 ·refine HT_region ?_
  refine mv (mv (hc (o_nilck rfl ?_)))
  dsimp only [putL, setL, evL, getL]
  refine hc (o_faddr' (ft := 3) (off := 3) rfl Try.underlying66 rfl tI3 (by decide) (hc (o_load' rfl Try.underlying3 rfl (hH.hasv 0 rfl rfl) (bn rfl rfl rfl ?_))))
  dsimp only [putL, setL, evL, getL]
  refine hc (o_max2 rfl rfl (hc (o_nilck rfl (hc (o_faddr' (ft := 3) (off := 3) rfl Try.underlying66 rfl tI3 (by decide) ?_)))))
  dsimp only [putL, setL, evL, getL]
  refine hc (o_stvH (vs := [.int .i64 (max (IntKind.i64.wrap (p0_3 - 1)) 0)]) (us' := [.int .i64 p0_0, .int .i64 p0_1, .slice A0_2p p0_2.length c0_2p, .int .i64 (max (IntKind.i64.wrap (p0_3 - 1)) 0), .int .i64 p0_4]) hH 0 rfl rfl rfl rfl rfl tI3 rfl (List.cons_ne_nil _ _) rfl rfl rfl ?_)
  clear hH
  intro s3 hH
  refine HL_nil ?_
  exact hQn _ _ [] _ trivial H ⟨A0_2p, c0_2p, rfl, hH.sel [1, 0] (by decide)⟩
 ·refine sr fun K4 hK4 => mv (bn rfl rfl rfl ?_)
  dsimp only [putL, setL, evL, getL]
  refine ag (HL_nil (hK4 _ _ ?_))
  dsimp only [putL, setL, evL, getL]
  revert H
  refine ct rfl (fun hb5 H => ?_) (fun hb5 H => ?_)
  ·refine HX_draw hMix ?_
   refine HX_lim (R := fun _ => True) (k := 0) (fun s' => Gro s s') 15 ?_
   have hR := Gro.refl s
   have hH0 := hH
   refine HK_readP 1 (v := .pointer (some ⟨bp0, 0, none⟩)) rfl (by kernel_rfl) hQp rfl (fun s' K hK => o_move hK) rfl rfl (fun _ => hR) ?_
   try dsimp only [putL, setL, evL, getL]
   refine HK_readP 2 (v := .pointer (some ⟨bp0, 0, none⟩)) rfl (by kernel_rfl) hQp rfl (fun s' K hK => o_nilck rfl hK) rfl rfl (fun _ => hR) ?_
   refine HK_readP 3 (v := .pointer (some ⟨bp0, 0 + 3, none⟩)) rfl (by kernel_rfl) hQp rfl (fun s' K hK => o_faddr' (ft := 3) (off := 3) rfl Try.underlying66 rfl tI3 (by decide) hK) rfl rfl (fun _ => hR) ?_
   refine HK_read 4 (v := .int .i64 p0_3) rfl (by kernel_rfl) hQp rfl (fun s' hR' K hK => o_load' rfl Try.underlying3 rfl (has_gro hR' (hH0.hasv 0 rfl rfl)) hK) rfl rfl hR ?_
   replace H := headE H
   obtain ⟨u6, hu6, H⟩ := H
   try dsimp only [putL, setL, evL, getL]
   refine HK_readP 5 (v := .int .i64 u6) rfl (by kernel_rfl) hQp rfl (fun s' K hK => o_quo' rfl rfl hu6 hK) rfl rfl (fun _ => hR) ?_
   refine HK_readP 6 (v := .int .i64 (IntKind.i64.wrap (u6 + 1))) rfl (by kernel_rfl) hQp rfl (fun s' K hK => o_bin rfl rfl rfl hK) rfl rfl (fun _ => hR) ?_
   refine HK_readP 7 (v := .int .i64 (IntKind.i64.wrap ((IntKind.i64.wrap (u6 + 1)) * 4))) rfl (by kernel_rfl) hQp rfl (fun s' K hK => o_bin rfl rfl rfl hK) rfl rfl (fun _ => hR) ?_
   try dsimp only [putL, setL, evL, getL]
   refine HK_readP 8 (v := .pointer (some ⟨bp0, 0, none⟩)) rfl (by kernel_rfl) hQp rfl (fun s' K hK => o_move hK) rfl rfl (fun _ => hR) ?_
   refine HK_readP 9 (v := .pointer (some ⟨bp0, 0, none⟩)) rfl (by kernel_rfl) hQp rfl (fun s' K hK => o_nilck rfl hK) rfl rfl (fun _ => hR) ?_
   refine HK_readP 10 (v := .pointer (some ⟨bp0, 0 + 0, none⟩)) rfl (by kernel_rfl) hQp rfl (fun s' K hK => o_faddr' (ft := 3) (off := 0) rfl Try.underlying66 rfl tI3 (by decide) hK) rfl rfl (fun _ => hR) ?_
   try dsimp only [putL, setL, evL, getL]
   refine HK_read 11 (v := .int .i64 p0_0) rfl (by kernel_rfl) hQp rfl (fun s' hR' K hK => o_load' rfl Try.underlying3 rfl (has_gro hR' (hH0.hasv 0 rfl rfl)) hK) rfl rfl hR ?_
   refine HK_readP 12 (v := .int .i64 (min (IntKind.i64.wrap ((IntKind.i64.wrap (u6 + 1)) * 4)) p0_0)) rfl (by kernel_rfl) hQp rfl (fun s' K hK => o_min2 rfl rfl hK) rfl rfl (fun _ => hR) ?_
   refine HK_readP 0 (v := .pointer (some ⟨bp0, 0, none⟩)) rfl (by kernel_rfl) hQp rfl (fun s' K hK => o_move hK) rfl rfl (fun _ => hR) ?_
   try dsimp only [putL, setL, evL, getL]
   refine HK_readP 13 (v := .pointer (some ⟨bp0, 0, none⟩)) rfl (by kernel_rfl) hQp rfl (fun s' K hK => o_nilck rfl hK) rfl rfl (fun _ => hR) ?_
   refine HK_readP 14 (v := .pointer (some ⟨bp0, 0 + 3, none⟩)) rfl (by kernel_rfl) hQp rfl (fun s' K hK => o_faddr' (ft := 3) (off := 3) rfl Try.underlying66 rfl tI3 (by decide) hK) rfl rfl (fun _ => hR) ?_
   refine HK_more [15] (by kernel_rfl) rfl (fun _ => hR) ⟨⟨_, rfl, Or.inl ⟨rfl, ?_⟩⟩, trivial⟩
   skip
   refine o_stvH (vs := [.int .i64 (min (IntKind.i64.wrap ((IntKind.i64.wrap (u6 + 1)) * 4)) p0_0)]) (us' := [.int .i64 p0_0, .int .i64 p0_1, .slice A0_2p p0_2.length c0_2p, .int .i64 (min (IntKind.i64.wrap ((IntKind.i64.wrap (u6 + 1)) * 4)) p0_0), .int .i64 p0_4]) hH 0 rfl rfl rfl rfl rfl tI3 rfl (List.cons_ne_nil _ _) rfl rfl rfl ?_
   clear hH
   intro s7 hH
   try dsimp only [putL, setL, evL, getL]
   refine HK_free (by kernel_rfl) ?_
   refine HX_done (by kernel_rfl) ?_
   exact hQn _ _ [] _ trivial H ⟨A0_2p, c0_2p, rfl, hH.sel [1, 0] (by decide)⟩
  ·refine sr fun K8 hK8 => mv ?_
   dsimp only [putL, setL, evL, getL]
   refine bn rfl rfl rfl (ag (HL_nil (hK8 _ _ ?_)))
   dsimp only [putL, setL, evL, getL]
   revert H
   refine ct rfl (fun hb9 H => ?_) (fun hb9 H => ?_)
   ·refine HT_region ?_
    refine mv ?_
    replace H := headE H
    obtain ⟨u10, hu10, H⟩ := H
    obtain ⟨F1, hA, hB⟩ := hH.take [0, 1] (by decide)
    dsimp only [addC, setC, rmC, selC, getC] at hA
    refine hc (o_call (args := #[.pointer (some ⟨bp0, 0, none⟩)]) Try.func196 rfl rfl rfl (impl_Screen_down.ok sb s F1 bp0 p0_0 p0_1 A0_2p c0_2p p0_2 p0_3 p0_4 hA _ hu10) ?_)
    rintro _ s10 ⟨A11, c11, rfl, hD⟩
    replace hH := hB _ _ _ (Up.refl _ _ _) hD
    clear hD hA hB
    refine HL_nil ?_
    exact hQn _ _ [] _ trivial H ⟨A11, c11, rfl, hH.sel [2, 3] (by decide)⟩
   ·refine sr fun K12 hK12 => mv ?_
    dsimp only [putL, setL, evL, getL]
    refine bn rfl rfl rfl (ag (HL_nil (hK12 _ _ ?_)))
    dsimp only [putL, setL, evL, getL]
    revert H
    refine ct rfl (fun hb13 H => ?_) (fun hb13 H => ?_)
    ·refine HX_draw hMix ?_
     refine HX_lim (R := fun _ => True) (k := 0) (fun s' => Gro s s') 11 ?_
     have hR := Gro.refl s
     have hH0 := hH
     refine HK_readP 1 (v := .pointer (some ⟨bp0, 0, none⟩)) rfl (by kernel_rfl) hQp rfl (fun s' K hK => o_move hK) rfl rfl (fun _ => hR) ?_
     try dsimp only [putL, setL, evL, getL]
     refine HK_readP 2 (v := .pointer (some ⟨bp0, 0, none⟩)) rfl (by kernel_rfl) hQp rfl (fun s' K hK => o_nilck rfl hK) rfl rfl (fun _ => hR) ?_
     refine HK_readP 3 (v := .pointer (some ⟨bp0, 0 + 0, none⟩)) rfl (by kernel_rfl) hQp rfl (fun s' K hK => o_faddr' (ft := 3) (off := 0) rfl Try.underlying66 rfl tI3 (by decide) hK) rfl rfl (fun _ => hR) ?_
     refine HK_read 4 (v := .int .i64 p0_0) rfl (by kernel_rfl) hQp rfl (fun s' hR' K hK => o_load' rfl Try.underlying3 rfl (has_gro hR' (hH0.hasv 0 rfl rfl)) hK) rfl rfl hR ?_
     try dsimp only [putL, setL, evL, getL]
     refine HK_readP 5 (v := .pointer (some ⟨bp0, 0, none⟩)) rfl (by kernel_rfl) hQp rfl (fun s' K hK => o_move hK) rfl rfl (fun _ => hR) ?_
     refine HK_readP 6 (v := .pointer (some ⟨bp0, 0, none⟩)) rfl (by kernel_rfl) hQp rfl (fun s' K hK => o_nilck rfl hK) rfl rfl (fun _ => hR) ?_
     refine HK_readP 7 (v := .pointer (some ⟨bp0, 0 + 1, none⟩)) rfl (by kernel_rfl) hQp rfl (fun s' K hK => o_faddr' (ft := 3) (off := 1) rfl Try.underlying66 rfl tI3 (by decide) hK) rfl rfl (fun _ => hR) ?_
     try dsimp only [putL, setL, evL, getL]
     refine HK_read 8 (v := .int .i64 p0_1) rfl (by kernel_rfl) hQp rfl (fun s' hR' K hK => o_load' rfl Try.underlying3 rfl (has_gro hR' (hH0.hasv 0 rfl rfl)) hK) rfl rfl hR ?_
     refine HK_readP 0 (v := .pointer (some ⟨bp0, 0, none⟩)) rfl (by kernel_rfl) hQp rfl (fun s' K hK => o_move hK) rfl rfl (fun _ => hR) ?_
     refine HK_more [9] (by kernel_rfl) rfl (fun _ => hR) ⟨⟨_, rfl, Or.inl ⟨rfl, ?_⟩⟩, trivial⟩
     replace H := headE H
     obtain ⟨u14, hu14, H⟩ := H
     skip
     refine o_call (args := #[.int .i64 p0_0, .int .i64 p0_1]) Try.func147 rfl rfl rfl (impl_newScreen.ok sb s no p0_0 p0_1 (Hp.own hH.bs) _ hu14) ?_
     rintro _ s14 ⟨A15, c15, rfl, hD⟩
     replace hR := hR.trans hD.gro
     replace hH := hH.back0 hD (Up.refl _ _ _)
     clear hD
     try dsimp only [putL, setL, evL, getL]
     refine HK_readP 10 (v := .pointer (some ⟨bp0, 0, none⟩)) rfl (by kernel_rfl) hQp rfl (fun s' K hK => o_nilck rfl hK) rfl rfl (fun _ => hR) ?_
     refine HK_more [11] (by kernel_rfl) rfl (fun _ => hR) ⟨⟨_, rfl, Or.inl ⟨rfl, ?_⟩⟩, trivial⟩
     skip
     refine o_stvH (vs := [.int .i64 u14.1, .int .i64 u14.2.1, .slice A15 u14.2.2.1.length c15, .int .i64 u14.2.2.2.1, .int .i64 u14.2.2.2.2]) (us' := [.int .i64 u14.1, .int .i64 u14.2.1, .slice A15 u14.2.2.1.length c15, .int .i64 u14.2.2.2.1, .int .i64 u14.2.2.2.2]) hH 0 rfl rfl rfl rfl rfl tI66 rfl (List.cons_ne_nil _ _) rfl rfl rfl ?_
     clear hH
     intro s16 hH
     refine HK_free (by kernel_rfl) ?_
     try dsimp only [putL, setL, evL, getL]
     refine HX_done (by kernel_rfl) ?_
     exact hQn _ _ [] _ trivial H ⟨A15, c15, rfl, hH.sel [2, 0] (by decide)⟩
    ·refine sr fun K17 hK17 => mv (bn rfl rfl rfl ?_)
     dsimp only [putL, setL, evL, getL]
     refine ag (HL_nil (hK17 _ _ ?_))
     dsimp only [putL, setL, evL, getL]
     revert H
     refine ct rfl (fun hb18 H => ?_) (fun hb18 H => ?_)
     ·refine HT_region ?_
      refine mv (hc (o_nilck rfl (hc (o_faddr' (ft := 3) (off := 3) rfl Try.underlying66 rfl tI3 (by decide) ?_))))
      dsimp only [putL, setL, evL, getL]
      refine hc (o_stvH (vs := [.int .i64 0]) (us' := [.int .i64 p0_0, .int .i64 p0_1, .slice A0_2p p0_2.length c0_2p, .int .i64 0, .int .i64 p0_4]) hH 0 rfl rfl rfl rfl rfl tI3 rfl (List.cons_ne_nil _ _) rfl rfl rfl ?_)
      clear hH
      intro s19 hH
      refine HL_nil ?_
      exact hQn _ _ [] _ trivial H ⟨A0_2p, c0_2p, rfl, hH.sel [1, 0] (by decide)⟩
     ·refine sr fun K20 hK20 => mv (bn rfl rfl rfl ?_)
      dsimp only [putL, setL, evL, getL]
      refine ag (HL_nil (hK20 _ _ ?_))
      dsimp only [putL, setL, evL, getL]
      revert H
      refine ct rfl (fun hb21 H => ?_) (fun hb21 H => ?_)
      ·refine joinH H fun G22 hG22 H => ?_
       refine HT_joinK (fun l' s' => ∃ (x27 : List (Int)) (A27 : Option Addr) (c27 : Nat) (x28 : Int) (x29 : Int), G22 (x27, x28, x29) = some r ∧ skim [0, 0] l' = ([.pointer (some ⟨bp0, 0, none⟩), .int .i64 p1], 99) ∧ Hp sb s F0 s' [Ck.ol OI 3 A27 c27 x27, Ck.ov bp0 [.int .i64 p0_0, .int .i64 p0_1, .slice A27 x27.length c27, .int .i64 x28, .int .i64 x29] 66]) ?_ ?_
       ·intro K22 hK22
        refine sx hMix fun K30 hK30 => ?_
        refine HX_lim (R := fun _ => True) (k := 0) (fun s' => Gro s s') 10 ?_
        have hR := Gro.refl s
        have hH0 := hH
        refine HK_readP 0 (v := .pointer (some ⟨bp0, 0, none⟩)) rfl (by kernel_rfl) hQp rfl (fun s' K hK => o_move hK) rfl rfl (fun _ => hR) ?_
        refine HK_readP 1 (v := .pointer (some ⟨bp0, 0, none⟩)) rfl (by kernel_rfl) hQp rfl (fun s' K hK => o_nilck rfl hK) rfl rfl (fun _ => hR) ?_
        try dsimp only [putL, setL, evL, getL]
        refine HK_readP 2 (v := .pointer (some ⟨bp0, 0 + 3, none⟩)) rfl (by kernel_rfl) hQp rfl (fun s' K hK => o_faddr' (ft := 3) (off := 3) rfl Try.underlying66 rfl tI3 (by decide) hK) rfl rfl (fun _ => hR) ?_
        refine HK_read 3 (v := .int .i64 p0_3) rfl (by kernel_rfl) hQp rfl (fun s' hR' K hK => o_load' rfl Try.underlying3 rfl (has_gro hR' (hH0.hasv 0 rfl rfl)) hK) rfl rfl hR ?_
        refine HK_readP 4 (v := .pointer (some ⟨bp0, 0, none⟩)) rfl (by kernel_rfl) hQp rfl (fun s' K hK => o_move hK) rfl rfl (fun _ => hR) ?_
        try dsimp only [putL, setL, evL, getL]
        refine HK_readP 5 (v := .pointer (some ⟨bp0, 0, none⟩)) rfl (by kernel_rfl) hQp rfl (fun s' K hK => o_nilck rfl hK) rfl rfl (fun _ => hR) ?_
        refine HK_readP 6 (v := .pointer (some ⟨bp0, 0 + 0, none⟩)) rfl (by kernel_rfl) hQp rfl (fun s' K hK => o_faddr' (ft := 3) (off := 0) rfl Try.underlying66 rfl tI3 (by decide) hK) rfl rfl (fun _ => hR) ?_
        refine HK_read 7 (v := .int .i64 p0_0) rfl (by kernel_rfl) hQp rfl (fun s' hR' K hK => o_load' rfl Try.underlying3 rfl (has_gro hR' (hH0.hasv 0 rfl rfl)) hK) rfl rfl hR ?_
        try dsimp only [putL, setL, evL, getL]
        refine HK_readP 8 (v := .bool (p0_3 == p0_0)) rfl (by kernel_rfl) hQp rfl (fun s' K hK => o_bin rfl rfl rfl hK) rfl rfl (fun _ => hR) ?_
        refine HK_done (fun _ => hR) (by kernel_rfl) ?_
        refine hK30 _ _ ?_
        try dsimp only [putL, setL, evL, getL]
        revert H
        refine ct rfl (fun hb31 H => ?_) (fun hb31 H => ?_)
        ·refine HT_region ?_
         refine mv ?_
         replace H := headE H
         obtain ⟨u32, hu32, H⟩ := H
         obtain ⟨F1, hA, hB⟩ := hH.take [0, 1] (by decide)
         dsimp only [addC, setC, rmC, selC, getC] at hA
         refine hc (o_call (args := #[.pointer (some ⟨bp0, 0, none⟩)]) Try.func196 rfl rfl rfl (impl_Screen_down.ok sb s F1 bp0 p0_0 p0_1 A0_2p c0_2p p0_2 p0_3 p0_4 hA _ hu32) ?_)
         rintro _ s32 ⟨A33, c33, rfl, hD⟩
         replace hH := hB _ _ _ (Up.refl _ _ _) hD
         clear hD hA hB
         refine HL_nil ?_
         exact hK22 _ _ ⟨u32.1, A33, c33, u32.2.1, u32.2.2, H, rfl, hH.sel [2, 3] (by decide)⟩
        ·refine HT_skip ?_
         exact hK22 _ _ ⟨p0_2, A0_2p, c0_2p, p0_3, p0_4, H, rfl, hH.sel [1, 0] (by decide)⟩
       ·rintro l' s34 ⟨x27, A27, c27, x28, x29, H, hl, hH⟩
        revert l'
        refine skA ?_
        dsimp only [Al, Sk]
        intros
        replace H := hG22 _ H
        try dsimp only at H
        refine sx hMix fun K35 hK35 => ?_
        refine HX_lim (R := fun _ => True) (k := 0) (fun s' => Gro s34 s') 20 ?_
        have hR := Gro.refl s34
        have hH0 := hH
        try dsimp only [putL, setL, evL, getL]
        refine HK_readP 18 (v := .int .i64 p1) rfl (by kernel_rfl) hQp rfl (fun s' K hK => o_move hK) rfl rfl (fun _ => hR) ?_
        refine HK_readP 0 (v := .pointer (some ⟨bp0, 0, none⟩)) rfl (by kernel_rfl) hQp rfl (fun s' K hK => o_move hK) rfl rfl (fun _ => hR) ?_
        refine HK_readP 1 (v := .pointer (some ⟨bp0, 0, none⟩)) rfl (by kernel_rfl) hQp rfl (fun s' K hK => o_nilck rfl hK) rfl rfl (fun _ => hR) ?_
        try dsimp only [putL, setL, evL, getL]
        refine HK_readP 2 (v := .pointer (some ⟨bp0, 0 + 2, none⟩)) rfl (by kernel_rfl) hQp rfl (fun s' K hK => o_faddr' (ft := 24) (off := 2) rfl Try.underlying66 rfl tI24 (by decide) hK) rfl rfl (fun _ => hR) ?_
        refine HK_read 3 (v := .slice A27 x27.length c27) rfl (by kernel_rfl) hQp rfl (fun s' hR' K hK => o_load' rfl Try.underlying24 rfl (has_gro hR' (hH0.hasv 1 rfl rfl)) hK) rfl rfl hR ?_
        refine HK_readP 4 (v := .pointer (some ⟨bp0, 0, none⟩)) rfl (by kernel_rfl) hQp rfl (fun s' K hK => o_move hK) rfl rfl (fun _ => hR) ?_
        try dsimp only [putL, setL, evL, getL]
        refine HK_readP 5 (v := .pointer (some ⟨bp0, 0, none⟩)) rfl (by kernel_rfl) hQp rfl (fun s' K hK => o_nilck rfl hK) rfl rfl (fun _ => hR) ?_
        refine HK_readP 6 (v := .pointer (some ⟨bp0, 0 + 4, none⟩)) rfl (by kernel_rfl) hQp rfl (fun s' K hK => o_faddr' (ft := 3) (off := 4) rfl Try.underlying66 rfl tI3 (by decide) hK) rfl rfl (fun _ => hR) ?_
        refine HK_read 7 (v := .int .i64 x29) rfl (by kernel_rfl) hQp rfl (fun s' hR' K hK => o_load' rfl Try.underlying3 rfl (has_gro hR' (hH0.hasv 1 rfl rfl)) hK) rfl rfl hR ?_
        try dsimp only [putL, setL, evL, getL]
        refine HK_readP 8 (v := .pointer (some ⟨bp0, 0, none⟩)) rfl (by kernel_rfl) hQp rfl (fun s' K hK => o_move hK) rfl rfl (fun _ => hR) ?_
        refine HK_readP 9 (v := .pointer (some ⟨bp0, 0, none⟩)) rfl (by kernel_rfl) hQp rfl (fun s' K hK => o_nilck rfl hK) rfl rfl (fun _ => hR) ?_
        refine HK_readP 10 (v := .pointer (some ⟨bp0, 0 + 0, none⟩)) rfl (by kernel_rfl) hQp rfl (fun s' K hK => o_faddr' (ft := 3) (off := 0) rfl Try.underlying66 rfl tI3 (by decide) hK) rfl rfl (fun _ => hR) ?_
        try dsimp only [putL, setL, evL, getL]
        refine HK_read 11 (v := .int .i64 p0_0) rfl (by kernel_rfl) hQp rfl (fun s' hR' K hK => o_load' rfl Try.underlying3 rfl (has_gro hR' (hH0.hasv 1 rfl rfl)) hK) rfl rfl hR ?_
        refine HK_readP 12 (v := .int .i64 (IntKind.i64.wrap (x29 * p0_0))) rfl (by kernel_rfl) hQp rfl (fun s' K hK => o_bin rfl rfl rfl hK) rfl rfl (fun _ => hR) ?_
        refine HK_readP 13 (v := .pointer (some ⟨bp0, 0, none⟩)) rfl (by kernel_rfl) hQp rfl (fun s' K hK => o_move hK) rfl rfl (fun _ => hR) ?_
        try dsimp only [putL, setL, evL, getL]
        refine HK_readP 14 (v := .pointer (some ⟨bp0, 0, none⟩)) rfl (by kernel_rfl) hQp rfl (fun s' K hK => o_nilck rfl hK) rfl rfl (fun _ => hR) ?_
        refine HK_readP 15 (v := .pointer (some ⟨bp0, 0 + 3, none⟩)) rfl (by kernel_rfl) hQp rfl (fun s' K hK => o_faddr' (ft := 3) (off := 3) rfl Try.underlying66 rfl tI3 (by decide) hK) rfl rfl (fun _ => hR) ?_
        refine HK_read 16 (v := .int .i64 x28) rfl (by kernel_rfl) hQp rfl (fun s' hR' K hK => o_load' rfl Try.underlying3 rfl (has_gro hR' (hH0.hasv 1 rfl rfl)) hK) rfl rfl hR ?_
        try dsimp only [putL, setL, evL, getL]
        refine HK_readP 17 (v := .int .i64 (IntKind.i64.wrap ((IntKind.i64.wrap (x29 * p0_0)) + x28))) rfl (by kernel_rfl) hQp rfl (fun s' K hK => o_bin rfl rfl rfl hK) rfl rfl (fun _ => hR) ?_
        replace H := headE H
        obtain ⟨u36, hu36, H⟩ := H
        obtain ⟨b36, o36, cs36, hA36, hr36, hh36, hel36⟩ := hH0.elo 0 rfl hu36
        obtain rfl := hr36
        refine HK_readP 19 (v := .pointer (some ⟨b36, o36 + Int.toNat (IntKind.i64.wrap ((IntKind.i64.wrap (x29 * p0_0)) + x28)) * Kd.sz KI, none⟩)) rfl (by kernel_rfl) hQp rfl (fun s' K hK => hel36 s' rfl rfl Try.underlying24 tI3 hK) rfl rfl (fun _ => hR) ?_
        refine HK_more [20] (by kernel_rfl) rfl (fun _ => hR) ⟨⟨_, rfl, Or.inl ⟨rfl, ?_⟩⟩, trivial⟩
        replace H := headE H
        obtain ⟨x37, hx37, H⟩ := H
        skip
        refine o_setF (vs := [.int .i64 p1]) (u := p1) hH 0 rfl rfl rfl rfl rfl tI3 hA36 hx37 (Ent.own (Ent.flat rfl)) ?_
        clear hH
        intro s37 hH
        have hl37 := st?_len hx37
        try dsimp only [putL, setL, evL, getL]
        refine HK_free (by kernel_rfl) ?_
        refine HX_done (by kernel_rfl) ?_
        refine hK35 _ _ ?_
        try dsimp only [putL, setL, evL, getL]
        refine HT_region ?_
        refine mv (hc (o_nilck rfl (hc (o_faddr' (ft := 3) (off := 3) rfl Try.underlying66 rfl tI3 (by decide) ?_))))
        dsimp only [putL, setL, evL, getL]
        refine hc (o_load' rfl Try.underlying3 rfl (hH.hasv 1 rfl rfl) (bn rfl rfl rfl (hc (o_nilck rfl ?_))))
        dsimp only [putL, setL, evL, getL]
        refine hc (o_faddr' (ft := 3) (off := 3) rfl Try.underlying66 rfl tI3 (by decide) (hc (o_stvH (vs := [.int .i64 (IntKind.i64.wrap (x28 + 1))]) (us' := [.int .i64 p0_0, .int .i64 p0_1, .slice A27 x27.length c27, .int .i64 (IntKind.i64.wrap (x28 + 1)), .int .i64 x29]) hH 1 rfl rfl rfl rfl rfl tI3 rfl (List.cons_ne_nil _ _) rfl rfl rfl ?_)))
        clear hH
        intro s38 hH
        refine HL_nil ?_
        replace hH : Hp sb s F0 s38 [Ck.ol OI 3 A27 c27 x37, Ck.ov bp0 [.int .i64 p0_0, .int .i64 p0_1, .slice A27 x37.length c27, .int .i64 (IntKind.i64.wrap (x28 + 1)), .int .i64 x29] 66] := by rw [hl37]; exact hH
        exact hQn _ _ [] _ trivial H ⟨A27, c27, rfl, hH⟩
      ·refine HT_skip ?_
       exact hQn _ _ [] _ trivial H ⟨A0_2p, c0_2p, rfl, hH.sel [1, 0] (by decide)⟩
def impl_PutRunes.l1 (p1 : List (Int)) : Nat → Int → Int → Int → (List (Int)) → Int → Int → Option (Int × Int × (List (Int)) × Int × Int)
 | 0, _, _, _, _, _, _ => none
 | kf + 1, x87, x88, x89, x90, x91, x92 => if (decide (x87 < (p1.length : Int))) = true then ((rd? p1 x87).bind fun u113 => (impl_Screen_put.f x88 x89 x90 x91 x92 u113).bind fun u114 => impl_PutRunes.l1 p1 kf (IntKind.i64.wrap (x87 + 1)) u114.1 u114.2.1 u114.2.2.1 u114.2.2.2.1 u114.2.2.2.2) else (some (x88, x89, x90, x91, x92))
def impl_PutRunes.f (p0_0 : Int) (p0_1 : Int) (p0_2 : List (Int)) (p0_3 : Int) (p0_4 : Int) (p1 : List (Int)) : Option (Int × Int × (List (Int)) × Int × Int × Bool) := ((impl_GoodScreen.f p0_0 p0_1 p0_2 p0_3 p0_4).bind fun u23 => if (!u23) = true then (some true) else ((impl_areRunes.f p1 1000).bind fun u25 => some (!u25))).bind fun (o : Bool) => match o with | x22 => (if x22 = true then (some (0, 0, [], 0, 0, false)) else ((slices_Clone_int_int.f p0_2).bind fun u31 => (impl_PutRunes.l1 p1 ((((p1.length : Int)) - (0)).toNat + 2) 0 p0_0 p0_1 u31 p0_3 p0_4).bind fun (o : Int × Int × (List (Int)) × Int × Int) => match o with | (x74, x75, x76, x77, x78) => (some (x74, x75, x76, x77, x78, true))))
def impl_PutRunes.post (sb s : St) (F0 : Fp) (r : Int × Int × (List (Int)) × Int × Int × Bool) : Value → St → Prop := fun v s' => ∃ (A2 : Option Addr) (c2 : Nat), v = .tuple #[.agg #[.int .i64 r.1, .int .i64 r.2.1, .slice A2 r.2.2.1.length c2, .int .i64 r.2.2.2.1, .int .i64 r.2.2.2.2.1], .bool r.2.2.2.2.2] ∧ Hp sb s F0 s' [Ck.ol OI 3 A2 c2 r.2.2.1]
set_option maxRecDepth 100000 in
set_option maxHeartbeats 4000000 in
theorem impl_PutRunes.ok (sb s : St) (F0 : Fp) (p0_0 : Int) (p0_1 : Int) (A0_2p : Option Addr) (c0_2p : Nat) (p0_2 : List (Int)) (p0_3 : Int) (p0_4 : Int) (A1p : Option Addr) (c1p : Nat) (p1 : List (Int)) (HRp0_2 : Rd KI sb A0_2p c0_2p p0_2) (HRp1 : Rd KI sb A1p c1p p1) (hH : Hp sb s F0 s []) (r : Int × Int × (List (Int)) × Int × Int × Bool) (H : impl_PutRunes.f p0_0 p0_1 p0_2 p0_3 p0_4 p1 = some r) : GCall Try.prog 49 #[.agg #[.int .i64 p0_0, .int .i64 p0_1, .slice A0_2p p0_2.length c0_2p, .int .i64 p0_3, .int .i64 p0_4], .slice A1p p1.length c1p] s (impl_PutRunes.post sb s F0 r) := by
 refine GCall_ofr (impl_PutRunes.post sb s F0) [.cell 4 66, .tmp 5] (ud [.agg #[.int .i64 p0_0, .int .i64 p0_1, .slice A0_2p p0_2.length c0_2p, .int .i64 p0_3, .int .i64 p0_4], .slice A1p p1.length c1p] 29) Try.func49 rfl rfl rfl fun w Q hQr hQn hQp => ?_
 replace H := topE H
 unfold impl_PutRunes.f at H
 dsimp only [ud, un]
 refine sr fun K1 hK1 => hc (o_boxH hH rfl ?_)
 clear hH
 intro b2 s2 hH _
 refine hc (o_allocH hH tI66 ?_)
 clear hH
 intro b3 s3 hH _
 refine ag (HL_nil (hK1 _ _ ?_))
 dsimp only [putL, setL, evL, getL]
 refine HT_seq_k fun K17 hK17 => ?_
 refine joinH H fun G18 hG18 H => ?_
 refine HT_joinK (fun l' s' => ∃ (x22 : Bool), G18 x22 = some r ∧ skim [1, 0, 1, 10] l' = ([.slice A1p p1.length c1p, .pointer (some ⟨b2, 0, none⟩), .pointer (some ⟨b3, 0, none⟩), .bool x22], 16) ∧ Hp sb s F0 s' [Ck.ov b2 [.int .i64 p0_0, .int .i64 p0_1, .slice A0_2p p0_2.length c0_2p, .int .i64 p0_3, .int .i64 p0_4] 66, Ck.ov b3 [.int .i64 0, .int .i64 0, .slice none 0 0, .int .i64 0, .int .i64 0] 66]) ?_ ?_
 ·intro K18 hK18
  refine HT_region ?_
  refine hc (o_loads' [.int .i64 p0_0, .int .i64 p0_1, .slice A0_2p p0_2.length c0_2p, .int .i64 p0_3, .int .i64 p0_4] rfl Try.underlying66 rfl tI66 rfl (hH.partv 0 rfl (0) [.int .i64 p0_0, .int .i64 p0_1, .slice A0_2p p0_2.length c0_2p, .int .i64 p0_3, .int .i64 p0_4] rfl) ?_)
  replace H := headE H
  obtain ⟨u23, hu23, H⟩ := H
  refine hc (o_call (args := #[.agg #[.int .i64 p0_0, .int .i64 p0_1, .slice A0_2p p0_2.length c0_2p, .int .i64 p0_3, .int .i64 p0_4]]) Try.func52 rfl rfl rfl (impl_GoodScreen.ok sb s3 no p0_0 p0_1 A0_2p c0_2p p0_2 p0_3 p0_4 HRp0_2 (Hp.own hH.bs) _ hu23) ?_)
  rintro _ s23 ⟨rfl, hD⟩
  replace hH := hH.back0 hD (Up.refl _ _ _)
  clear hD
  refine hc (o_not rfl ?_)
  dsimp only [putL, setL, evL, getL]
  refine mv ?_
  revert H
  refine it (fun hb24 H => ?_) (fun hb24 H => ?_)
  ·refine wf rfl rfl rfl rfl hb24 (wf rfl rfl rfl rfl hb24 ?_)
   dsimp only [putL, setL, evL, getL]
   refine wf rfl rfl rfl rfl hb24 (hc (o_pickT rfl hb24 (HL_nil ?_)))
   exact hK18 _ _ ⟨true, H, rfl, hH⟩
  ·refine wt rfl rfl rfl rfl hb24 (o_move ?_)
   replace H := headE H
   obtain ⟨u25, hu25, H⟩ := H
   try dsimp only [putL, setL, evL, getL]
   refine wt rfl rfl rfl rfl hb24 (o_call (args := #[.slice A1p p1.length c1p, .int .i64 1000]) Try.func118 rfl rfl rfl (impl_areRunes.ok sb s23 no A1p c1p p1 1000 HRp1 (Hp.own hH.bs) _ hu25) ?_)
   rintro _ s25 ⟨rfl, hD⟩
   replace hH := hH.back0 hD (Up.refl _ _ _)
   clear hD
   refine wt rfl rfl rfl rfl hb24 (o_not rfl (hc (o_pickF rfl hb24 (HL_nil ?_))))
   exact hK18 _ _ ⟨!u25, H, rfl, hH⟩
 ·rintro l' s26 ⟨x22, H, hl, hH⟩
  revert l'
  refine skA ?_
  dsimp only [Al, Sk]
  intros
  replace H := hG18 _ H
  try dsimp only at H
  revert H
  refine ct rfl (fun hb27 H => ?_) (fun hb27 H => ?_)
  ·refine sr fun K28 hK28 => ?_
   try dsimp only [putL, setL, evL, getL]
   refine hc (o_build (pl := [(0, 1), (1, 1), (2, 1), (3, 1), (4, 1)]) (cs := #[.int .i64 0, .int .i64 0, .slice none 0 0, .int .i64 0, .int .i64 0]) Try.underlying66 tI66 (by kernel_rfl) (by kernel_rfl) rfl (hc (o_stvH (vs := [.int .i64 0, .int .i64 0, .slice none 0 0, .int .i64 0, .int .i64 0]) (us' := [.int .i64 0, .int .i64 0, .slice none 0 0, .int .i64 0, .int .i64 0]) hH 1 rfl rfl rfl rfl rfl tI66 rfl (List.cons_ne_nil _ _) rfl rfl rfl ?_)))
   clear hH
   intro s29 hH
   refine ag (HL_nil (hK28 _ _ ?_))
   dsimp only [putL, setL, evL, getL]
   refine HT_ret ?_
   exact hQr _ _ [.agg #[.int .i64 0, .int .i64 0, .slice none 0 0, .int .i64 0, .int .i64 0], .bool false] _ ⟨ResV.cells rfl Try.underlying66 rfl tI66 (hH.var 1 rfl) rfl, rfl, trivial⟩ H ⟨none, 0, rfl, (hH.nil (K := KI) OI 3).sel [2] (by decide)⟩
  ·refine HT_skip (hK17 _ _ (sr fun K30 hK30 => (hc (o_faddr' (ft := 24) (off := 2) rfl Try.underlying66 rfl tI24 (by decide) (hc (o_load' rfl Try.underlying24 rfl (hH.hasv 0 rfl rfl) ?_))))))
   replace H := headE H
   obtain ⟨u31, hu31, H⟩ := H
   refine hc (o_call (args := #[.slice A0_2p p0_2.length c0_2p]) Try.func141 rfl rfl rfl (slices_Clone_int_int.ok sb s26 no A0_2p c0_2p p0_2 HRp0_2 (Hp.own hH.bs) _ hu31) ?_)
   rintro _ s31 ⟨A32, c32, rfl, hD⟩
   replace hH := hH.back0 hD (Up.refl _ _ _)
   clear hD
   try dsimp only [putL, setL, evL, getL]
   refine hc (o_faddr' (ft := 24) (off := 2) rfl Try.underlying66 rfl tI24 (by decide) (hc (o_stvH (vs := [.slice A32 u31.length c32]) (us' := [.int .i64 p0_0, .int .i64 p0_1, .slice A32 u31.length c32, .int .i64 p0_3, .int .i64 p0_4]) hH 0 rfl rfl rfl rfl rfl tI24 rfl (List.cons_ne_nil _ _) rfl rfl rfl ?_)))
   clear hH
   intro s33 hH
   refine HL_nil (hK30 _ _ ?_)
   try dsimp only [putL, setL, evL, getL]
   refine HT_seq_k fun K34 hK34 => sr fun K35 hK35 => mv (hc (o_len rfl Try.underlying24 (mv (HL_nil (hK35 _ _ ?_)))))
   dsimp only [putL, setL, evL, getL]
   refine joinH H fun G36 hG36 H => ?_
   refine HT_toK (fun l' s' => ∃ (x74 : Int) (x75 : Int) (x76 : List (Int)) (A76 : Option Addr) (c76 : Nat) (x77 : Int) (x78 : Int), G36 (x74, x75, x76, x77, x78) = some r ∧ skim [2, 1] l' = ([.pointer (some ⟨b2, 0, none⟩), .pointer (some ⟨b3, 0, none⟩)], 27) ∧ Hp sb s F0 s' [Ck.ol OI 3 A76 c76 x76, Ck.ov b2 [.int .i64 x74, .int .i64 x75, .slice A76 x76.length c76, .int .i64 x77, .int .i64 x78] 66, Ck.ov b3 [.int .i64 0, .int .i64 0, .slice none 0 0, .int .i64 0, .int .i64 0] 66]) ?_ ?_
   ·intro K36 hK36
    refine HT_block ?_
    refine HT_loopK (fun kf l' s' => ∃ (x87 : Int) (x88 : Int) (x89 : Int) (x90 : List (Int)) (A90 : Option Addr) (c90 : Nat) (x91 : Int) (x92 : Int), (impl_PutRunes.l1 p1 kf x87 x88 x89 x90 x91 x92).bind G36 = some r ∧ skim [2, 1, 16, 0, 0] l' = ([.pointer (some ⟨b2, 0, none⟩), .pointer (some ⟨b3, 0, none⟩), .slice A1p p1.length c1p, .int .i64 (p1.length : Int), .int .i64 x87], 8) ∧ Hp sb s F0 s' [Ck.ol OI 3 A90 c90 x90, Ck.ov b2 [.int .i64 x88, .int .i64 x89, .slice A90 x90.length c90, .int .i64 x91, .int .i64 x92] 66, Ck.ov b3 [.int .i64 0, .int .i64 0, .slice none 0 0, .int .i64 0, .int .i64 0] 66]) ((((p1.length : Int)) - (0)).toNat + 2) ⟨0, p0_0, p0_1, u31, A32, c32, p0_3, p0_4, H, rfl, hH.sel [2, 0, 1] (by decide)⟩ ?_
    rintro kf l' s107 ⟨x87, x88, x89, x90, A90, c90, x91, x92, H, hl, hH⟩ K107 hK107
    revert l'
    refine skA ?_
    dsimp only [Al, Sk]
    intros
    cases kf with
    | zero => simp [impl_PutRunes.l1] at H
    | succ kf =>
     rw [impl_PutRunes.l1] at H
     refine sr fun K108 hK108 => bn rfl rfl rfl (HL_nil (hK108 _ _ ?_))
     dsimp only [putL, setL, evL, getL]
     refine HT_seq_k fun K109 hK109 => ?_
     revert H
     refine ct rfl (fun hb110 H => ?_) (fun hb110 H => ?_)
     ·refine HT_skip (hK109 _ _ (HT_seq_k fun K111 hK111 => (HT_block (sr fun K112 hK112 => ?_))))
      replace H := headE H
      obtain ⟨u113, hu113, H⟩ := H
      obtain ⟨b113, o113, cs113, hr113, hh113, hel113⟩ := Rd.elb HRp1 hu113
      obtain rfl := hr113
      refine hc (hel113 s107 rfl rfl Try.underlying24 tI3 (hc (o_load' rfl Try.underlying3 rfl ((hh113 hH.bs.mono) 0 _ rfl) (ag (HL_nil (hK112 _ _ ?_))))))
      dsimp only [putL, setL, evL, getL]
      refine HT_region ?_
      refine mv ?_
      replace H := headE H
      obtain ⟨u114, hu114, H⟩ := H
      obtain ⟨F1, hA, hB⟩ := hH.take [1, 0] (by decide)
      dsimp only [addC, setC, rmC, selC, getC] at hA
      refine hc (o_call (args := #[.pointer (some ⟨b2, 0, none⟩), .int .i64 u113]) Try.func142 rfl rfl rfl (impl_Screen_put.ok sb s107 F1 b2 x88 x89 A90 c90 x90 x91 x92 u113 hA _ hu114) ?_)
      rintro _ s114 ⟨A115, c115, rfl, hD⟩
      replace hH := hB _ _ _ (Up.refl _ _ _) hD
      clear hD hA hB
      refine HL_nil (hK111 _ _ ?_)
      try dsimp only [putL, setL, evL, getL]
      refine HT_region ?_
      refine bn rfl rfl rfl (mv (HL_nil ?_))
      exact hK107 _ _ ⟨kf, Nat.lt_succ_self kf, IntKind.i64.wrap (x87 + 1), u114.1, u114.2.1, u114.2.2.1, A115, c115, u114.2.2.2.1, u114.2.2.2.2, H, rfl, hH.sel [3, 4, 2] (by decide)⟩
     ·refine HT_exit ?_
      exact hK36 _ _ ⟨x88, x89, x90, A90, c90, x91, x92, H, rfl, hH⟩
   ·rintro l' s116 ⟨x74, x75, x76, A76, c76, x77, x78, H, hl, hH⟩
    revert l'
    refine skA ?_
    dsimp only [Al, Sk]
    intros
    replace H := hG36 _ H
    try dsimp only at H
    refine hK34 _ _ ?_
    refine sr fun K117 hK117 => hc (o_loads' [.int .i64 x74, .int .i64 x75, .slice A76 x76.length c76, .int .i64 x77, .int .i64 x78] rfl Try.underlying66 rfl tI66 rfl (hH.partv 1 rfl (0) [.int .i64 x74, .int .i64 x75, .slice A76 x76.length c76, .int .i64 x77, .int .i64 x78] rfl) ?_)
    dsimp only [putL, setL, evL, getL]
    refine hc (o_stvH (vs := [.int .i64 x74, .int .i64 x75, .slice A76 x76.length c76, .int .i64 x77, .int .i64 x78]) (us' := [.int .i64 x74, .int .i64 x75, .slice A76 x76.length c76, .int .i64 x77, .int .i64 x78]) hH 2 rfl rfl rfl rfl rfl tI66 rfl (List.cons_ne_nil _ _) rfl rfl rfl ?_)
    clear hH
    intro s118 hH
    refine ag (HL_nil (hK117 _ _ ?_))
    dsimp only [putL, setL, evL, getL]
    refine HT_ret ?_
    exact hQr _ _ [.agg #[.int .i64 x74, .int .i64 x75, .slice A76 x76.length c76, .int .i64 x77, .int .i64 x78], .bool true] _ ⟨ResV.cells rfl Try.underlying66 rfl tI66 (hH.var 2 rfl) rfl, rfl, trivial⟩ H ⟨A76, c76, rfl, hH.sel [0] (by decide)⟩
def laws_sameInts.l1 (p0 : List (Int)) (p1 : List (Int)) : Nat → Int → Option (Lo Unit Bool)
 | 0, _ => none
 | kf + 1, x52 => if (decide (x52 < (p0.length : Int))) = true then ((rd? p0 x52).bind fun u71 => (rd? p1 x52).bind fun u72 => if (u71 != u72) = true then ((some false).bind fun z => some (Lo.ret z)) else (laws_sameInts.l1 p0 p1 kf (IntKind.i64.wrap (x52 + 1)))) else (some (Lo.go ()))
def laws_sameInts.f (p0 : List (Int)) (p1 : List (Int)) : Option Bool := if ((p0.length : Int) != (p1.length : Int)) = true then (some false) else ((laws_sameInts.l1 p0 p1 ((((p0.length : Int)) - (0)).toNat + 2) 0).bind fun (o : Lo Unit Bool) => match o with | .go () => (some true) | .ret z => some z)
def laws_sameInts.post (sb s : St) (F0 : Fp) (r : Bool) : Value → St → Prop := fun v s' => v = .bool r ∧ Hp sb s F0 s' []
set_option maxRecDepth 100000 in
set_option maxHeartbeats 4000000 in
theorem laws_sameInts.ok (sb s : St) (F0 : Fp) (A0p : Option Addr) (c0p : Nat) (p0 : List (Int)) (A1p : Option Addr) (c1p : Nat) (p1 : List (Int)) (HRp0 : Rd KI sb A0p c0p p0) (HRp1 : Rd KI sb A1p c1p p1) (hH : Hp sb s F0 s []) (r : Bool) (H : laws_sameInts.f p0 p1 = some r) : GCall Try.prog 18 #[.slice A0p p0.length c0p, .slice A1p p1.length c1p] s (laws_sameInts.post sb s F0 r) := by
 refine GCall_ofr (laws_sameInts.post sb s F0) [.tmp 4] (ud [.slice A0p p0.length c0p, .slice A1p p1.length c1p] 24) Try.func18 rfl rfl rfl fun w Q hQr hQn hQp => ?_
 replace H := topE H
 unfold laws_sameInts.f at H
 dsimp only [ud, un]
 refine sr fun K1 hK1 => ag (HL_nil (hK1 _ _ ?_))
 dsimp only [putL, setL, evL, getL]
 refine HT_seq_k fun K2 hK2 => sr fun K3 hK3 => mv (hc (o_len rfl Try.underlying24 (mv ?_)))
 dsimp only [putL, setL, evL, getL]
 refine hc (o_len rfl Try.underlying24 (bn rfl rfl rfl (HL_nil (hK3 _ _ ?_))))
 dsimp only [putL, setL, evL, getL]
 revert H
 refine ct rfl (fun hb4 H => ?_) (fun hb4 H => ?_)
 ·refine sr fun K5 hK5 => ag (HL_nil (hK5 _ _ ?_))
  dsimp only [putL, setL, evL, getL]
  refine HT_ret ?_
  exact hQr _ _ [.bool false] _ ⟨rfl, trivial⟩ H ⟨rfl, hH⟩
 ·refine HT_skip (hK2 _ _ (HT_seq_k fun K6 hK6 => (sr fun K7 hK7 => (mv (hc (o_len rfl Try.underlying24 (mv (HL_nil (hK7 _ _ ?_)))))))))
  dsimp only [putL, setL, evL, getL]
  refine joinH H fun G8 hG8 H => ?_
  refine HT_toK (fun l' s' => G8 (.go ()) = some r ∧ skim [] l' = ([], 27) ∧ Hp sb s F0 s' []) ?_ ?_
  ·intro K8 hK8
   refine HT_block ?_
   refine HT_loopK (fun kf l' s' => ∃ (x52 : Int), (laws_sameInts.l1 p0 p1 kf x52).bind G8 = some r ∧ skim [0, 0, 10, 0] l' = ([.slice A0p p0.length c0p, .slice A1p p1.length c1p, .int .i64 (p0.length : Int), .int .i64 x52], 13) ∧ Hp sb s F0 s' []) ((((p0.length : Int)) - (0)).toNat + 2) ⟨0, H, rfl, hH⟩ ?_
   rintro kf l' s64 ⟨x52, H, hl, hH⟩ K64 hK64
   revert l'
   refine skA ?_
   dsimp only [Al, Sk]
   intros
   cases kf with
   | zero => simp [laws_sameInts.l1] at H
   | succ kf =>
    rw [laws_sameInts.l1] at H
    refine sr fun K65 hK65 => bn rfl rfl rfl (HL_nil (hK65 _ _ ?_))
    dsimp only [putL, setL, evL, getL]
    refine HT_seq_k fun K66 hK66 => ?_
    revert H
    refine ct rfl (fun hb67 H => ?_) (fun hb67 H => ?_)
    ·refine HT_skip (hK66 _ _ (HT_seq_k fun K68 hK68 => (HT_block (sr fun K69 hK69 => (mv (ag (HL_nil (hK69 _ _ ?_))))))))
     dsimp only [putL, setL, evL, getL]
     refine sx hMix fun K70 hK70 => ?_
     refine HX_lim (R := fun _ => True) (k := 0) (fun s' => Gro s64 s') 10 ?_
     have hR := Gro.refl s64
     have hH0 := hH
     refine HK_readP 0 (v := .slice A0p p0.length c0p) rfl (by kernel_rfl) hQp rfl (fun s' K hK => o_move hK) rfl rfl (fun _ => hR) ?_
     refine HK_readP 1 (v := .int .i64 x52) rfl (by kernel_rfl) hQp rfl (fun s' K hK => o_move hK) rfl rfl (fun _ => hR) ?_
     replace H := headE H
     obtain ⟨u71, hu71, H⟩ := H
     obtain ⟨b71, o71, cs71, hr71, hh71, hel71⟩ := Rd.elb HRp0 hu71
     obtain rfl := hr71
     try dsimp only [putL, setL, evL, getL]
     refine HK_readP 2 (v := .pointer (some ⟨b71, o71, none⟩)) rfl (by kernel_rfl) hQp rfl (fun s' K hK => hel71 s' rfl rfl Try.underlying24 tI3 hK) rfl rfl (fun _ => hR) ?_
     refine HK_read 3 (v := .int .i64 u71) rfl (by kernel_rfl) hQp rfl (fun s' hR' K hK => o_load' rfl Try.underlying3 rfl ((hh71 (hH0.bs.mono.trans hR'.mono)) 0 _ rfl) hK) rfl rfl hR ?_
     refine HK_readP 4 (v := .slice A1p p1.length c1p) rfl (by kernel_rfl) hQp rfl (fun s' K hK => o_move hK) rfl rfl (fun _ => hR) ?_
     try dsimp only [putL, setL, evL, getL]
     refine HK_readP 5 (v := .int .i64 x52) rfl (by kernel_rfl) hQp rfl (fun s' K hK => o_move hK) rfl rfl (fun _ => hR) ?_
     replace H := headE H
     obtain ⟨u72, hu72, H⟩ := H
     obtain ⟨b72, o72, cs72, hr72, hh72, hel72⟩ := Rd.elb HRp1 hu72
     obtain rfl := hr72
     refine HK_readP 6 (v := .pointer (some ⟨b72, o72, none⟩)) rfl (by kernel_rfl) hQp rfl (fun s' K hK => hel72 s' rfl rfl Try.underlying24 tI3 hK) rfl rfl (fun _ => hR) ?_
     refine HK_read 7 (v := .int .i64 u72) rfl (by kernel_rfl) hQp rfl (fun s' hR' K hK => o_load' rfl Try.underlying3 rfl ((hh72 (hH0.bs.mono.trans hR'.mono)) 0 _ rfl) hK) rfl rfl hR ?_
     try dsimp only [putL, setL, evL, getL]
     refine HK_readP 8 (v := .bool (u71 != u72)) rfl (by kernel_rfl) hQp rfl (fun s' K hK => o_bin rfl rfl rfl hK) rfl rfl (fun _ => hR) ?_
     refine HK_done (fun _ => hR) (by kernel_rfl) ?_
     refine hK70 _ _ ?_
     try dsimp only [putL, setL, evL, getL]
     revert H
     refine ct rfl (fun hb73 H => ?_) (fun hb73 H => ?_)
     ·refine sr fun K74 hK74 => ag (HL_nil (hK74 _ _ ?_))
      dsimp only [putL, setL, evL, getL]
      refine HT_ret ?_
      replace H := escH (fun z hz => hG8 _ hz) H
      exact hQr _ _ [.bool false] _ ⟨rfl, trivial⟩ H ⟨rfl, hH⟩
     ·refine HT_skip (hK68 _ _ ?_)
      refine HT_region ?_
      refine bn rfl rfl rfl (mv (HL_nil ?_))
      exact hK64 _ _ ⟨kf, Nat.lt_succ_self kf, IntKind.i64.wrap (x52 + 1), H, rfl, hH⟩
    ·refine HT_exit ?_
     exact hK8 _ _ ⟨H, rfl, hH⟩
  ·rintro l' s75 ⟨H, hl, hH⟩
   revert l'
   refine skA ?_
   dsimp only [Al, Sk]
   intros
   replace H := hG8 _ H
   try dsimp only at H
   refine hK6 _ _ ?_
   refine sr fun K76 hK76 => ag (HL_nil (hK76 _ _ ?_))
   dsimp only [putL, setL, evL, getL]
   refine HT_ret ?_
   exact hQr _ _ [.bool true] _ ⟨rfl, trivial⟩ H ⟨rfl, hH⟩
def laws_sameScreen.f (p0_0 : Int) (p0_1 : Int) (p0_2 : List (Int)) (p0_3 : Int) (p0_4 : Int) (p1_0 : Int) (p1_1 : Int) (p1_2 : List (Int)) (p1_3 : Int) (p1_4 : Int) : Option Bool := if (p0_0 == p1_0) = true then (if (p0_1 == p1_1) = true then ((laws_sameInts.f p0_2 p1_2).bind fun u7 => if u7 = true then (if (p0_3 == p1_3) = true then (some (p0_4 == p1_4)) else (some false)) else (some false)) else (some false)) else (some false)
def laws_sameScreen.post (sb s : St) (F0 : Fp) (r : Bool) : Value → St → Prop := fun v s' => v = .bool r ∧ Hp sb s F0 s' []
set_option maxRecDepth 100000 in
set_option maxHeartbeats 4000000 in
theorem laws_sameScreen.ok (sb s : St) (F0 : Fp) (p0_0 : Int) (p0_1 : Int) (A0_2p : Option Addr) (c0_2p : Nat) (p0_2 : List (Int)) (p0_3 : Int) (p0_4 : Int) (p1_0 : Int) (p1_1 : Int) (A1_2p : Option Addr) (c1_2p : Nat) (p1_2 : List (Int)) (p1_3 : Int) (p1_4 : Int) (HRp0_2 : Rd KI sb A0_2p c0_2p p0_2) (HRp1_2 : Rd KI sb A1_2p c1_2p p1_2) (hH : Hp sb s F0 s []) (r : Bool) (H : laws_sameScreen.f p0_0 p0_1 p0_2 p0_3 p0_4 p1_0 p1_1 p1_2 p1_3 p1_4 = some r) : GCall Try.prog 51 #[.agg #[.int .i64 p0_0, .int .i64 p0_1, .slice A0_2p p0_2.length c0_2p, .int .i64 p0_3, .int .i64 p0_4], .agg #[.int .i64 p1_0, .int .i64 p1_1, .slice A1_2p p1_2.length c1_2p, .int .i64 p1_3, .int .i64 p1_4]] s (laws_sameScreen.post sb s F0 r) := by
 refine GCall_ofr (laws_sameScreen.post sb s F0) [.tmp 4] (ud [.agg #[.int .i64 p0_0, .int .i64 p0_1, .slice A0_2p p0_2.length c0_2p, .int .i64 p0_3, .int .i64 p0_4], .agg #[.int .i64 p1_0, .int .i64 p1_1, .slice A1_2p p1_2.length c1_2p, .int .i64 p1_3, .int .i64 p1_4]] 36) Try.func51 rfl rfl rfl fun w Q hQr hQn hQp => ?_
 replace H := topE H
 unfold laws_sameScreen.f at H
 dsimp only [ud, un]
 refine sr fun K1 hK1 => hc (o_boxH hH rfl ?_)
 clear hH
 intro b2 s2 hH _
 refine hc (o_boxH hH rfl ?_)
 clear hH
 intro b3 s3 hH _
 refine ag (HL_nil (hK1 _ _ ?_))
 dsimp only [putL, setL, evL, getL]
 refine sr fun K4 hK4 => hc (o_faddr' (ft := 3) (off := 0) rfl Try.underlying66 rfl tI3 (by decide) (hc (o_load' rfl Try.underlying3 rfl (hH.hasv 0 rfl rfl) (hc (o_faddr' (ft := 3) (off := 0) rfl Try.underlying66 rfl tI3 (by decide) ?_)))))
 dsimp only [putL, setL, evL, getL]
 refine hc (o_load' rfl Try.underlying3 rfl (hH.hasv 1 rfl rfl) (bn rfl rfl rfl (mv ?_)))
 revert H
 refine it (fun hb5 H => ?_) (fun hb5 H => ?_)
 ·refine wt rfl rfl rfl rfl hb5 (o_faddr' (ft := 3) (off := 1) rfl Try.underlying66 rfl tI3 (by decide) ?_)
  dsimp only [putL, setL, evL, getL]
  refine wt rfl rfl rfl rfl hb5 (o_load' rfl Try.underlying3 rfl (hH.hasv 0 rfl rfl) (wt rfl rfl rfl rfl hb5 (o_faddr' (ft := 3) (off := 1) rfl Try.underlying66 rfl tI3 (by decide) (wt rfl rfl rfl rfl hb5 (o_load' rfl Try.underlying3 rfl (hH.hasv 1 rfl rfl) ?_)))))
  dsimp only [putL, setL, evL, getL]
  refine wt rfl rfl rfl rfl hb5 (o_bin rfl rfl rfl (hc (o_pickT rfl hb5 (mv ?_))))
  revert H
  refine it (fun hb6 H => ?_) (fun hb6 H => ?_)
  ·refine wt rfl rfl rfl rfl hb6 (o_faddr' (ft := 24) (off := 2) rfl Try.underlying66 rfl tI24 (by decide) ?_)
   dsimp only [putL, setL, evL, getL]
   refine wt rfl rfl rfl rfl hb6 (o_load' rfl Try.underlying24 rfl (hH.hasv 0 rfl rfl) (wt rfl rfl rfl rfl hb6 (o_faddr' (ft := 24) (off := 2) rfl Try.underlying66 rfl tI24 (by decide) (wt rfl rfl rfl rfl hb6 (o_load' rfl Try.underlying24 rfl (hH.hasv 1 rfl rfl) ?_)))))
   replace H := headE H
   obtain ⟨u7, hu7, H⟩ := H
   try dsimp only [putL, setL, evL, getL]
   refine wt rfl rfl rfl rfl hb6 (o_call (args := #[.slice A0_2p p0_2.length c0_2p, .slice A1_2p p1_2.length c1_2p]) Try.func18 rfl rfl rfl (laws_sameInts.ok sb s3 no A0_2p c0_2p p0_2 A1_2p c1_2p p1_2 HRp0_2 HRp1_2 (Hp.own hH.bs) _ hu7) ?_)
   rintro _ s7 ⟨rfl, hD⟩
   replace hH := hH.back0 hD (Up.refl _ _ _)
   clear hD
   refine hc (o_pickT rfl hb6 (mv ?_))
   revert H
   refine it (fun hb8 H => ?_) (fun hb8 H => ?_)
   ·refine wt rfl rfl rfl rfl hb8 (o_faddr' (ft := 3) (off := 3) rfl Try.underlying66 rfl tI3 (by decide) ?_)
    dsimp only [putL, setL, evL, getL]
    refine wt rfl rfl rfl rfl hb8 (o_load' rfl Try.underlying3 rfl (hH.hasv 0 rfl rfl) (wt rfl rfl rfl rfl hb8 (o_faddr' (ft := 3) (off := 3) rfl Try.underlying66 rfl tI3 (by decide) (wt rfl rfl rfl rfl hb8 (o_load' rfl Try.underlying3 rfl (hH.hasv 1 rfl rfl) ?_)))))
    dsimp only [putL, setL, evL, getL]
    refine wt rfl rfl rfl rfl hb8 (o_bin rfl rfl rfl (hc (o_pickT rfl hb8 (mv ?_))))
    revert H
    refine it (fun hb9 H => ?_) (fun hb9 H => ?_)
    ·refine wt rfl rfl rfl rfl hb9 (o_faddr' (ft := 3) (off := 4) rfl Try.underlying66 rfl tI3 (by decide) ?_)
     dsimp only [putL, setL, evL, getL]
     refine wt rfl rfl rfl rfl hb9 (o_load' rfl Try.underlying3 rfl (hH.hasv 0 rfl rfl) (wt rfl rfl rfl rfl hb9 (o_faddr' (ft := 3) (off := 4) rfl Try.underlying66 rfl tI3 (by decide) (wt rfl rfl rfl rfl hb9 (o_load' rfl Try.underlying3 rfl (hH.hasv 1 rfl rfl) ?_)))))
     dsimp only [putL, setL, evL, getL]
     refine wt rfl rfl rfl rfl hb9 (o_bin rfl rfl rfl (hc (o_pickT rfl hb9 (ag (HL_nil (hK4 _ _ ?_))))))
     dsimp only [putL, setL, evL, getL]
     refine HT_ret ?_
     exact hQr _ _ [.bool (p0_4 == p1_4)] _ ⟨rfl, trivial⟩ H ⟨rfl, hH.sel [] (by decide)⟩
    ·refine wf rfl rfl rfl rfl hb9 (wf rfl rfl rfl rfl hb9 (wf rfl rfl rfl rfl hb9 ?_))
     dsimp only [putL, setL, evL, getL]
     refine wf rfl rfl rfl rfl hb9 (wf rfl rfl rfl rfl hb9 (hc (o_pickF rfl hb9 ?_)))
     dsimp only [putL, setL, evL, getL]
     refine ag (HL_nil (hK4 _ _ ?_))
     dsimp only [putL, setL, evL, getL]
     refine HT_ret ?_
     exact hQr _ _ [.bool false] _ ⟨rfl, trivial⟩ H ⟨rfl, hH.sel [] (by decide)⟩
   ·refine wf rfl rfl rfl rfl hb8 (wf rfl rfl rfl rfl hb8 (wf rfl rfl rfl rfl hb8 ?_))
    dsimp only [putL, setL, evL, getL]
    refine wf rfl rfl rfl rfl hb8 (wf rfl rfl rfl rfl hb8 (hc (o_pickF rfl hb8 ?_)))
    dsimp only [putL, setL, evL, getL]
    refine mv (wf rfl rfl rfl rfl rfl (wf rfl rfl rfl rfl rfl ?_))
    dsimp only [putL, setL, evL, getL]
    refine wf rfl rfl rfl rfl rfl (wf rfl rfl rfl rfl rfl (wf rfl rfl rfl rfl rfl ?_))
    dsimp only [putL, setL, evL, getL]
    refine hc (o_pickF rfl rfl (ag (HL_nil (hK4 _ _ ?_))))
    dsimp only [putL, setL, evL, getL]
    refine HT_ret ?_
    exact hQr _ _ [.bool false] _ ⟨rfl, trivial⟩ H ⟨rfl, hH.sel [] (by decide)⟩
  ·refine wf rfl rfl rfl rfl hb6 (wf rfl rfl rfl rfl hb6 (wf rfl rfl rfl rfl hb6 ?_))
   dsimp only [putL, setL, evL, getL]
   refine wf rfl rfl rfl rfl hb6 (wf rfl rfl rfl rfl hb6 (hc (o_pickF rfl hb6 ?_)))
   dsimp only [putL, setL, evL, getL]
   refine mv (wf rfl rfl rfl rfl rfl (wf rfl rfl rfl rfl rfl ?_))
   dsimp only [putL, setL, evL, getL]
   refine wf rfl rfl rfl rfl rfl (wf rfl rfl rfl rfl rfl (wf rfl rfl rfl rfl rfl ?_))
   dsimp only [putL, setL, evL, getL]
   refine hc (o_pickF rfl rfl (mv (wf rfl rfl rfl rfl rfl ?_)))
   dsimp only [putL, setL, evL, getL]
   refine wf rfl rfl rfl rfl rfl (wf rfl rfl rfl rfl rfl (wf rfl rfl rfl rfl rfl ?_))
   dsimp only [putL, setL, evL, getL]
   refine wf rfl rfl rfl rfl rfl (hc (o_pickF rfl rfl (ag (HL_nil (hK4 _ _ ?_)))))
   dsimp only [putL, setL, evL, getL]
   refine HT_ret ?_
   exact hQr _ _ [.bool false] _ ⟨rfl, trivial⟩ H ⟨rfl, hH.sel [] (by decide)⟩
 ·refine wf rfl rfl rfl rfl hb5 (wf rfl rfl rfl rfl hb5 (wf rfl rfl rfl rfl hb5 ?_))
  dsimp only [putL, setL, evL, getL]
  refine wf rfl rfl rfl rfl hb5 (wf rfl rfl rfl rfl hb5 (hc (o_pickF rfl hb5 ?_)))
  dsimp only [putL, setL, evL, getL]
  refine mv (wf rfl rfl rfl rfl rfl (wf rfl rfl rfl rfl rfl ?_))
  dsimp only [putL, setL, evL, getL]
  refine wf rfl rfl rfl rfl rfl (wf rfl rfl rfl rfl rfl (wf rfl rfl rfl rfl rfl ?_))
  dsimp only [putL, setL, evL, getL]
  refine hc (o_pickF rfl rfl (mv (wf rfl rfl rfl rfl rfl ?_)))
  dsimp only [putL, setL, evL, getL]
  refine wf rfl rfl rfl rfl rfl (wf rfl rfl rfl rfl rfl (wf rfl rfl rfl rfl rfl ?_))
  dsimp only [putL, setL, evL, getL]
  refine wf rfl rfl rfl rfl rfl (hc (o_pickF rfl rfl (mv ?_)))
  dsimp only [putL, setL, evL, getL]
  refine wf rfl rfl rfl rfl rfl (wf rfl rfl rfl rfl rfl (wf rfl rfl rfl rfl rfl ?_))
  dsimp only [putL, setL, evL, getL]
  refine wf rfl rfl rfl rfl rfl (wf rfl rfl rfl rfl rfl (hc (o_pickF rfl rfl ?_)))
  dsimp only [putL, setL, evL, getL]
  refine ag (HL_nil (hK4 _ _ ?_))
  dsimp only [putL, setL, evL, getL]
  refine HT_ret ?_
  exact hQr _ _ [.bool false] _ ⟨rfl, trivial⟩ H ⟨rfl, hH.sel [] (by decide)⟩
def laws_numberOf.l1 (p0 : List (Int)) : Nat → Int → Int → Option Int
 | 0, _, _ => none
 | kf + 1, x40, x41 => if (decide (x41 < (p0.length : Int))) = true then ((rd? p0 x41).bind fun u57 => (rem? (IntKind.i64.wrap ((IntKind.i64.wrap (31 * x40)) + (IntKind.i64.wrap u57))) 1000003).bind fun u58 => laws_numberOf.l1 p0 kf u58 (IntKind.i64.wrap (x41 + 1))) else (some x40)
def laws_numberOf.f (p0 : List (Int)) : Option Int := (laws_numberOf.l1 p0 ((((p0.length : Int)) - (0)).toNat + 2) 0 0).bind fun (o : Int) => match o with | x32 => (some x32)
def laws_numberOf.post (sb s : St) (F0 : Fp) (r : Int) : Value → St → Prop := fun v s' => v = .int .i64 r ∧ Hp sb s F0 s' []
set_option maxRecDepth 100000 in
set_option maxHeartbeats 4000000 in
theorem laws_numberOf.ok (sb s : St) (F0 : Fp) (A0p : Option Addr) (c0p : Nat) (p0 : List (Int)) (HRp0 : Rd (Kd.int .u8) sb A0p c0p p0) (hH : Hp sb s F0 s []) (r : Int) (H : laws_numberOf.f p0 = some r) : GCall Try.prog 30 #[.slice A0p p0.length c0p] s (laws_numberOf.post sb s F0 r) := by
 refine GCall_ofr (laws_numberOf.post sb s F0) [.tmp 2] (ud [.slice A0p p0.length c0p] 19) Try.func30 rfl rfl rfl fun w Q hQr hQn hQp => ?_
 replace H := topE H
 unfold laws_numberOf.f at H
 dsimp only [ud, un]
 refine sr fun K1 hK1 => ag (HL_nil (hK1 _ _ ?_))
 dsimp only [putL, setL, evL, getL]
 refine sr fun K2 hK2 => ag (HL_nil (hK2 _ _ ?_))
 dsimp only [putL, setL, evL, getL]
 refine HT_seq_k fun K3 hK3 => sr fun K4 hK4 => mv (hc (o_len rfl Try.underlying22 (mv (HL_nil (hK4 _ _ ?_)))))
 dsimp only [putL, setL, evL, getL]
 refine joinH H fun G5 hG5 H => ?_
 refine HT_toK (fun l' s' => ∃ (x32 : Int), G5 x32 = some r ∧ skim [3] l' = ([.int .i64 x32], 17) ∧ Hp sb s F0 s' []) ?_ ?_
 ·intro K5 hK5
  refine HT_block ?_
  refine HT_loopK (fun kf l' s' => ∃ (x40 : Int) (x41 : Int), (laws_numberOf.l1 p0 kf x40 x41).bind G5 = some r ∧ skim [3, 2, 0, 0] l' = ([.int .i64 x40, .slice A0p p0.length c0p, .int .i64 (p0.length : Int), .int .i64 x41], 12) ∧ Hp sb s F0 s' []) ((((p0.length : Int)) - (0)).toNat + 2) ⟨0, 0, H, rfl, hH⟩ ?_
  rintro kf l' s51 ⟨x40, x41, H, hl, hH⟩ K51 hK51
  revert l'
  refine skA ?_
  dsimp only [Al, Sk]
  intros
  cases kf with
  | zero => simp [laws_numberOf.l1] at H
  | succ kf =>
   rw [laws_numberOf.l1] at H
   refine sr fun K52 hK52 => bn rfl rfl rfl (HL_nil (hK52 _ _ ?_))
   dsimp only [putL, setL, evL, getL]
   refine HT_seq_k fun K53 hK53 => ?_
   revert H
   refine ct rfl (fun hb54 H => ?_) (fun hb54 H => ?_)
   ·refine HT_skip (hK53 _ _ (HT_seq_k fun K55 hK55 => (HT_block (sr fun K56 hK56 => ?_))))
    replace H := headE H
    obtain ⟨u57, hu57, H⟩ := H
    obtain ⟨b57, o57, cs57, hr57, hh57, hel57⟩ := Rd.elb HRp0 hu57
    obtain rfl := hr57
    refine hc (hel57 s51 rfl rfl Try.underlying22 tI5 (hc (o_load' rfl Try.underlying5 rfl ((hh57 hH.bs.mono) 0 _ rfl) (ag (HL_nil (hK56 _ _ ?_))))))
    dsimp only [putL, setL, evL, getL]
    refine HT_region ?_
    refine mv (bn rfl rfl rfl (mv ?_))
    dsimp only [putL, setL, evL, getL]
    refine hc (o_conv rfl Try.underlying5 Try.underlying3 (bn rfl rfl rfl ?_))
    replace H := headE H
    obtain ⟨u58, hu58, H⟩ := H
    refine hc (o_rem' rfl rfl hu58 ?_)
    dsimp only [putL, setL, evL, getL]
    refine ag (HL_nil (hK55 _ _ ?_))
    dsimp only [putL, setL, evL, getL]
    refine HT_region ?_
    refine bn rfl rfl rfl (mv (HL_nil ?_))
    exact hK51 _ _ ⟨kf, Nat.lt_succ_self kf, u58, IntKind.i64.wrap (x41 + 1), H, rfl, hH⟩
   ·refine HT_exit ?_
    exact hK5 _ _ ⟨x40, H, rfl, hH⟩
 ·rintro l' s59 ⟨x32, H, hl, hH⟩
  revert l'
  refine skA ?_
  dsimp only [Al, Sk]
  intros
  replace H := hG5 _ H
  try dsimp only at H
  refine hK3 _ _ ?_
  refine sr fun K60 hK60 => mv ?_
  dsimp only [putL, setL, evL, getL]
  refine ag (HL_nil (hK60 _ _ ?_))
  dsimp only [putL, setL, evL, getL]
  refine HT_ret ?_
  exact hQr _ _ [.int .i64 x32] _ ⟨rfl, trivial⟩ H ⟨rfl, hH⟩
def impl_PutRune.f (p0_0 : Int) (p0_1 : Int) (p0_2 : List (Int)) (p0_3 : Int) (p0_4 : Int) (p1 : Int) : Option (Int × Int × (List (Int)) × Int × Int × Bool) := (impl_PutRunes.f p0_0 p0_1 p0_2 p0_3 p0_4 [p1]).bind fun u6 => some (u6.1, u6.2.1, u6.2.2.1, u6.2.2.2.1, u6.2.2.2.2.1, u6.2.2.2.2.2)
def impl_PutRune.post (sb s : St) (F0 : Fp) (r : Int × Int × (List (Int)) × Int × Int × Bool) : Value → St → Prop := fun v s' => ∃ (A2 : Option Addr) (c2 : Nat), v = .tuple #[.agg #[.int .i64 r.1, .int .i64 r.2.1, .slice A2 r.2.2.1.length c2, .int .i64 r.2.2.2.1, .int .i64 r.2.2.2.2.1], .bool r.2.2.2.2.2] ∧ Hp sb s F0 s' [Ck.ol OI 3 A2 c2 r.2.2.1]
set_option maxRecDepth 100000 in
set_option maxHeartbeats 4000000 in
theorem impl_PutRune.ok (sb s : St) (F0 : Fp) (p0_0 : Int) (p0_1 : Int) (A0_2p : Option Addr) (c0_2p : Nat) (p0_2 : List (Int)) (p0_3 : Int) (p0_4 : Int) (p1 : Int) (HRp0_2 : Rd KI sb A0_2p c0_2p p0_2) (hH : Hp sb s F0 s []) (r : Int × Int × (List (Int)) × Int × Int × Bool) (H : impl_PutRune.f p0_0 p0_1 p0_2 p0_3 p0_4 p1 = some r) : GCall Try.prog 54 #[.agg #[.int .i64 p0_0, .int .i64 p0_1, .slice A0_2p p0_2.length c0_2p, .int .i64 p0_3, .int .i64 p0_4], .int .i64 p1] s (impl_PutRune.post sb s F0 r) := by
 refine GCall_ofr (impl_PutRune.post sb s F0) [.cell 4 66, .tmp 5] (ud [.agg #[.int .i64 p0_0, .int .i64 p0_1, .slice A0_2p p0_2.length c0_2p, .int .i64 p0_3, .int .i64 p0_4], .int .i64 p1] 10) Try.func54 rfl rfl rfl fun w Q hQr hQn hQp => ?_
 replace H := topE H
 unfold impl_PutRune.f at H
 dsimp only [ud, un]
 refine sr fun K1 hK1 => hc (o_boxH hH rfl ?_)
 clear hH
 intro b2 s2 hH _
 refine hc (o_allocH hH tI66 ?_)
 clear hH
 intro b3 s3 hH _
 refine ag (HL_nil (hK1 _ _ ?_))
 dsimp only [putL, setL, evL, getL]
 refine sr fun K4 hK4 => hc (o_loads' [.int .i64 p0_0, .int .i64 p0_1, .slice A0_2p p0_2.length c0_2p, .int .i64 p0_3, .int .i64 p0_4] rfl Try.underlying66 rfl tI66 rfl (hH.partv 0 rfl (0) [.int .i64 p0_0, .int .i64 p0_1, .slice A0_2p p0_2.length c0_2p, .int .i64 p0_3, .int .i64 p0_4] rfl) (mv (hc (o_litF (K := KI) (O := OI) (ca := #[.int .i64 p1]) [[.int .i64 p1]] [p1] hH Try.underlying24 tI3 rfl (by decide) rfl rfl (by kernel_rfl) rfl ⟨rfl, Ent.own (Ent.flat rfl), trivial⟩ ?_))))
 clear hH
 intro A5 s5 hH _
 replace H := headE H
 obtain ⟨u6, hu6, H⟩ := H
 try dsimp only [putL, setL, evL, getL]
 refine hc (o_call (args := #[.agg #[.int .i64 p0_0, .int .i64 p0_1, .slice A0_2p p0_2.length c0_2p, .int .i64 p0_3, .int .i64 p0_4], .slice A5 [p1].length 1]) Try.func49 rfl rfl rfl (impl_PutRunes.ok s5 s5 no p0_0 p0_1 A0_2p c0_2p p0_2 p0_3 p0_4 A5 1 [p1] (HRp0_2.mono hH.bs.mono) (hH.rd 2 rfl) (Hp.own (Bs.refl s5)) _ hu6) ?_)
 rintro _ s6 ⟨A7, c7, rfl, hD⟩
 replace hH := hH.back0T hD
 clear hD
 refine hc (o_extract rfl rfl (hc (o_extract rfl rfl ?_)))
 dsimp only [putL, setL, evL, getL]
 refine hc (o_stvH (vs := [.int .i64 u6.1, .int .i64 u6.2.1, .slice A7 u6.2.2.1.length c7, .int .i64 u6.2.2.2.1, .int .i64 u6.2.2.2.2.1]) (us' := [.int .i64 u6.1, .int .i64 u6.2.1, .slice A7 u6.2.2.1.length c7, .int .i64 u6.2.2.2.1, .int .i64 u6.2.2.2.2.1]) hH 1 rfl rfl rfl rfl rfl tI66 rfl (List.cons_ne_nil _ _) rfl rfl rfl ?_)
 clear hH
 intro s8 hH
 refine ag (HL_nil (hK4 _ _ ?_))
 dsimp only [putL, setL, evL, getL]
 refine HT_ret ?_
 exact hQr _ _ [.agg #[.int .i64 u6.1, .int .i64 u6.2.1, .slice A7 u6.2.2.1.length c7, .int .i64 u6.2.2.2.1, .int .i64 u6.2.2.2.2.1], .bool u6.2.2.2.2.2] _ ⟨ResV.cells rfl Try.underlying66 rfl tI66 (hH.var 1 rfl) rfl, rfl, trivial⟩ H ⟨A7, c7, rfl, hH.sel [3] (by decide)⟩
def impl_NewScreen.f (p0 : Int) (p1 : Int) : Option (Int × Int × (List (Int)) × Int × Int × Bool) := ((impl_inRange.f p0 1 20).bind fun u22 => if (!u22) = true then (some true) else ((impl_inRange.f p1 1 8).bind fun u24 => some (!u24))).bind fun (o : Bool) => match o with | x21 => (if x21 = true then (some (0, 0, [], 0, 0, false)) else ((impl_newScreen.f p0 p1).bind fun u30 => some (u30.1, u30.2.1, u30.2.2.1, u30.2.2.2.1, u30.2.2.2.2, true)))
def impl_NewScreen.post (sb s : St) (F0 : Fp) (r : Int × Int × (List (Int)) × Int × Int × Bool) : Value → St → Prop := fun v s' => ∃ (A2 : Option Addr) (c2 : Nat), v = .tuple #[.agg #[.int .i64 r.1, .int .i64 r.2.1, .slice A2 r.2.2.1.length c2, .int .i64 r.2.2.2.1, .int .i64 r.2.2.2.2.1], .bool r.2.2.2.2.2] ∧ Hp sb s F0 s' [Ck.ol OI 3 A2 c2 r.2.2.1]
set_option maxRecDepth 100000 in
set_option maxHeartbeats 4000000 in
theorem impl_NewScreen.ok (sb s : St) (F0 : Fp) (p0 : Int) (p1 : Int) (hH : Hp sb s F0 s []) (r : Int × Int × (List (Int)) × Int × Int × Bool) (H : impl_NewScreen.f p0 p1 = some r) : GCall Try.prog 55 #[.int .i64 p0, .int .i64 p1] s (impl_NewScreen.post sb s F0 r) := by
 refine GCall_ofr (impl_NewScreen.post sb s F0) [.cell 4 66, .tmp 5] (ud [.int .i64 p0, .int .i64 p1] 16) Try.func55 rfl rfl rfl fun w Q hQr hQn hQp => ?_
 replace H := topE H
 unfold impl_NewScreen.f at H
 dsimp only [ud, un]
 refine sr fun K1 hK1 => hc (o_allocH hH tI66 ?_)
 clear hH
 intro b2 s2 hH _
 refine ag (HL_nil (hK1 _ _ ?_))
 dsimp only [putL, setL, evL, getL]
 refine HT_seq_k fun K16 hK16 => ?_
 refine joinH H fun G17 hG17 H => ?_
 refine HT_joinK (fun l' s' => ∃ (x21 : Bool), G17 x21 = some r ∧ skim [0, 0, 2, 8] l' = ([.int .i64 p0, .int .i64 p1, .pointer (some ⟨b2, 0, none⟩), .bool x21], 5) ∧ Hp sb s F0 s' [Ck.ov b2 [.int .i64 0, .int .i64 0, .slice none 0 0, .int .i64 0, .int .i64 0] 66]) ?_ ?_
 ·intro K17 hK17
  refine HT_region ?_
  refine mv ?_
  replace H := headE H
  obtain ⟨u22, hu22, H⟩ := H
  refine hc (o_call (args := #[.int .i64 p0, .int .i64 1, .int .i64 20]) Try.func105 rfl rfl rfl (impl_inRange.ok sb s2 no p0 1 20 (Hp.own hH.bs) _ hu22) ?_)
  rintro _ s22 ⟨rfl, hD⟩
  replace hH := hH.back0 hD (Up.refl _ _ _)
  clear hD
  refine hc (o_not rfl ?_)
  dsimp only [putL, setL, evL, getL]
  refine mv ?_
  revert H
  refine it (fun hb23 H => ?_) (fun hb23 H => ?_)
  ·refine wf rfl rfl rfl rfl hb23 (wf rfl rfl rfl rfl hb23 ?_)
   dsimp only [putL, setL, evL, getL]
   refine wf rfl rfl rfl rfl hb23 (hc (o_pickT rfl hb23 (HL_nil ?_)))
   exact hK17 _ _ ⟨true, H, rfl, hH⟩
  ·refine wt rfl rfl rfl rfl hb23 (o_move ?_)
   replace H := headE H
   obtain ⟨u24, hu24, H⟩ := H
   try dsimp only [putL, setL, evL, getL]
   refine wt rfl rfl rfl rfl hb23 (o_call (args := #[.int .i64 p1, .int .i64 1, .int .i64 8]) Try.func105 rfl rfl rfl (impl_inRange.ok sb s22 no p1 1 8 (Hp.own hH.bs) _ hu24) ?_)
   rintro _ s24 ⟨rfl, hD⟩
   replace hH := hH.back0 hD (Up.refl _ _ _)
   clear hD
   refine wt rfl rfl rfl rfl hb23 (o_not rfl (hc (o_pickF rfl hb23 (HL_nil ?_))))
   exact hK17 _ _ ⟨!u24, H, rfl, hH⟩
 ·rintro l' s25 ⟨x21, H, hl, hH⟩
  revert l'
  refine skA ?_
  dsimp only [Al, Sk]
  intros
  replace H := hG17 _ H
  try dsimp only at H
  revert H
  refine ct rfl (fun hb26 H => ?_) (fun hb26 H => ?_)
  ·refine sr fun K27 hK27 => ?_
   try dsimp only [putL, setL, evL, getL]
   refine hc (o_build (pl := [(0, 1), (1, 1), (2, 1), (3, 1), (4, 1)]) (cs := #[.int .i64 0, .int .i64 0, .slice none 0 0, .int .i64 0, .int .i64 0]) Try.underlying66 tI66 (by kernel_rfl) (by kernel_rfl) rfl (hc (o_stvH (vs := [.int .i64 0, .int .i64 0, .slice none 0 0, .int .i64 0, .int .i64 0]) (us' := [.int .i64 0, .int .i64 0, .slice none 0 0, .int .i64 0, .int .i64 0]) hH 0 rfl rfl rfl rfl rfl tI66 rfl (List.cons_ne_nil _ _) rfl rfl rfl ?_)))
   clear hH
   intro s28 hH
   refine ag (HL_nil (hK27 _ _ ?_))
   dsimp only [putL, setL, evL, getL]
   refine HT_ret ?_
   exact hQr _ _ [.agg #[.int .i64 0, .int .i64 0, .slice none 0 0, .int .i64 0, .int .i64 0], .bool false] _ ⟨ResV.cells rfl Try.underlying66 rfl tI66 (hH.var 0 rfl) rfl, rfl, trivial⟩ H ⟨none, 0, rfl, (hH.nil (K := KI) OI 3).sel [1] (by decide)⟩
  ·refine HT_skip (hK16 _ _ (sr fun K29 hK29 => (mv (mv ?_))))
   replace H := headE H
   obtain ⟨u30, hu30, H⟩ := H
   refine hc (o_call (args := #[.int .i64 p0, .int .i64 p1]) Try.func147 rfl rfl rfl (impl_newScreen.ok sb s25 no p0 p1 (Hp.own hH.bs) _ hu30) ?_)
   rintro _ s30 ⟨A31, c31, rfl, hD⟩
   replace hH := hH.back0 hD (Up.refl _ _ _)
   clear hD
   try dsimp only [putL, setL, evL, getL]
   refine hc (o_stvH (vs := [.int .i64 u30.1, .int .i64 u30.2.1, .slice A31 u30.2.2.1.length c31, .int .i64 u30.2.2.2.1, .int .i64 u30.2.2.2.2]) (us' := [.int .i64 u30.1, .int .i64 u30.2.1, .slice A31 u30.2.2.1.length c31, .int .i64 u30.2.2.2.1, .int .i64 u30.2.2.2.2]) hH 0 rfl rfl rfl rfl rfl tI66 rfl (List.cons_ne_nil _ _) rfl rfl rfl ?_)
   clear hH
   intro s32 hH
   refine ag (HL_nil (hK29 _ _ ?_))
   dsimp only [putL, setL, evL, getL]
   refine HT_ret ?_
   exact hQr _ _ [.agg #[.int .i64 u30.1, .int .i64 u30.2.1, .slice A31 u30.2.2.1.length c31, .int .i64 u30.2.2.2.1, .int .i64 u30.2.2.2.2], .bool true] _ ⟨ResV.cells rfl Try.underlying66 rfl tI66 (hH.var 0 rfl) rfl, rfl, trivial⟩ H ⟨A31, c31, rfl, hH.sel [1] (by decide)⟩
def spec_DrawPutRune.f (p0 : List (Int)) : Option (Int × Int × (List (Int)) × Int × Int × Int) := (spec_l1Cur_screen.f p0 0 0).bind fun u6 => (spec_l1Cur_shown.f p0 u6.2.2.2.2.2.1 u6.2.2.2.2.2.2 1).bind fun u12 => if (decide ((u12.1.length : Int) > 0)) = true then ((rd? u12.1 0).bind fun u17 => some (u6.1, u6.2.1, u6.2.2.1, u6.2.2.2.1, u6.2.2.2.2.1, u17)) else ((spec_l1Cur_among.f p0 u12.2.1 u12.2.2 [-1, 12, 55296, 31]).bind fun u23 => some (u6.1, u6.2.1, u6.2.2.1, u6.2.2.2.1, u6.2.2.2.2.1, u23.1))
def spec_DrawPutRune.post (sb s : St) (F0 : Fp) (r : Int × Int × (List (Int)) × Int × Int × Int) : Value → St → Prop := fun v s' => ∃ (A2 : Option Addr) (c2 : Nat), v = .tuple #[.agg #[.int .i64 r.1, .int .i64 r.2.1, .slice A2 r.2.2.1.length c2, .int .i64 r.2.2.2.1, .int .i64 r.2.2.2.2.1], .int .i64 r.2.2.2.2.2] ∧ Hp sb s F0 s' [Ck.ol OI 3 A2 c2 r.2.2.1]
set_option maxRecDepth 100000 in
set_option maxHeartbeats 4000000 in
theorem spec_DrawPutRune.ok (sb s : St) (F0 : Fp) (A0p : Option Addr) (c0p : Nat) (p0 : List (Int)) (HRp0 : Rd (Kd.int .u8) sb A0p c0p p0) (hH : Hp sb s F0 s []) (r : Int × Int × (List (Int)) × Int × Int × Int) (H : spec_DrawPutRune.f p0 = some r) : GCall Try.prog 56 #[.slice A0p p0.length c0p] s (spec_DrawPutRune.post sb s F0 r) := by
 refine GCall_ofr (spec_DrawPutRune.post sb s F0) [.cell 2 66, .tmp 3] (ud [.slice A0p p0.length c0p] 24) Try.func56 rfl rfl rfl fun w Q hQr hQn hQp => ?_
 replace H := topE H
 unfold spec_DrawPutRune.f at H
 dsimp only [ud, un]
 refine sr fun K1 hK1 => hc (o_allocH hH tI66 ?_)
 clear hH
 intro b2 s2 hH _
 refine ag (HL_nil (hK1 _ _ ?_))
 dsimp only [putL, setL, evL, getL]
 refine sr fun K3 hK3 => mv (hc (o_build (pl := [(0, 1), (1, 1), (2, 1)]) (cs := #[.slice A0p p0.length c0p, .int .i64 0, .int .u64 0]) Try.underlying113 tI113 (by kernel_rfl) (by kernel_rfl) rfl (hc (o_boxH hH rfl ?_))))
 clear hH
 intro b4 s4 hH _
 try dsimp only [putL, setL, evL, getL]
 refine ag (HL_nil (hK3 _ _ ?_))
 dsimp only [putL, setL, evL, getL]
 refine sr fun K5 hK5 => mv ?_
 replace H := headE H
 obtain ⟨u6, hu6, H⟩ := H
 obtain ⟨F1, hA, hB⟩ := hH.take [1] (by decide)
 dsimp only [addC, setC, rmC, selC, getC] at hA
 refine hc (o_call (args := #[.pointer (some ⟨b4, 0, none⟩)]) Try.func139 rfl rfl rfl (spec_l1Cur_screen.ok sb s4 F1 b4 A0p c0p p0 0 0 HRp0 hA _ hu6) ?_)
 rintro _ s6 ⟨A7, c7, rfl, hD⟩
 replace hH := hB _ _ _ (Up.refl _ _ _) hD
 clear hD hA hB
 refine hc (o_allocH hH tI66 ?_)
 clear hH
 intro b8 s8 hH _
 try dsimp only [putL, setL, evL, getL]
 refine hc (o_stvH (vs := [.int .i64 u6.1, .int .i64 u6.2.1, .slice A7 u6.2.2.1.length c7, .int .i64 u6.2.2.2.1, .int .i64 u6.2.2.2.2.1]) (us' := [.int .i64 u6.1, .int .i64 u6.2.1, .slice A7 u6.2.2.1.length c7, .int .i64 u6.2.2.2.1, .int .i64 u6.2.2.2.2.1]) hH 4 rfl rfl rfl rfl rfl tI66 rfl (List.cons_ne_nil _ _) rfl rfl rfl ?_)
 clear hH
 intro s9 hH
 refine HL_nil (hK5 _ _ ?_)
 try dsimp only [putL, setL, evL, getL]
 refine HT_seq_k fun K10 hK10 => sr fun K11 hK11 => mv ?_
 replace H := headE H
 obtain ⟨u12, hu12, H⟩ := H
 obtain ⟨F1, hA, hB⟩ := hH.take [3] (by decide)
 dsimp only [addC, setC, rmC, selC, getC] at hA
 refine hc (o_call (args := #[.pointer (some ⟨b4, 0, none⟩), .int .i64 1]) Try.func140 rfl rfl rfl (spec_l1Cur_shown.ok sb s9 F1 b4 A0p c0p p0 u6.2.2.2.2.2.1 u6.2.2.2.2.2.2 1 HRp0 hA _ hu12) ?_)
 rintro _ s12 ⟨A13, c13, rfl, hD⟩
 replace hH := hB _ _ _ (Up.refl _ _ _) hD
 clear hD hA hB
 refine ag (HL_nil (hK11 _ _ ?_))
 dsimp only [putL, setL, evL, getL]
 refine sr fun K14 hK14 => mv (hc (o_len rfl Try.underlying24 (bn rfl rfl rfl (HL_nil (hK14 _ _ ?_)))))
 dsimp only [putL, setL, evL, getL]
 revert H
 refine ct rfl (fun hb15 H => ?_) (fun hb15 H => ?_)
 ·refine sx hMix fun K16 hK16 => ?_
  refine HX_lim (R := fun _ => True) (k := 0) (fun s' => Gro s12 s') 4 ?_
  have hR := Gro.refl s12
  have hH0 := hH
  refine HK_read 0 (v := .agg #[.int .i64 u6.1, .int .i64 u6.2.1, .slice A7 u6.2.2.1.length c7, .int .i64 u6.2.2.2.1, .int .i64 u6.2.2.2.2.1]) rfl (by kernel_rfl) hQp rfl (fun s' hR' K hK => o_loads' [.int .i64 u6.1, .int .i64 u6.2.1, .slice A7 u6.2.2.1.length c7, .int .i64 u6.2.2.2.1, .int .i64 u6.2.2.2.2.1] rfl Try.underlying66 rfl tI66 rfl (fun j v hj => has_gro hR' ((hH0.partv 4 rfl (0) [.int .i64 u6.1, .int .i64 u6.2.1, .slice A7 u6.2.2.1.length c7, .int .i64 u6.2.2.2.1, .int .i64 u6.2.2.2.2.1] rfl) j v hj)) hK) rfl rfl hR ?_
  refine HK_readP 1 (v := .slice A13 u12.1.length c13) rfl (by kernel_rfl) hQp rfl (fun s' K hK => o_move hK) rfl rfl (fun _ => hR) ?_
  replace H := headE H
  obtain ⟨u17, hu17, H⟩ := H
  obtain ⟨b17, o17, cs17, hA17, hr17, hh17, hel17⟩ := hH0.elo 5 rfl hu17
  obtain rfl := hr17
  try dsimp only [putL, setL, evL, getL]
  refine HK_readP 2 (v := .pointer (some ⟨b17, o17 + Int.toNat 0 * Kd.sz KI, none⟩)) rfl (by kernel_rfl) hQp rfl (fun s' K hK => hel17 s' rfl rfl Try.underlying24 tI3 hK) rfl rfl (fun _ => hR) ?_
  refine HK_more [3, 4] (by kernel_rfl) rfl (fun _ => hR) ⟨⟨_, rfl, Or.inl ⟨rfl, ?_⟩⟩, ⟨_, rfl, Or.inl ⟨rfl, ?_⟩⟩, trivial⟩
  ·skip
   refine o_load' rfl Try.underlying3 rfl (hh17 0 _ rfl) ?_
   refine HK_more [4] (by kernel_rfl) rfl (fun _ => hR) ⟨⟨_, rfl, Or.inl ⟨rfl, ?_⟩⟩, trivial⟩
   skip
   refine o_stvH (vs := [.int .i64 u6.1, .int .i64 u6.2.1, .slice A7 u6.2.2.1.length c7, .int .i64 u6.2.2.2.1, .int .i64 u6.2.2.2.2.1]) (us' := [.int .i64 u6.1, .int .i64 u6.2.1, .slice A7 u6.2.2.1.length c7, .int .i64 u6.2.2.2.1, .int .i64 u6.2.2.2.2.1]) hH 0 rfl rfl rfl rfl rfl tI66 rfl (List.cons_ne_nil _ _) rfl rfl rfl ?_
   clear hH
   intro s18 hH
   try dsimp only [putL, setL, evL, getL]
   refine HK_free (by kernel_rfl) ?_
   refine HX_lim (R := fun _ => True) (k := 0) (fun s' => Gro s18 s') 7 ?_
   have hR := Gro.refl s18
   have hH0 := hH
   refine HK_more [5] (by kernel_rfl) rfl (fun _ => hR) ⟨⟨_, rfl, Or.inl ⟨rfl, ?_⟩⟩, trivial⟩
   skip
   refine o_assign ?_
   try dsimp only [putL, setL, evL, getL]
   refine HK_done (fun _ => hR) (by kernel_rfl) ?_
   refine hK16 _ _ ?_
   try dsimp only [putL, setL, evL, getL]
   refine HT_ret ?_
   exact hQr _ _ [.agg #[.int .i64 u6.1, .int .i64 u6.2.1, .slice A7 u6.2.2.1.length c7, .int .i64 u6.2.2.2.1, .int .i64 u6.2.2.2.2.1], .int .i64 u17] _ ⟨ResV.cells rfl Try.underlying66 rfl tI66 (hH.var 0 rfl) rfl, rfl, trivial⟩ H ⟨A7, c7, rfl, hH.sel [2] (by decide)⟩
  ·skip
   refine o_stvH (vs := [.int .i64 u6.1, .int .i64 u6.2.1, .slice A7 u6.2.2.1.length c7, .int .i64 u6.2.2.2.1, .int .i64 u6.2.2.2.2.1]) (us' := [.int .i64 u6.1, .int .i64 u6.2.1, .slice A7 u6.2.2.1.length c7, .int .i64 u6.2.2.2.1, .int .i64 u6.2.2.2.2.1]) hH 0 rfl rfl rfl rfl rfl tI66 rfl (List.cons_ne_nil _ _) rfl rfl rfl ?_
   clear hH
   intro s19 hH
   refine HK_free (by kernel_rfl) ?_
   refine HX_lim (R := fun _ => True) (k := 0) (fun s' => Gro s19 s') 7 ?_
   have hR := Gro.refl s19
   have hH0 := hH
   obtain ⟨bz, oz, cz, hAz, hrz, hh20, -⟩ := hH0.elo 5 rfl hu17
   obtain ⟨rfl, rfl⟩ := addrInj (hA17.symm.trans hAz)
   clear hAz
   obtain rfl := hrz
   refine HK_read 3 (v := .int .i64 u17) rfl (by kernel_rfl) hQp rfl (fun s' hR' K hK => o_load' rfl Try.underlying3 rfl (has_gro hR' (hh20 0 _ rfl)) hK) rfl rfl hR ?_
   try dsimp only [putL, setL, evL, getL]
   refine HK_more [5] (by kernel_rfl) rfl (fun _ => hR) ⟨⟨_, rfl, Or.inl ⟨rfl, ?_⟩⟩, trivial⟩
   skip
   refine o_assign ?_
   refine HK_done (fun _ => hR) (by kernel_rfl) ?_
   refine hK16 _ _ ?_
   try dsimp only [putL, setL, evL, getL]
   refine HT_ret ?_
   exact hQr _ _ [.agg #[.int .i64 u6.1, .int .i64 u6.2.1, .slice A7 u6.2.2.1.length c7, .int .i64 u6.2.2.2.1, .int .i64 u6.2.2.2.2.1], .int .i64 u17] _ ⟨ResV.cells rfl Try.underlying66 rfl tI66 (hH.var 0 rfl) rfl, rfl, trivial⟩ H ⟨A7, c7, rfl, hH.sel [2] (by decide)⟩
 ·refine HT_skip (hK10 _ _ ?_)
  refine sx hMix fun K21 hK21 => ?_
  refine HX_lim (R := fun _ => True) (k := 0) (fun s' => Gro s12 s') 3 ?_
  have hR := Gro.refl s12
  have hH0 := hH
  refine HK_readP 1 (v := .pointer (some ⟨b4, 0, none⟩)) rfl (by kernel_rfl) hQp rfl (fun s' K hK => o_move hK) rfl rfl (fun _ => hR) ?_
  refine HK_more [0, 2] (by kernel_rfl) rfl (fun _ => hR) ⟨⟨_, rfl, Or.inl ⟨rfl, ?_⟩⟩, ⟨_, rfl, Or.inl ⟨rfl, ?_⟩⟩, trivial⟩
  ·skip
   refine o_loads' [.int .i64 u6.1, .int .i64 u6.2.1, .slice A7 u6.2.2.1.length c7, .int .i64 u6.2.2.2.1, .int .i64 u6.2.2.2.2.1] rfl Try.underlying66 rfl tI66 rfl (hH.partv 4 rfl (0) [.int .i64 u6.1, .int .i64 u6.2.1, .slice A7 u6.2.2.1.length c7, .int .i64 u6.2.2.2.1, .int .i64 u6.2.2.2.2.1] rfl) ?_
   try dsimp only [putL, setL, evL, getL]
   refine HK_more [2] (by kernel_rfl) rfl (fun _ => hR) ⟨⟨_, rfl, Or.inl ⟨rfl, ?_⟩⟩, trivial⟩
   skip
   refine o_litF (K := KI) (O := OI) (ca := #[.int .i64 (-1), .int .i64 12, .int .i64 55296, .int .i64 31]) [[.int .i64 (-1)], [.int .i64 12], [.int .i64 55296], [.int .i64 31]] [-1, 12, 55296, 31] hH Try.underlying24 tI3 rfl (by decide) rfl rfl (by kernel_rfl) rfl ⟨rfl, Ent.own (Ent.flat rfl), rfl, Ent.own (Ent.flat rfl), rfl, Ent.own (Ent.flat rfl), rfl, Ent.own (Ent.flat rfl), trivial⟩ ?_
   clear hH
   intro A22 s22 hH hG
   replace hR := hR.trans hG
   refine HK_more [3] (by kernel_rfl) rfl (fun _ => hR) ⟨⟨_, rfl, Or.inl ⟨rfl, ?_⟩⟩, trivial⟩
   replace H := headE H
   obtain ⟨u23, hu23, H⟩ := H
   obtain ⟨F1, sx, hx, hC, hA, hB⟩ := hH.takeT [6] (by decide)
   dsimp only [addC, setC, rmC, selC, getC] at hA
   skip
   refine o_call (args := #[.pointer (some ⟨b4, 0, none⟩), .slice A22 [-1, 12, 55296, 31].length 4]) Try.func104 rfl rfl rfl (spec_l1Cur_among.ok sx s22 F1 b4 A0p c0p p0 u12.2.1 u12.2.2 A22 4 [-1, 12, 55296, 31] (HRp0.mono hx.mono) (Ck.rdT hx (hC 7 (by decide)) rfl) hA _ hu23) ?_
   rintro _ s23 ⟨rfl, hD⟩
   replace hH := hB _ _ _ inferInstance hD
   clear hD hA hB hx hC
   refine HK_free (by kernel_rfl) ?_
   try dsimp only [putL, setL, evL, getL]
   refine HX_lim (R := fun _ => True) (k := 0) (fun s' => Gro s23 s') 4 ?_
   have hR := Gro.refl s23
   have hH0 := hH
   refine HK_more [4] (by kernel_rfl) rfl (fun _ => hR) ⟨⟨_, rfl, Or.inl ⟨rfl, ?_⟩⟩, trivial⟩
   skip
   refine o_stvH (vs := [.int .i64 u6.1, .int .i64 u6.2.1, .slice A7 u6.2.2.1.length c7, .int .i64 u6.2.2.2.1, .int .i64 u6.2.2.2.2.1]) (us' := [.int .i64 u6.1, .int .i64 u6.2.1, .slice A7 u6.2.2.1.length c7, .int .i64 u6.2.2.2.1, .int .i64 u6.2.2.2.2.1]) hH 0 rfl rfl rfl rfl rfl tI66 rfl (List.cons_ne_nil _ _) rfl rfl rfl ?_
   clear hH
   intro s24 hH
   refine HK_free (by kernel_rfl) ?_
   try dsimp only [putL, setL, evL, getL]
   refine HX_lim (R := fun _ => True) (k := 0) (fun s' => Gro s24 s') 7 ?_
   have hR := Gro.refl s24
   have hH0 := hH
   refine HK_more [5] (by kernel_rfl) rfl (fun _ => hR) ⟨⟨_, rfl, Or.inl ⟨rfl, ?_⟩⟩, trivial⟩
   skip
   refine o_assign ?_
   refine HK_done (fun _ => hR) (by kernel_rfl) ?_
   refine hK21 _ _ ?_
   try dsimp only [putL, setL, evL, getL]
   refine HT_ret ?_
   exact hQr _ _ [.agg #[.int .i64 u6.1, .int .i64 u6.2.1, .slice A7 u6.2.2.1.length c7, .int .i64 u6.2.2.2.1, .int .i64 u6.2.2.2.2.1], .int .i64 u23.1] _ ⟨ResV.cells rfl Try.underlying66 rfl tI66 (hH.var 0 rfl) rfl, rfl, trivial⟩ H ⟨A7, c7, rfl, hH.sel [2] (by decide)⟩
  ·skip
   refine o_litF (K := KI) (O := OI) (ca := #[.int .i64 (-1), .int .i64 12, .int .i64 55296, .int .i64 31]) [[.int .i64 (-1)], [.int .i64 12], [.int .i64 55296], [.int .i64 31]] [-1, 12, 55296, 31] hH Try.underlying24 tI3 rfl (by decide) rfl rfl (by kernel_rfl) rfl ⟨rfl, Ent.own (Ent.flat rfl), rfl, Ent.own (Ent.flat rfl), rfl, Ent.own (Ent.flat rfl), rfl, Ent.own (Ent.flat rfl), trivial⟩ ?_
   clear hH
   intro A25 s25 hH hG
   replace hR := hR.trans hG
   refine HK_more [0, 3] (by kernel_rfl) rfl (fun _ => hR) ⟨⟨_, rfl, Or.inl ⟨rfl, ?_⟩⟩, ⟨_, rfl, Or.inl ⟨rfl, ?_⟩⟩, trivial⟩
   ·skip
    refine o_loads' [.int .i64 u6.1, .int .i64 u6.2.1, .slice A7 u6.2.2.1.length c7, .int .i64 u6.2.2.2.1, .int .i64 u6.2.2.2.2.1] rfl Try.underlying66 rfl tI66 rfl (hH.partv 4 rfl (0) [.int .i64 u6.1, .int .i64 u6.2.1, .slice A7 u6.2.2.1.length c7, .int .i64 u6.2.2.2.1, .int .i64 u6.2.2.2.2.1] rfl) ?_
    refine HK_more [3] (by kernel_rfl) rfl (fun _ => hR) ⟨⟨_, rfl, Or.inl ⟨rfl, ?_⟩⟩, trivial⟩
    replace H := headE H
    obtain ⟨u26, hu26, H⟩ := H
    obtain ⟨F1, sx, hx, hC, hA, hB⟩ := hH.takeT [6] (by decide)
    dsimp only [addC, setC, rmC, selC, getC] at hA
    skip
    refine o_call (args := #[.pointer (some ⟨b4, 0, none⟩), .slice A25 [-1, 12, 55296, 31].length 4]) Try.func104 rfl rfl rfl (spec_l1Cur_among.ok sx s25 F1 b4 A0p c0p p0 u12.2.1 u12.2.2 A25 4 [-1, 12, 55296, 31] (HRp0.mono hx.mono) (Ck.rdT hx (hC 7 (by decide)) rfl) hA _ hu26) ?_
    rintro _ s26 ⟨rfl, hD⟩
    replace hH := hB _ _ _ inferInstance hD
    clear hD hA hB hx hC
    refine HK_free (by kernel_rfl) ?_
    try dsimp only [putL, setL, evL, getL]
    refine HX_lim (R := fun _ => True) (k := 0) (fun s' => Gro s26 s') 4 ?_
    have hR := Gro.refl s26
    have hH0 := hH
    refine HK_more [4] (by kernel_rfl) rfl (fun _ => hR) ⟨⟨_, rfl, Or.inl ⟨rfl, ?_⟩⟩, trivial⟩
    skip
    refine o_stvH (vs := [.int .i64 u6.1, .int .i64 u6.2.1, .slice A7 u6.2.2.1.length c7, .int .i64 u6.2.2.2.1, .int .i64 u6.2.2.2.2.1]) (us' := [.int .i64 u6.1, .int .i64 u6.2.1, .slice A7 u6.2.2.1.length c7, .int .i64 u6.2.2.2.1, .int .i64 u6.2.2.2.2.1]) hH 0 rfl rfl rfl rfl rfl tI66 rfl (List.cons_ne_nil _ _) rfl rfl rfl ?_
    clear hH
    intro s27 hH
    refine HK_free (by kernel_rfl) ?_
    try dsimp only [putL, setL, evL, getL]
    refine HX_lim (R := fun _ => True) (k := 0) (fun s' => Gro s27 s') 7 ?_
    have hR := Gro.refl s27
    have hH0 := hH
    refine HK_more [5] (by kernel_rfl) rfl (fun _ => hR) ⟨⟨_, rfl, Or.inl ⟨rfl, ?_⟩⟩, trivial⟩
    skip
    refine o_assign ?_
    refine HK_done (fun _ => hR) (by kernel_rfl) ?_
    refine hK21 _ _ ?_
    try dsimp only [putL, setL, evL, getL]
    refine HT_ret ?_
    exact hQr _ _ [.agg #[.int .i64 u6.1, .int .i64 u6.2.1, .slice A7 u6.2.2.1.length c7, .int .i64 u6.2.2.2.1, .int .i64 u6.2.2.2.2.1], .int .i64 u26.1] _ ⟨ResV.cells rfl Try.underlying66 rfl tI66 (hH.var 0 rfl) rfl, rfl, trivial⟩ H ⟨A7, c7, rfl, hH.sel [2] (by decide)⟩
   ·replace H := headE H
    obtain ⟨u28, hu28, H⟩ := H
    obtain ⟨F1, sx, hx, hC, hA, hB⟩ := hH.takeT [6] (by decide)
    dsimp only [addC, setC, rmC, selC, getC] at hA
    skip
    refine o_call (args := #[.pointer (some ⟨b4, 0, none⟩), .slice A25 [-1, 12, 55296, 31].length 4]) Try.func104 rfl rfl rfl (spec_l1Cur_among.ok sx s25 F1 b4 A0p c0p p0 u12.2.1 u12.2.2 A25 4 [-1, 12, 55296, 31] (HRp0.mono hx.mono) (Ck.rdT hx (hC 7 (by decide)) rfl) hA _ hu28) ?_
    rintro _ s28 ⟨rfl, hD⟩
    replace hH := hB _ _ _ inferInstance hD
    clear hD hA hB hx hC
    refine HK_free (by kernel_rfl) ?_
    refine HX_lim (R := fun _ => True) (k := 0) (fun s' => Gro s28 s') 4 ?_
    have hR := Gro.refl s28
    have hH0 := hH
    refine HK_read 0 (v := .agg #[.int .i64 u6.1, .int .i64 u6.2.1, .slice A7 u6.2.2.1.length c7, .int .i64 u6.2.2.2.1, .int .i64 u6.2.2.2.2.1]) rfl (by kernel_rfl) hQp rfl (fun s' hR' K hK => o_loads' [.int .i64 u6.1, .int .i64 u6.2.1, .slice A7 u6.2.2.1.length c7, .int .i64 u6.2.2.2.1, .int .i64 u6.2.2.2.2.1] rfl Try.underlying66 rfl tI66 rfl (fun j v hj => has_gro hR' ((hH0.partv 4 rfl (0) [.int .i64 u6.1, .int .i64 u6.2.1, .slice A7 u6.2.2.1.length c7, .int .i64 u6.2.2.2.1, .int .i64 u6.2.2.2.2.1] rfl) j v hj)) hK) rfl rfl hR ?_
    try dsimp only [putL, setL, evL, getL]
    refine HK_more [4] (by kernel_rfl) rfl (fun _ => hR) ⟨⟨_, rfl, Or.inl ⟨rfl, ?_⟩⟩, trivial⟩
    skip
    refine o_stvH (vs := [.int .i64 u6.1, .int .i64 u6.2.1, .slice A7 u6.2.2.1.length c7, .int .i64 u6.2.2.2.1, .int .i64 u6.2.2.2.2.1]) (us' := [.int .i64 u6.1, .int .i64 u6.2.1, .slice A7 u6.2.2.1.length c7, .int .i64 u6.2.2.2.1, .int .i64 u6.2.2.2.2.1]) hH 0 rfl rfl rfl rfl rfl tI66 rfl (List.cons_ne_nil _ _) rfl rfl rfl ?_
    clear hH
    intro s29 hH
    refine HK_free (by kernel_rfl) ?_
    refine HX_lim (R := fun _ => True) (k := 0) (fun s' => Gro s29 s') 7 ?_
    have hR := Gro.refl s29
    have hH0 := hH
    try dsimp only [putL, setL, evL, getL]
    refine HK_more [5] (by kernel_rfl) rfl (fun _ => hR) ⟨⟨_, rfl, Or.inl ⟨rfl, ?_⟩⟩, trivial⟩
    skip
    refine o_assign ?_
    refine HK_done (fun _ => hR) (by kernel_rfl) ?_
    refine hK21 _ _ ?_
    try dsimp only [putL, setL, evL, getL]
    refine HT_ret ?_
    exact hQr _ _ [.agg #[.int .i64 u6.1, .int .i64 u6.2.1, .slice A7 u6.2.2.1.length c7, .int .i64 u6.2.2.2.1, .int .i64 u6.2.2.2.2.1], .int .i64 u28.1] _ ⟨ResV.cells rfl Try.underlying66 rfl tI66 (hH.var 0 rfl) rfl, rfl, trivial⟩ H ⟨A7, c7, rfl, hH.sel [2] (by decide)⟩
def spec_PutRune.f (p0_0 : Int) (p0_1 : Int) (p0_2 : List (Int)) (p0_3 : Int) (p0_4 : Int) (p1 : Int) : Option (Int × Int × (List (Int)) × Int × Int × Bool) := ((spec_GoodScreen.f p0_0 p0_1 p0_2 p0_3 p0_4).bind fun u23 => if (!u23) = true then (some true) else ((spec_GoodRune.f p1).bind fun u25 => some (!u25))).bind fun (o : Bool) => match o with | x22 => (if x22 = true then (some (0, 0, [], 0, 0, false)) else ((spec_l16Put.f p0_0 p0_1 p0_2 p0_3 p0_4 p1).bind fun u31 => (spec_l1Own.f u31.2.2.1).bind fun u37 => some (u31.1, u31.2.1, u37, u31.2.2.2.1, u31.2.2.2.2, true)))
def spec_PutRune.post (sb s : St) (F0 : Fp) (r : Int × Int × (List (Int)) × Int × Int × Bool) : Value → St → Prop := fun v s' => ∃ (A2 : Option Addr) (c2 : Nat), v = .tuple #[.agg #[.int .i64 r.1, .int .i64 r.2.1, .slice A2 r.2.2.1.length c2, .int .i64 r.2.2.2.1, .int .i64 r.2.2.2.2.1], .bool r.2.2.2.2.2] ∧ Hp sb s F0 s' [Ck.ol OI 3 A2 c2 r.2.2.1]
set_option maxRecDepth 100000 in
set_option maxHeartbeats 4000000 in
theorem spec_PutRune.ok (sb s : St) (F0 : Fp) (p0_0 : Int) (p0_1 : Int) (A0_2p : Option Addr) (c0_2p : Nat) (p0_2 : List (Int)) (p0_3 : Int) (p0_4 : Int) (p1 : Int) (HRp0_2 : Rd KI sb A0_2p c0_2p p0_2) (hH : Hp sb s F0 s []) (r : Int × Int × (List (Int)) × Int × Int × Bool) (H : spec_PutRune.f p0_0 p0_1 p0_2 p0_3 p0_4 p1 = some r) : GCall Try.prog 57 #[.agg #[.int .i64 p0_0, .int .i64 p0_1, .slice A0_2p p0_2.length c0_2p, .int .i64 p0_3, .int .i64 p0_4], .int .i64 p1] s (spec_PutRune.post sb s F0 r) := by
 refine GCall_ofr (spec_PutRune.post sb s F0) [.cell 4 66, .tmp 5] (ud [.agg #[.int .i64 p0_0, .int .i64 p0_1, .slice A0_2p p0_2.length c0_2p, .int .i64 p0_3, .int .i64 p0_4], .int .i64 p1] 22) Try.func57 rfl rfl rfl fun w Q hQr hQn hQp => ?_
 replace H := topE H
 unfold spec_PutRune.f at H
 dsimp only [ud, un]
 refine sr fun K1 hK1 => hc (o_boxH hH rfl ?_)
 clear hH
 intro b2 s2 hH _
 refine hc (o_allocH hH tI66 ?_)
 clear hH
 intro b3 s3 hH _
 refine ag (HL_nil (hK1 _ _ ?_))
 dsimp only [putL, setL, evL, getL]
 refine HT_seq_k fun K17 hK17 => ?_
 refine joinH H fun G18 hG18 H => ?_
 refine HT_joinK (fun l' s' => ∃ (x22 : Bool), G18 x22 = some r ∧ skim [1, 0, 1, 9] l' = ([.int .i64 p1, .pointer (some ⟨b2, 0, none⟩), .pointer (some ⟨b3, 0, none⟩), .bool x22], 10) ∧ Hp sb s F0 s' [Ck.ov b2 [.int .i64 p0_0, .int .i64 p0_1, .slice A0_2p p0_2.length c0_2p, .int .i64 p0_3, .int .i64 p0_4] 66, Ck.ov b3 [.int .i64 0, .int .i64 0, .slice none 0 0, .int .i64 0, .int .i64 0] 66]) ?_ ?_
 ·intro K18 hK18
  refine HT_region ?_
  refine hc (o_loads' [.int .i64 p0_0, .int .i64 p0_1, .slice A0_2p p0_2.length c0_2p, .int .i64 p0_3, .int .i64 p0_4] rfl Try.underlying66 rfl tI66 rfl (hH.partv 0 rfl (0) [.int .i64 p0_0, .int .i64 p0_1, .slice A0_2p p0_2.length c0_2p, .int .i64 p0_3, .int .i64 p0_4] rfl) ?_)
  replace H := headE H
  obtain ⟨u23, hu23, H⟩ := H
  refine hc (o_call (args := #[.agg #[.int .i64 p0_0, .int .i64 p0_1, .slice A0_2p p0_2.length c0_2p, .int .i64 p0_3, .int .i64 p0_4]]) Try.func53 rfl rfl rfl (spec_GoodScreen.ok sb s3 no p0_0 p0_1 A0_2p c0_2p p0_2 p0_3 p0_4 HRp0_2 (Hp.own hH.bs) _ hu23) ?_)
  rintro _ s23 ⟨rfl, hD⟩
  replace hH := hH.back0 hD (Up.refl _ _ _)
  clear hD
  refine hc (o_not rfl ?_)
  dsimp only [putL, setL, evL, getL]
  refine mv ?_
  revert H
  refine it (fun hb24 H => ?_) (fun hb24 H => ?_)
  ·refine wf rfl rfl rfl rfl hb24 (wf rfl rfl rfl rfl hb24 ?_)
   dsimp only [putL, setL, evL, getL]
   refine wf rfl rfl rfl rfl hb24 (hc (o_pickT rfl hb24 (HL_nil ?_)))
   exact hK18 _ _ ⟨true, H, rfl, hH⟩
  ·refine wt rfl rfl rfl rfl hb24 (o_move ?_)
   replace H := headE H
   obtain ⟨u25, hu25, H⟩ := H
   try dsimp only [putL, setL, evL, getL]
   refine wt rfl rfl rfl rfl hb24 (o_call (args := #[.int .i64 p1]) Try.func148 rfl rfl rfl (spec_GoodRune.ok sb s23 no p1 (Hp.own hH.bs) _ hu25) ?_)
   rintro _ s25 ⟨rfl, hD⟩
   replace hH := hH.back0 hD (Up.refl _ _ _)
   clear hD
   refine wt rfl rfl rfl rfl hb24 (o_not rfl (hc (o_pickF rfl hb24 (HL_nil ?_))))
   exact hK18 _ _ ⟨!u25, H, rfl, hH⟩
 ·rintro l' s26 ⟨x22, H, hl, hH⟩
  revert l'
  refine skA ?_
  dsimp only [Al, Sk]
  intros
  replace H := hG18 _ H
  try dsimp only at H
  revert H
  refine ct rfl (fun hb27 H => ?_) (fun hb27 H => ?_)
  ·refine sr fun K28 hK28 => ?_
   try dsimp only [putL, setL, evL, getL]
   refine hc (o_build (pl := [(0, 1), (1, 1), (2, 1), (3, 1), (4, 1)]) (cs := #[.int .i64 0, .int .i64 0, .slice none 0 0, .int .i64 0, .int .i64 0]) Try.underlying66 tI66 (by kernel_rfl) (by kernel_rfl) rfl (hc (o_stvH (vs := [.int .i64 0, .int .i64 0, .slice none 0 0, .int .i64 0, .int .i64 0]) (us' := [.int .i64 0, .int .i64 0, .slice none 0 0, .int .i64 0, .int .i64 0]) hH 1 rfl rfl rfl rfl rfl tI66 rfl (List.cons_ne_nil _ _) rfl rfl rfl ?_)))
   clear hH
   intro s29 hH
   refine ag (HL_nil (hK28 _ _ ?_))
   dsimp only [putL, setL, evL, getL]
   refine HT_ret ?_
   exact hQr _ _ [.agg #[.int .i64 0, .int .i64 0, .slice none 0 0, .int .i64 0, .int .i64 0], .bool false] _ ⟨ResV.cells rfl Try.underlying66 rfl tI66 (hH.var 1 rfl) rfl, rfl, trivial⟩ H ⟨none, 0, rfl, (hH.nil (K := KI) OI 3).sel [2] (by decide)⟩
  ·refine HT_skip (hK17 _ _ (sr fun K30 hK30 => (hc (o_loads' [.int .i64 p0_0, .int .i64 p0_1, .slice A0_2p p0_2.length c0_2p, .int .i64 p0_3, .int .i64 p0_4] rfl Try.underlying66 rfl tI66 rfl (hH.partv 0 rfl (0) [.int .i64 p0_0, .int .i64 p0_1, .slice A0_2p p0_2.length c0_2p, .int .i64 p0_3, .int .i64 p0_4] rfl) (mv ?_)))))
   replace H := headE H
   obtain ⟨u31, hu31, H⟩ := H
   refine hc (o_call (args := #[.agg #[.int .i64 p0_0, .int .i64 p0_1, .slice A0_2p p0_2.length c0_2p, .int .i64 p0_3, .int .i64 p0_4], .int .i64 p1]) Try.func143 rfl rfl rfl (spec_l16Put.ok sb s26 no p0_0 p0_1 A0_2p c0_2p p0_2 p0_3 p0_4 p1 HRp0_2 (Hp.own hH.bs) _ hu31) ?_)
   rintro _ s31 ⟨sb32, A33, c33, rfl, hU32, hD, D33⟩
   have hW := hH.upNo hU32
   replace hH := hH.back0 hD hU32
   replace hU32 := hW
   clear hD
   try dsimp only [putL, setL, evL, getL]
   refine hc (o_allocH hH tI66 ?_)
   clear hH
   intro b34 s34 hH _
   refine hc (o_stvH (vs := [.int .i64 u31.1, .int .i64 u31.2.1, .slice A33 u31.2.2.1.length c33, .int .i64 u31.2.2.2.1, .int .i64 u31.2.2.2.2]) (us' := [.int .i64 u31.1, .int .i64 u31.2.1, .slice A33 u31.2.2.1.length c33, .int .i64 u31.2.2.2.1, .int .i64 u31.2.2.2.2]) hH 2 rfl rfl rfl rfl rfl tI66 rfl (List.cons_ne_nil _ _) rfl rfl rfl ?_)
   clear hH
   intro s35 hH
   refine HL_nil (hK30 _ _ ?_)
   try dsimp only [putL, setL, evL, getL]
   refine sr fun K36 hK36 => hc (o_faddr' (ft := 24) (off := 2) rfl Try.underlying66 rfl tI24 (by decide) (hc (o_load' rfl Try.underlying24 rfl (hH.hasv 2 rfl rfl) ?_)))
   replace H := headE H
   obtain ⟨u37, hu37, H⟩ := H
   refine hc (o_call (args := #[.slice A33 u31.2.2.1.length c33]) Try.func144 rfl rfl rfl (spec_l1Own.ok sb32 s35 no A33 c33 u31.2.2.1 D33 (Hp.own hH.bs) _ hu37) ?_)
   rintro _ s37 ⟨A38, c38, rfl, hD⟩
   replace hH := hH.back0 hD (Up.refl _ _ _)
   clear hD
   try dsimp only [putL, setL, evL, getL]
   refine hc (o_faddr' (ft := 24) (off := 2) rfl Try.underlying66 rfl tI24 (by decide) (hc (o_stvH (vs := [.slice A38 u37.length c38]) (us' := [.int .i64 u31.1, .int .i64 u31.2.1, .slice A38 u37.length c38, .int .i64 u31.2.2.2.1, .int .i64 u31.2.2.2.2]) hH 2 rfl rfl rfl rfl rfl tI24 rfl (List.cons_ne_nil _ _) rfl rfl rfl ?_)))
   clear hH
   intro s39 hH
   refine HL_nil (hK36 _ _ ?_)
   try dsimp only [putL, setL, evL, getL]
   refine sr fun K40 hK40 => hc (o_loads' [.int .i64 u31.1, .int .i64 u31.2.1, .slice A38 u37.length c38, .int .i64 u31.2.2.2.1, .int .i64 u31.2.2.2.2] rfl Try.underlying66 rfl tI66 rfl (hH.partv 2 rfl (0) [.int .i64 u31.1, .int .i64 u31.2.1, .slice A38 u37.length c38, .int .i64 u31.2.2.2.1, .int .i64 u31.2.2.2.2] rfl) (hc (o_stvH (vs := [.int .i64 u31.1, .int .i64 u31.2.1, .slice A38 u37.length c38, .int .i64 u31.2.2.2.1, .int .i64 u31.2.2.2.2]) (us' := [.int .i64 u31.1, .int .i64 u31.2.1, .slice A38 u37.length c38, .int .i64 u31.2.2.2.1, .int .i64 u31.2.2.2.2]) hH 1 rfl rfl rfl rfl rfl tI66 rfl (List.cons_ne_nil _ _) rfl rfl rfl ?_)))
   clear hH
   intro s41 hH
   refine ag (HL_nil (hK40 _ _ ?_))
   dsimp only [putL, setL, evL, getL]
   refine HT_ret ?_
   dsimp only [addC, setC, rmC, selC, getC] at hH
   replace hH : Hp sb s F0 s41 [Ck.ov b2 [.int .i64 p0_0, .int .i64 p0_1, .slice A0_2p p0_2.length c0_2p, .int .i64 p0_3, .int .i64 p0_4] 66, Ck.ov b3 [.int .i64 u31.1, .int .i64 u31.2.1, .slice A38 u37.length c38, .int .i64 u31.2.2.2.1, .int .i64 u31.2.2.2.2] 66, Ck.ov b34 [.int .i64 u31.1, .int .i64 u31.2.1, .slice A38 u37.length c38, .int .i64 u31.2.2.2.1, .int .i64 u31.2.2.2.2] 66, Ck.ol OI 3 A38 c38 u37] := hH.down hU32.bs
   exact hQr _ _ [.agg #[.int .i64 u31.1, .int .i64 u31.2.1, .slice A38 u37.length c38, .int .i64 u31.2.2.2.1, .int .i64 u31.2.2.2.2], .bool true] _ ⟨ResV.cells rfl Try.underlying66 rfl tI66 (hH.var 1 rfl) rfl, rfl, trivial⟩ H ⟨A38, c38, rfl, hH.sel [3] (by decide)⟩
def spec_DrawNewScreen.f (p0 : List (Int)) : Option (Int × Int) := (spec_l1Cur_among.f p0 0 0 [1, 2, 5, 20, 21, 0]).bind fun u6 => (spec_l1Cur_among.f p0 u6.2.1 u6.2.2 [1, 2, 3, 8, 9, 0]).bind fun u8 => some (u6.1, u8.1)
def spec_DrawNewScreen.post (sb s : St) (F0 : Fp) (r : Int × Int) : Value → St → Prop := fun v s' => v = .tuple #[.int .i64 r.1, .int .i64 r.2] ∧ Hp sb s F0 s' []
set_option maxRecDepth 100000 in
set_option maxHeartbeats 4000000 in
theorem spec_DrawNewScreen.ok (sb s : St) (F0 : Fp) (A0p : Option Addr) (c0p : Nat) (p0 : List (Int)) (HRp0 : Rd (Kd.int .u8) sb A0p c0p p0) (hH : Hp sb s F0 s []) (r : Int × Int) (H : spec_DrawNewScreen.f p0 = some r) : GCall Try.prog 58 #[.slice A0p p0.length c0p] s (spec_DrawNewScreen.post sb s F0 r) := by
 refine GCall_ofr (spec_DrawNewScreen.post sb s F0) [.tmp 2, .tmp 3] (ud [.slice A0p p0.length c0p] 13) Try.func58 rfl rfl rfl fun w Q hQr hQn hQp => ?_
 replace H := topE H
 unfold spec_DrawNewScreen.f at H
 dsimp only [ud, un]
 refine sr fun K1 hK1 => ag (ag (HL_nil (hK1 _ _ ?_)))
 dsimp only [putL, setL, evL, getL]
 refine sr fun K2 hK2 => mv (hc (o_build (pl := [(0, 1), (1, 1), (2, 1)]) (cs := #[.slice A0p p0.length c0p, .int .i64 0, .int .u64 0]) Try.underlying113 tI113 (by kernel_rfl) (by kernel_rfl) rfl (hc (o_boxH hH rfl ?_))))
 clear hH
 intro b3 s3 hH _
 try dsimp only [putL, setL, evL, getL]
 refine ag (HL_nil (hK2 _ _ ?_))
 dsimp only [putL, setL, evL, getL]
 refine sr fun K4 hK4 => mv (hc (o_litF (K := KI) (O := OI) (ca := #[.int .i64 1, .int .i64 2, .int .i64 5, .int .i64 20, .int .i64 21, .int .i64 0]) [[.int .i64 1], [.int .i64 2], [.int .i64 5], [.int .i64 20], [.int .i64 21], [.int .i64 0]] [1, 2, 5, 20, 21, 0] hH Try.underlying24 tI3 rfl (by decide) rfl rfl (by kernel_rfl) rfl ⟨rfl, Ent.own (Ent.flat rfl), rfl, Ent.own (Ent.flat rfl), rfl, Ent.own (Ent.flat rfl), rfl, Ent.own (Ent.flat rfl), rfl, Ent.own (Ent.flat rfl), rfl, Ent.own (Ent.flat rfl), trivial⟩ ?_))
 clear hH
 intro A5 s5 hH _
 replace H := headE H
 obtain ⟨u6, hu6, H⟩ := H
 obtain ⟨F1, sx, hx, hC, hA, hB⟩ := hH.takeT [0] (by decide)
 dsimp only [addC, setC, rmC, selC, getC] at hA
 refine hc (o_call (args := #[.pointer (some ⟨b3, 0, none⟩), .slice A5 [1, 2, 5, 20, 21, 0].length 6]) Try.func104 rfl rfl rfl (spec_l1Cur_among.ok sx s5 F1 b3 A0p c0p p0 0 0 A5 6 [1, 2, 5, 20, 21, 0] (HRp0.mono hx.mono) (Ck.rdT hx (hC 1 (by decide)) rfl) hA _ hu6) ?_)
 rintro _ s6 ⟨rfl, hD⟩
 replace hH := hB _ _ _ inferInstance hD
 clear hD hA hB hx hC
 try dsimp only [putL, setL, evL, getL]
 refine mv (hc (o_litF (K := KI) (O := OI) (ca := #[.int .i64 1, .int .i64 2, .int .i64 3, .int .i64 8, .int .i64 9, .int .i64 0]) [[.int .i64 1], [.int .i64 2], [.int .i64 3], [.int .i64 8], [.int .i64 9], [.int .i64 0]] [1, 2, 3, 8, 9, 0] hH Try.underlying24 tI3 rfl (by decide) rfl rfl (by kernel_rfl) rfl ⟨rfl, Ent.own (Ent.flat rfl), rfl, Ent.own (Ent.flat rfl), rfl, Ent.own (Ent.flat rfl), rfl, Ent.own (Ent.flat rfl), rfl, Ent.own (Ent.flat rfl), rfl, Ent.own (Ent.flat rfl), trivial⟩ ?_))
 clear hH
 intro A7 s7 hH _
 replace H := headE H
 obtain ⟨u8, hu8, H⟩ := H
 obtain ⟨F1, sx, hx, hC, hA, hB⟩ := hH.takeT [2] (by decide)
 dsimp only [addC, setC, rmC, selC, getC] at hA
 refine hc (o_call (args := #[.pointer (some ⟨b3, 0, none⟩), .slice A7 [1, 2, 3, 8, 9, 0].length 6]) Try.func104 rfl rfl rfl (spec_l1Cur_among.ok sx s7 F1 b3 A0p c0p p0 u6.2.1 u6.2.2 A7 6 [1, 2, 3, 8, 9, 0] (HRp0.mono hx.mono) (Ck.rdT hx (hC 3 (by decide)) rfl) hA _ hu8) ?_)
 rintro _ s8 ⟨rfl, hD⟩
 replace hH := hB _ _ _ inferInstance hD
 clear hD hA hB hx hC
 try dsimp only [putL, setL, evL, getL]
 refine ag (ag (HL_nil (hK4 _ _ ?_)))
 dsimp only [putL, setL, evL, getL]
 refine HT_ret ?_
 exact hQr _ _ [.int .i64 u6.1, .int .i64 u8.1] _ ⟨rfl, rfl, trivial⟩ H ⟨rfl, hH.sel [] (by decide)⟩
end Go.Proofs.Ytkieinlcpkpcjaa
