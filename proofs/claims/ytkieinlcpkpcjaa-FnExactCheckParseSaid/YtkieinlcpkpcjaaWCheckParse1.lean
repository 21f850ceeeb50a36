/- The functions that the law reaches, as plain functions, each with its contract: printed by a program of the prover's. No conditions: lemmas. -/
import Derived.Test.YtkieinlcpkpcjaaWCheckParse0
set_option linter.unusedVariables false
set_option linter.unusedSimpArgs false
namespace Go.Proofs.Ytkieinlcpkpcjaa
open Go Go.Proofs.GL
attribute [local irreducible] HL HT HX HK
def impl_GoodRe_1.f (p0_0 : Int) (p0_1 : List (Int)) : Option Bool := (impl_GoodSet.f p0_1).bind fun u4 => if (!u4) = true then (some true) else ((slices_ContainsFunc_int_int_impl_GoodRe_1_1.f p0_1).bind fun u6 => if u6 = true then (some true) else (if (p0_0 != 2) = true then (some (decide ((p0_1.length : Int) > 0))) else (some false)))
def impl_GoodRe_1.post (sb s : St) (F0 : Fp) (r : Bool) : Value → St → Prop := fun v s' => v = .bool r ∧ Hp sb s F0 s' []
set_option maxRecDepth 100000 in
set_option maxHeartbeats 4000000 in
theorem impl_GoodRe_1.ok (sb s : St) (F0 : Fp) (p0_0 : Int) (A0_1p : Option Addr) (c0_1p : Nat) (p0_1 : List (Int)) (HRp0_1 : Rd KI sb A0_1p c0_1p p0_1) (hH : Hp sb s F0 s []) (r : Bool) (H : impl_GoodRe_1.f p0_0 p0_1 = some r) : GCall Try.prog 191 #[.agg #[.int .i64 p0_0, .slice A0_1p p0_1.length c0_1p]] s (impl_GoodRe_1.post sb s F0 r) := by
 refine GCall_ofr (impl_GoodRe_1.post sb s F0) [.tmp 2] (ud [.agg #[.int .i64 p0_0, .slice A0_1p p0_1.length c0_1p]] 22) Try.func191 rfl rfl rfl fun w Q hQr hQn hQp => ?_
 replace H := topE H
 unfold impl_GoodRe_1.f at H
 dsimp only [ud, un]
 refine sr fun K1 hK1 => hc (o_boxH hH rfl ?_)
 clear hH
 intro b2 s2 hH _
 refine ag (HL_nil (hK1 _ _ ?_))
 dsimp only [putL, setL, evL, getL]
 refine sr fun K3 hK3 => hc (o_faddr' (ft := 24) (off := 1) rfl Try.underlying139 rfl tI24 (by decide) (hc (o_load' rfl Try.underlying24 rfl (hH.hasv 0 rfl rfl) ?_)))
 replace H := headE H
 obtain ⟨u4, hu4, H⟩ := H
 refine hc (o_call (args := #[.slice A0_1p p0_1.length c0_1p]) Try.func192 rfl rfl rfl (impl_GoodSet.ok sb s2 no A0_1p c0_1p p0_1 HRp0_1 (Hp.own hH.bs) _ hu4) ?_)
 rintro _ s4 ⟨rfl, hD⟩
 replace hH := hH.back0 hD (Up.refl _ _ _)
 clear hD
 try dsimp only [putL, setL, evL, getL]
 refine hc (o_not rfl (mv ?_))
 revert H
 refine it (fun hb5 H => ?_) (fun hb5 H => ?_)
 ·refine wf rfl rfl rfl rfl hb5 ?_
  dsimp only [putL, setL, evL, getL]
  refine wf rfl rfl rfl rfl hb5 (wf rfl rfl rfl rfl hb5 (hc (o_pickT rfl hb5 ?_)))
  dsimp only [putL, setL, evL, getL]
  refine mv (wf rfl rfl rfl rfl rfl (wf rfl rfl rfl rfl rfl ?_))
  dsimp only [putL, setL, evL, getL]
  refine wf rfl rfl rfl rfl rfl (wf rfl rfl rfl rfl rfl (wu rfl rfl rfl rfl ?_))
  dsimp only [putL, setL, evL, getL]
  refine wu rfl rfl rfl rfl (wu rfl rfl rfl rfl (wu rfl rfl rfl rfl ?_))
  dsimp only [putL, setL, evL, getL]
  refine wf rfl rfl rfl rfl rfl (hc (o_pickT rfl rfl (ag (HL_nil (hK3 _ _ ?_)))))
  dsimp only [putL, setL, evL, getL]
  refine HT_ret ?_
  exact hQr _ _ [.bool true] _ ⟨rfl, trivial⟩ H ⟨rfl, hH.sel [] (by decide)⟩
 ·refine wt rfl rfl rfl rfl hb5 (o_faddr' (ft := 24) (off := 1) rfl Try.underlying139 rfl tI24 (by decide) (wt rfl rfl rfl rfl hb5 (o_load' rfl Try.underlying24 rfl (hH.hasv 0 rfl rfl) ?_)))
  replace H := headE H
  obtain ⟨u6, hu6, H⟩ := H
  refine wt rfl rfl rfl rfl hb5 (o_call (args := #[.slice A0_1p p0_1.length c0_1p, .func (.func 193) #[] #[]]) Try.func114 rfl rfl rfl (slices_ContainsFunc_int_int_impl_GoodRe_1_1.ok sb s4 no A0_1p c0_1p p0_1 HRp0_1 (Hp.own hH.bs) _ hu6) ?_)
  rintro _ s6 ⟨rfl, hD⟩
  replace hH := hH.back0 hD (Up.refl _ _ _)
  clear hD
  try dsimp only [putL, setL, evL, getL]
  refine hc (o_pickF rfl hb5 (mv ?_))
  revert H
  refine it (fun hb7 H => ?_) (fun hb7 H => ?_)
  ·refine wf rfl rfl rfl rfl hb7 ?_
   dsimp only [putL, setL, evL, getL]
   refine wf rfl rfl rfl rfl hb7 (wf rfl rfl rfl rfl hb7 (wf rfl rfl rfl rfl hb7 ?_))
   dsimp only [putL, setL, evL, getL]
   refine wu rfl rfl rfl rfl (wu rfl rfl rfl rfl (wu rfl rfl rfl rfl ?_))
   dsimp only [putL, setL, evL, getL]
   refine wu rfl rfl rfl rfl (wf rfl rfl rfl rfl hb7 (hc (o_pickT rfl hb7 ?_)))
   dsimp only [putL, setL, evL, getL]
   refine ag (HL_nil (hK3 _ _ ?_))
   dsimp only [putL, setL, evL, getL]
   refine HT_ret ?_
   exact hQr _ _ [.bool true] _ ⟨rfl, trivial⟩ H ⟨rfl, hH.sel [] (by decide)⟩
  ·refine wt rfl rfl rfl rfl hb7 (o_faddr' (ft := 3) (off := 0) rfl Try.underlying139 rfl tI3 (by decide) (wt rfl rfl rfl rfl hb7 (o_load' rfl Try.underlying3 rfl (hH.hasv 0 rfl rfl) (wt rfl rfl rfl rfl hb7 (o_bin rfl rfl rfl ?_)))))
   dsimp only [putL, setL, evL, getL]
   refine wt rfl rfl rfl rfl hb7 (o_move ?_)
   revert H
   refine it (fun hb8 H => ?_) (fun hb8 H => ?_)
   ·refine wt rfl rfl rfl rfl hb8 (o_faddr' (ft := 24) (off := 1) rfl Try.underlying139 rfl tI24 (by decide) (wt rfl rfl rfl rfl hb8 (o_load' rfl Try.underlying24 rfl (hH.hasv 0 rfl rfl) ?_)))
    dsimp only [putL, setL, evL, getL]
    refine wt rfl rfl rfl rfl hb8 (o_len rfl Try.underlying24 (wt rfl rfl rfl rfl hb8 (o_bin rfl rfl rfl (wt rfl rfl rfl rfl hb7 (o_pickT rfl hb8 ?_)))))
    dsimp only [putL, setL, evL, getL]
    refine hc (o_pickF rfl hb7 (ag (HL_nil (hK3 _ _ ?_))))
    dsimp only [putL, setL, evL, getL]
    refine HT_ret ?_
    exact hQr _ _ [.bool (decide ((p0_1.length : Int) > 0))] _ ⟨rfl, trivial⟩ H ⟨rfl, hH.sel [] (by decide)⟩
   ·refine wf rfl rfl rfl rfl hb8 (wf rfl rfl rfl rfl hb8 (wf rfl rfl rfl rfl hb8 ?_))
    dsimp only [putL, setL, evL, getL]
    refine wf rfl rfl rfl rfl hb8 (wt rfl rfl rfl rfl hb7 (o_pickF rfl hb8 (hc (o_pickF rfl hb7 ?_))))
    dsimp only [putL, setL, evL, getL]
    refine ag (HL_nil (hK3 _ _ ?_))
    dsimp only [putL, setL, evL, getL]
    refine HT_ret ?_
    exact hQr _ _ [.bool false] _ ⟨rfl, trivial⟩ H ⟨rfl, hH.sel [] (by decide)⟩
def slices_IndexFunc_impl_Re_impl_Re_impl_GoodRe_1.l1 (p0 : List ((Int) × (List (Int)))) : Nat → Int → Option (Lo Unit Int)
 | 0, _ => none
 | kf + 1, x52 => if (decide (x52 < (p0.length : Int))) = true then ((rd? p0 x52).bind fun u72 => (impl_GoodRe_1.f u72.1 u72.2).bind fun u74 => if u74 = true then ((some x52).bind fun z => some (Lo.ret z)) else (slices_IndexFunc_impl_Re_impl_Re_impl_GoodRe_1.l1 p0 kf (IntKind.i64.wrap (x52 + 1)))) else (some (Lo.go ()))
def slices_IndexFunc_impl_Re_impl_Re_impl_GoodRe_1.f (p0 : List ((Int) × (List (Int)))) : Option Int := (slices_IndexFunc_impl_Re_impl_Re_impl_GoodRe_1.l1 p0 ((((p0.length : Int)) - (0)).toNat + 2) 0).bind fun (o : Lo Unit Int) => match o with | .go () => (some (-1)) | .ret z => some z
def slices_IndexFunc_impl_Re_impl_Re_impl_GoodRe_1.post (sb s : St) (F0 : Fp) (r : Int) : Value → St → Prop := fun v s' => v = .int .i64 r ∧ Hp sb s F0 s' []
set_option maxRecDepth 100000 in
set_option maxHeartbeats 4000000 in
theorem slices_IndexFunc_impl_Re_impl_Re_impl_GoodRe_1.ok (sb s : St) (F0 : Fp) (A0p : Option Addr) (c0p : Nat) (p0 : List ((Int) × (List (Int)))) (HRp0 : Rd KS139 sb A0p c0p p0) (hH : Hp sb s F0 s []) (r : Int) (H : slices_IndexFunc_impl_Re_impl_Re_impl_GoodRe_1.f p0 = some r) : GCall Try.prog 221 #[.slice A0p p0.length c0p, .func (.func 191) #[] #[]] s (slices_IndexFunc_impl_Re_impl_Re_impl_GoodRe_1.post sb s F0 r) := by
 refine GCall_ofr (slices_IndexFunc_impl_Re_impl_Re_impl_GoodRe_1.post sb s F0) [.tmp 4] (ud [.slice A0p p0.length c0p, .func (.func 191) #[] #[]] 17) Try.func221 rfl rfl rfl fun w Q hQr hQn hQp => ?_
 replace H := topE H
 unfold slices_IndexFunc_impl_Re_impl_Re_impl_GoodRe_1.f at H
 dsimp only [ud, un]
 refine sr fun K1 hK1 => ag (HL_nil (hK1 _ _ ?_))
 dsimp only [putL, setL, evL, getL]
 refine HT_seq_k fun K2 hK2 => sr fun K3 hK3 => mv (hc (o_len rfl Try.underlying57 (mv (HL_nil (hK3 _ _ ?_)))))
 dsimp only [putL, setL, evL, getL]
 refine joinH H fun G4 hG4 H => ?_
 refine HT_toK (fun l' s' => G4 (.go ()) = some r ∧ skim [] l' = ([], 20) ∧ Hp sb s F0 s' []) ?_ ?_
 ·intro K4 hK4
  refine HT_block ?_
  refine HT_loopK (fun kf l' s' => ∃ (x52 : Int), (slices_IndexFunc_impl_Re_impl_Re_impl_GoodRe_1.l1 p0 kf x52).bind G4 = some r ∧ skim [0, 0, 5, 0] l' = ([.slice A0p p0.length c0p, .func (.func 191) #[] #[], .int .i64 (p0.length : Int), .int .i64 x52], 11) ∧ Hp sb s F0 s' []) ((((p0.length : Int)) - (0)).toNat + 2) ⟨0, H, rfl, hH⟩ ?_
  rintro kf l' s65 ⟨x52, H, hl, hH⟩ K65 hK65
  revert l'
  refine skA ?_
  dsimp only [Al, Sk]
  intros
  cases kf with
  | zero => simp [slices_IndexFunc_impl_Re_impl_Re_impl_GoodRe_1.l1] at H
  | succ kf =>
   rw [slices_IndexFunc_impl_Re_impl_Re_impl_GoodRe_1.l1] at H
   refine sr fun K66 hK66 => bn rfl rfl rfl (HL_nil (hK66 _ _ ?_))
   dsimp only [putL, setL, evL, getL]
   refine HT_seq_k fun K67 hK67 => ?_
   revert H
   refine ct rfl (fun hb68 H => ?_) (fun hb68 H => ?_)
   ·refine HT_skip (hK67 _ _ (HT_seq_k fun K69 hK69 => (HT_block (sr fun K70 hK70 => (mv (ag (HL_nil (hK70 _ _ ?_))))))))
    dsimp only [putL, setL, evL, getL]
    refine sr fun K71 hK71 => mv (mv (mv ?_))
    replace H := headE H
    obtain ⟨u72, hu72, H⟩ := H
    obtain ⟨b72, o72, cs72, hr72, hh72, hel72⟩ := Rd.elb HRp0 hu72
    obtain ⟨_, _, rfl, rfl, ⟨A73, c73, rfl, D73⟩⟩ := hr72
    try dsimp only [putL, setL, evL, getL]
    refine hc (hel72 s65 rfl rfl Try.underlying57 tI139 (hc (o_loads' [.int .i64 u72.1, .slice A73 u72.2.length c73] rfl Try.underlying139 rfl tI139 rfl (fun j v hj => (hh72 hH.bs.mono) j v hj) ?_)))
    replace H := headE H
    obtain ⟨u74, hu74, H⟩ := H
    refine hc (o_callv (first := #[]) (cap := #[]) (args := #[.agg #[.int .i64 u72.1, .slice A73 u72.2.length c73]]) rfl Try.func191 rfl rfl [.agg #[.int .i64 u72.1, .slice A73 u72.2.length c73]] rfl (by simp) (impl_GoodRe_1.ok sb s65 no u72.1 A73 c73 u72.2 D73 (Hp.own hH.bs) _ hu74) ?_)
    rintro _ s74 ⟨rfl, hD⟩
    replace hH := hH.back0 hD (Up.refl _ _ _)
    clear hD
    refine HL_nil (hK71 _ _ ?_)
    try dsimp only [putL, setL, evL, getL]
    revert H
    refine ct rfl (fun hb75 H => ?_) (fun hb75 H => ?_)
    ·refine sr fun K76 hK76 => mv (ag (HL_nil (hK76 _ _ ?_)))
     dsimp only [putL, setL, evL, getL]
     refine HT_ret ?_
     replace H := escH (fun z hz => hG4 _ hz) H
     exact hQr _ _ [.int .i64 x52] _ ⟨rfl, trivial⟩ H ⟨rfl, hH⟩
    ·refine HT_skip (hK69 _ _ ?_)
     refine HT_region ?_
     refine bn rfl rfl rfl (mv (HL_nil ?_))
     exact hK65 _ _ ⟨kf, Nat.lt_succ_self kf, IntKind.i64.wrap (x52 + 1), H, rfl, hH⟩
   ·refine HT_exit ?_
    exact hK4 _ _ ⟨H, rfl, hH⟩
 ·rintro l' s77 ⟨H, hl, hH⟩
  revert l'
  refine skA ?_
  dsimp only [Al, Sk]
  intros
  replace H := hG4 _ H
  try dsimp only at H
  refine hK2 _ _ ?_
  refine sr fun K78 hK78 => ag (HL_nil (hK78 _ _ ?_))
  dsimp only [putL, setL, evL, getL]
  refine HT_ret ?_
  exact hQr _ _ [.int .i64 (-1)] _ ⟨rfl, trivial⟩ H ⟨rfl, hH⟩
def slices_ContainsFunc_impl_Re_impl_Re_impl_GoodRe_1.f (p0 : List ((Int) × (List (Int)))) : Option Bool := (slices_IndexFunc_impl_Re_impl_Re_impl_GoodRe_1.f p0).bind fun u3 => some (decide (u3 ≥ 0))
def slices_ContainsFunc_impl_Re_impl_Re_impl_GoodRe_1.post (sb s : St) (F0 : Fp) (r : Bool) : Value → St → Prop := fun v s' => v = .bool r ∧ Hp sb s F0 s' []
set_option maxRecDepth 100000 in
set_option maxHeartbeats 4000000 in
theorem slices_ContainsFunc_impl_Re_impl_Re_impl_GoodRe_1.ok (sb s : St) (F0 : Fp) (A0p : Option Addr) (c0p : Nat) (p0 : List ((Int) × (List (Int)))) (HRp0 : Rd KS139 sb A0p c0p p0) (hH : Hp sb s F0 s []) (r : Bool) (H : slices_ContainsFunc_impl_Re_impl_Re_impl_GoodRe_1.f p0 = some r) : GCall Try.prog 190 #[.slice A0p p0.length c0p, .func (.func 191) #[] #[]] s (slices_ContainsFunc_impl_Re_impl_Re_impl_GoodRe_1.post sb s F0 r) := by
 refine GCall_ofr (slices_ContainsFunc_impl_Re_impl_Re_impl_GoodRe_1.post sb s F0) [.tmp 4] (ud [.slice A0p p0.length c0p, .func (.func 191) #[] #[]] 7) Try.func190 rfl rfl rfl fun w Q hQr hQn hQp => ?_
 replace H := topE H
 unfold slices_ContainsFunc_impl_Re_impl_Re_impl_GoodRe_1.f at H
 dsimp only [ud, un]
 refine sr fun K1 hK1 => ag (HL_nil (hK1 _ _ ?_))
 dsimp only [putL, setL, evL, getL]
 refine sr fun K2 hK2 => mv (mv ?_)
 replace H := headE H
 obtain ⟨u3, hu3, H⟩ := H
 refine hc (o_call (args := #[.slice A0p p0.length c0p, .func (.func 191) #[] #[]]) Try.func221 rfl rfl rfl (slices_IndexFunc_impl_Re_impl_Re_impl_GoodRe_1.ok sb s no A0p c0p p0 HRp0 (Hp.own hH.bs) _ hu3) ?_)
 rintro _ s3 ⟨rfl, hD⟩
 replace hH := hH.back0 hD (Up.refl _ _ _)
 clear hD
 try dsimp only [putL, setL, evL, getL]
 refine bn rfl rfl rfl (ag (HL_nil (hK2 _ _ ?_)))
 dsimp only [putL, setL, evL, getL]
 refine HT_ret ?_
 exact hQr _ _ [.bool (decide (u3 ≥ 0))] _ ⟨rfl, trivial⟩ H ⟨rfl, hH⟩
def impl_partsOf.f (p0 : Int) : Option Int := (if (p0 == 1) = true then (some (p0 == 1)) else (some (p0 == 2))).bind fun (o : Bool) => match o with | x40 => (if x40 = true then (some 0) else ((if (p0 == 6) = true then (some (p0 == 6)) else (some (p0 == 7))).bind fun (o : Bool) => match o with | x49 => (if x49 = true then (some 1) else ((if (p0 == 3) = true then (some (p0 == 3)) else (if (p0 == 4) = true then (some (p0 == 4)) else (some (p0 == 5)))).bind fun (o : Bool) => match o with | x60 => (if x60 = true then (some 2) else (some (-1)))))))
def impl_partsOf.post (sb s : St) (F0 : Fp) (r : Int) : Value → St → Prop := fun v s' => v = .int .i64 r ∧ Hp sb s F0 s' []
set_option maxRecDepth 100000 in
set_option maxHeartbeats 4000000 in
theorem impl_partsOf.ok (sb s : St) (F0 : Fp) (p0 : Int) (hH : Hp sb s F0 s []) (r : Int) (H : impl_partsOf.f p0 = some r) : GCall Try.prog 203 #[.int .i64 p0] s (impl_partsOf.post sb s F0 r) := by
 refine GCall_ofr (impl_partsOf.post sb s F0) [.tmp 2] (ud [.int .i64 p0] 13) Try.func203 rfl rfl rfl fun w Q hQr hQn hQp => ?_
 replace H := topE H
 unfold impl_partsOf.f at H
 dsimp only [ud, un]
 refine sr fun K1 hK1 => ag (HL_nil (hK1 _ _ ?_))
 dsimp only [putL, setL, evL, getL]
 refine HT_seq_k fun K35 hK35 => sr fun K36 hK36 => mv (HL_nil (hK36 _ _ ?_))
 dsimp only [putL, setL, evL, getL]
 refine HT_block ?_
 refine joinH H fun G37 hG37 H => ?_
 refine HT_joinK (fun l' s' => ∃ (x40 : Bool), G37 x40 = some r ∧ skim [3, 0] l' = ([.int .i64 p0, .bool x40], 10) ∧ Hp sb s F0 s' []) ?_ ?_
 ·intro K37 hK37
  refine sr fun K41 hK41 => bn rfl rfl rfl (ag (HL_nil (hK41 _ _ ?_)))
  dsimp only [putL, setL, evL, getL]
  revert H
  refine ct rfl (fun hb42 H => ?_) (fun hb42 H => ?_)
  ·refine HT_skip ?_
   exact hK37 _ _ ⟨p0 == 1, H, rfl, hH⟩
  ·refine HT_region ?_
   refine bn rfl rfl rfl (ag (HL_nil ?_))
   exact hK37 _ _ ⟨p0 == 2, H, rfl, hH⟩
 ·rintro l' s43 ⟨x40, H, hl, hH⟩
  revert l'
  refine skA ?_
  dsimp only [Al, Sk]
  intros
  replace H := hG37 _ H
  try dsimp only at H
  revert H
  refine ct rfl (fun hb44 H => ?_) (fun hb44 H => ?_)
  ·refine sr fun K45 hK45 => ag (HL_nil (hK45 _ _ ?_))
   dsimp only [putL, setL, evL, getL]
   refine HT_ret ?_
   exact hQr _ _ [.int .i64 0] _ ⟨rfl, trivial⟩ H ⟨rfl, hH⟩
  ·refine joinH H fun G46 hG46 H => ?_
   refine HT_joinK (fun l' s' => ∃ (x49 : Bool), G46 x49 = some r ∧ skim [3, 3] l' = ([.int .i64 p0, .bool x49], 7) ∧ Hp sb s F0 s' []) ?_ ?_
   ·intro K46 hK46
    refine sr fun K50 hK50 => bn rfl rfl rfl (ag (HL_nil (hK50 _ _ ?_)))
    dsimp only [putL, setL, evL, getL]
    revert H
    refine ct rfl (fun hb51 H => ?_) (fun hb51 H => ?_)
    ·refine HT_skip ?_
     exact hK46 _ _ ⟨p0 == 6, H, rfl, hH⟩
    ·refine HT_region ?_
     refine bn rfl rfl rfl (ag (HL_nil ?_))
     exact hK46 _ _ ⟨p0 == 7, H, rfl, hH⟩
   ·rintro l' s52 ⟨x49, H, hl, hH⟩
    revert l'
    refine skA ?_
    dsimp only [Al, Sk]
    intros
    replace H := hG46 _ H
    try dsimp only at H
    revert H
    refine ct rfl (fun hb53 H => ?_) (fun hb53 H => ?_)
    ·refine sr fun K54 hK54 => ag (HL_nil (hK54 _ _ ?_))
     dsimp only [putL, setL, evL, getL]
     refine HT_ret ?_
     exact hQr _ _ [.int .i64 1] _ ⟨rfl, trivial⟩ H ⟨rfl, hH⟩
    ·refine joinH H fun G55 hG55 H => ?_
     refine HT_joinK (fun l' s' => ∃ (x60 : Bool), G55 x60 = some r ∧ skim [10] l' = ([.bool x60], 4) ∧ Hp sb s F0 s' []) ?_ ?_
     ·intro K55 hK55
      refine sr fun K61 hK61 => bn rfl rfl rfl (ag (HL_nil (hK61 _ _ ?_)))
      dsimp only [putL, setL, evL, getL]
      revert H
      refine ct rfl (fun hb62 H => ?_) (fun hb62 H => ?_)
      ·refine HT_skip ?_
       exact hK55 _ _ ⟨p0 == 3, H, rfl, hH⟩
      ·refine sr fun K63 hK63 => bn rfl rfl rfl (ag (HL_nil (hK63 _ _ ?_)))
       dsimp only [putL, setL, evL, getL]
       revert H
       refine ct rfl (fun hb64 H => ?_) (fun hb64 H => ?_)
       ·refine HT_skip ?_
        exact hK55 _ _ ⟨p0 == 4, H, rfl, hH⟩
       ·refine HT_region ?_
        refine bn rfl rfl rfl (ag (HL_nil ?_))
        exact hK55 _ _ ⟨p0 == 5, H, rfl, hH⟩
     ·rintro l' s65 ⟨x60, H, hl, hH⟩
      revert l'
      refine skA ?_
      dsimp only [Al, Sk]
      intros
      replace H := hG55 _ H
      try dsimp only at H
      revert H
      refine ct rfl (fun hb66 H => ?_) (fun hb66 H => ?_)
      ·refine sr fun K67 hK67 => ag (HL_nil (hK67 _ _ ?_))
       dsimp only [putL, setL, evL, getL]
       refine HT_ret ?_
       exact hQr _ _ [.int .i64 2] _ ⟨rfl, trivial⟩ H ⟨rfl, hH⟩
      ·refine HT_skip (hK35 _ _ (sr fun K68 hK68 => (ag (HL_nil (hK68 _ _ ?_)))))
       dsimp only [putL, setL, evL, getL]
       refine HT_ret ?_
       exact hQr _ _ [.int .i64 (-1)] _ ⟨rfl, trivial⟩ H ⟨rfl, hH⟩
def slices_Clone_int_int.f (p0 : List (Int)) : Option (List (Int)) := app? 17592186044416 [] p0
def slices_Clone_int_int.post (sb s : St) (F0 : Fp) (r : List (Int)) : Value → St → Prop := fun v s' => ∃ (A0 : Option Addr) (c0 : Nat), v = .slice A0 r.length c0 ∧ Hp sb s F0 s' [Ck.ol OI 3 A0 c0 r]
set_option maxRecDepth 100000 in
set_option maxHeartbeats 4000000 in
theorem slices_Clone_int_int.ok (sb s : St) (F0 : Fp) (A0p : Option Addr) (c0p : Nat) (p0 : List (Int)) (HRp0 : Rd KI sb A0p c0p p0) (hH : Hp sb s F0 s []) (r : List (Int)) (H : slices_Clone_int_int.f p0 = some r) : GCall Try.prog 141 #[.slice A0p p0.length c0p] s (slices_Clone_int_int.post sb s F0 r) := by
 refine GCall_ofk [.tmp 2] [.slice A0p p0.length c0p, undef, undef, undef, undef, undef, undef, undef] Try.func141 rfl rfl rfl ?_
 intro w Q hQr hQn hQp
 unfold slices_Clone_int_int.f at H
 refine HT_seq_k ?_
 intro K1 hK1
 refine HT_region ?_
 refine HL_cons rfl ?_
 refine o_assign ?_
 refine HL_nil ?_
 refine hK1 _ _ ?_
 refine HT_seq_k ?_
 intro K2 hK2
 refine HT_seq_k ?_
 intro K3 hK3
 refine HT_region ?_
 refine HL_cons rfl ?_
 refine o_move ?_
 dsimp only [putL, setL, evL, getL]
 refine HL_cons rfl ?_
 refine o_eqN rfl rfl Try.underlying24 ?_
 dsimp only [putL, setL, evL, getL]
 refine HL_nil ?_
 refine hK3 _ _ ?_
 cases A0p with
 | none =>
  have hp : p0 = [] := by
   by_cases h : p0 = []
   ·exact h
   ·obtain ⟨b, o, hA, _⟩ := HRp0.2.2 h
    cases hA
  subst hp
  obtain ⟨_, rfl⟩ := app?_some H
  refine HT_true rfl ?_
  refine HT_seq_k ?_
  intro K4 hK4
  refine HT_region ?_
  refine HL_cons rfl ?_
  refine o_assign ?_
  dsimp only [putL, setL, evL, getL]
  refine HL_nil ?_
  refine hK4 _ _ ?_
  refine HT_ret ?_
  exact hQr _ _ [.slice none 0 0] ⟨rfl, trivial⟩ ⟨none, 0, rfl, hH.nil (K := KI) OI 3⟩
 | some a =>
  refine HT_false rfl ?_
  refine HT_skip ?_
  refine hK2 _ _ ?_
  refine HT_seq_k ?_
  intro K4 hK4
  refine HT_region ?_
  refine HL_cons rfl ?_
  refine o_lit0H (α := Int) (K := KI) (O := OI) hH Try.underlying24 tI3 ?_
  intro A1 s1 hH hG
  dsimp only [putL, setL, evL, getL]
  refine HL_cons rfl ?_
  refine o_move ?_
  dsimp only [putL, setL, evL, getL]
  refine HL_cons rfl ?_
  refine o_appF (n := 17592186044416) (A := A1) (c := 0) (xs := ([] : List (Int))) (ys := p0) (B := some a) (c2 := c0p) hH 0 rfl rfl rfl rfl Try.underlying24 tI3 rfl (by decide) (by decide) (by decide) (Src.flat (HRp0.mono hH.bs.mono)) H ?_
  intro A2 c2 s2 hH
  dsimp only [putL, setL, evL, getL]
  refine HL_cons rfl ?_
  refine o_assign ?_
  dsimp only [putL, setL, evL, getL]
  refine HL_nil ?_
  refine hK4 _ _ ?_
  refine HT_ret ?_
  exact hQr _ _ [.slice A2 r.length c2] ⟨rfl, trivial⟩ ⟨A2, c2, rfl, hH⟩
def impl_parts.l1 (p0 : List ((Int) × (List (Int)))) : Nat → (List (List (Int))) → (List (Int)) → Int → Option (Lo ((List (List (Int))) × (List (Int))) ((List (List (Int))) × Bool))
 | 0, _, _, _ => none
 | kf + 1, x301, x302, x303 => if (decide (x303 < (p0.length : Int))) = true then ((rd? p0 x303).bind fun u418 => (impl_partsOf.f u418.1).bind fun u423 => (if (decide (u423 < 0)) = true then (some true) else (some (decide (u423 > (x302.length : Int))))).bind fun (o : Bool) => match o with | x435 => (if x435 = true then ((some ([], false)).bind fun z => some (Lo.ret z)) else ((cut? x302 (IntKind.i64.wrap ((x302.length : Int) - u423)) (x302.length : Int)).bind fun x441 => (slices_Clone_int_int.f x441).bind fun u442 => (app? 5864062014805 x301 [u442]).bind fun x445 => (cut? x302 0 (IntKind.i64.wrap ((x302.length : Int) - u423))).bind fun x446 => (app? 17592186044416 x446 [x303]).bind fun x449 => impl_parts.l1 p0 kf x445 x449 (IntKind.i64.wrap (x303 + 1))))) else (some (Lo.go (x301, x302)))
def impl_parts.f (p0 : List ((Int) × (List (Int)))) : Option ((List (List (Int))) × Bool) := (impl_parts.l1 p0 ((((p0.length : Int)) - (0)).toNat + 2) ([] : List (List (Int))) ([] : List (Int)) 0).bind fun (o : Lo ((List (List (Int))) × (List (Int))) ((List (List (Int))) × Bool)) => match o with | .go (x228, x229) => (some (x228, ((x229.length : Int) == 1))) | .ret z => some z
def impl_parts.post (sb s : St) (F0 : Fp) (r : (List (List (Int))) × Bool) : Value → St → Prop := fun v s' => ∃ (A0 : Option Addr) (c0 : Nat), v = .tuple #[.slice A0 r.1.length c0, .bool r.2] ∧ Hp sb s F0 s' [Ck.ol (Ow.sl OI 3) 24 A0 c0 r.1]
set_option maxRecDepth 100000 in
set_option maxHeartbeats 4000000 in
theorem impl_parts.ok (sb s : St) (F0 : Fp) (A0p : Option Addr) (c0p : Nat) (p0 : List ((Int) × (List (Int)))) (HRp0 : Rd KS139 sb A0p c0p p0) (hH : Hp sb s F0 s []) (r : (List (List (Int))) × Bool) (H : impl_parts.f p0 = some r) : GCall Try.prog 155 #[.slice A0p p0.length c0p] s (impl_parts.post sb s F0 r) := by
 refine GCall_ofr (impl_parts.post sb s F0) [.tmp 2, .tmp 3] (ud [.slice A0p p0.length c0p] 52) Try.func155 rfl rfl rfl fun w Q hQr hQn hQp => ?_
 replace H := topE H
 unfold impl_parts.f at H
 dsimp only [ud, un]
 refine sr fun K1 hK1 => ag (ag (HL_nil (hK1 _ _ ?_)))
 dsimp only [putL, setL, evL, getL]
 refine sr fun K2 hK2 => hc (o_lit0H (α := List (Int)) (K := (Kd.sl KI)) (O := (Ow.sl OI 3)) hH Try.underlying105 tI24 ?_)
 clear hH
 intro A3 s3 hH _
 refine hc (o_lit0H (α := Int) (K := KI) (O := OI) hH Try.underlying24 tI3 ?_)
 clear hH
 intro A4 s4 hH _
 refine ag ?_
 dsimp only [putL, setL, evL, getL]
 refine ag (HL_nil (hK2 _ _ ?_))
 dsimp only [putL, setL, evL, getL]
 refine HT_seq_k fun K5 hK5 => sr fun K6 hK6 => mv (hc (o_len rfl Try.underlying57 (mv (HL_nil (hK6 _ _ ?_)))))
 dsimp only [putL, setL, evL, getL]
 refine joinH H fun G7 hG7 H => ?_
 refine HT_toK (fun l' s' => ∃ (x228 : List (List (Int))) (A228 : Option Addr) (c228 : Nat) (x229 : List (Int)) (A229 : Option Addr) (c229 : Nat), G7 (.go (x228, x229)) = some r ∧ skim [4, 0] l' = ([.slice A228 x228.length c228, .slice A229 x229.length c229], 48) ∧ Hp sb s F0 s' [Ck.ol (Ow.sl OI 3) 24 A228 c228 x228, Ck.ol OI 3 A229 c229 x229]) ?_ ?_
 ·intro K7 hK7
  refine HT_block ?_
  refine HT_loopK (fun kf l' s' => ∃ (x301 : List (List (Int))) (A301 : Option Addr) (c301 : Nat) (x302 : List (Int)) (A302 : Option Addr) (c302 : Nat) (x303 : Int), (impl_parts.l1 p0 kf x301 x302 x303).bind G7 = some r ∧ skim [4, 0, 5, 0, 0] l' = ([.slice A301 x301.length c301, .slice A302 x302.length c302, .slice A0p p0.length c0p, .int .i64 (p0.length : Int), .int .i64 x303], 40) ∧ Hp sb s F0 s' [Ck.ol (Ow.sl OI 3) 24 A301 c301 x301, Ck.ol OI 3 A302 c302 x302]) ((((p0.length : Int)) - (0)).toNat + 2) ⟨([] : List (List (Int))), A3, 0, ([] : List (Int)), A4, 0, 0, H, rfl, hH⟩ ?_
  rintro kf l' s378 ⟨x301, A301, c301, x302, A302, c302, x303, H, hl, hH⟩ K378 hK378
  revert l'
  refine skA ?_
  dsimp only [Al, Sk]
  intros
  cases kf with
  | zero => simp [impl_parts.l1] at H
  | succ kf =>
   rw [impl_parts.l1] at H
   refine sr fun K379 hK379 => bn rfl rfl rfl (HL_nil (hK379 _ _ ?_))
   dsimp only [putL, setL, evL, getL]
   refine HT_seq_k fun K380 hK380 => ?_
   revert H
   refine ct rfl (fun hb381 H => ?_) (fun hb381 H => ?_)
   ·refine HT_skip (hK380 _ _ (HT_seq_k fun K416 hK416 => (HT_block (sr fun K417 hK417 => (mv ?_)))))
    replace H := headE H
    obtain ⟨u418, hu418, H⟩ := H
    obtain ⟨b418, o418, cs418, hr418, hh418, hel418⟩ := Rd.elb HRp0 hu418
    obtain ⟨_, _, rfl, rfl, ⟨A419, c419, rfl, D419⟩⟩ := hr418
    refine hc (hel418 s378 rfl rfl Try.underlying57 tI139 (hc (o_loads' [.int .i64 u418.1, .slice A419 u418.2.length c419] rfl Try.underlying139 rfl tI139 rfl (fun j v hj => (hh418 hH.bs.mono) j v hj) ?_)))
    dsimp only [putL, setL, evL, getL]
    refine hc (o_allocH hH tI139 ?_)
    clear hH
    intro b420 s420 hH _
    refine ag (hc (o_stvH (vs := [.int .i64 u418.1, .slice A419 u418.2.length c419]) (us' := [.int .i64 u418.1, .slice A419 u418.2.length c419]) hH 2 rfl rfl rfl rfl rfl tI139 rfl (List.cons_ne_nil _ _) rfl rfl rfl ?_))
    clear hH
    intro s421 hH
    refine HL_nil (hK417 _ _ ?_)
    try dsimp only [putL, setL, evL, getL]
    refine sr fun K422 hK422 => hc (o_faddr' (ft := 3) (off := 0) rfl Try.underlying139 rfl tI3 (by decide) (hc (o_load' rfl Try.underlying3 rfl (hH.hasv 2 rfl rfl) ?_)))
    replace H := headE H
    obtain ⟨u423, hu423, H⟩ := H
    refine hc (o_call (args := #[.int .i64 u418.1]) Try.func203 rfl rfl rfl (impl_partsOf.ok sb s421 no u418.1 (Hp.own hH.bs) _ hu423) ?_)
    rintro _ s423 ⟨rfl, hD⟩
    replace hH := hH.back0 hD (Up.refl _ _ _)
    clear hD
    try dsimp only [putL, setL, evL, getL]
    refine ag (HL_nil (hK422 _ _ ?_))
    dsimp only [putL, setL, evL, getL]
    refine HT_seq_k fun K432 hK432 => ?_
    refine joinH H fun G433 hG433 H => ?_
    refine HT_joinK (fun l' s' => ∃ (x435 : Bool), G433 x435 = some r ∧ skim [4, 0, 0, 1, 2, 0, 0, 14] l' = ([.slice A301 x301.length c301, .slice A302 x302.length c302, .int .i64 x303, .int .i64 u423, .slice A0p p0.length c0p, .int .i64 (p0.length : Int), .int .i64 x303, .bool x435], 25) ∧ Hp sb s F0 s' [Ck.ol (Ow.sl OI 3) 24 A301 c301 x301, Ck.ol OI 3 A302 c302 x302]) ?_ ?_
    ·intro K433 hK433
     refine HT_region ?_
     refine mv (bn rfl rfl rfl (mv ?_))
     revert H
     refine it (fun hb436 H => ?_) (fun hb436 H => ?_)
     ·refine wf rfl rfl rfl rfl hb436 ?_
      dsimp only [putL, setL, evL, getL]
      refine wf rfl rfl rfl rfl hb436 (wf rfl rfl rfl rfl hb436 (wf rfl rfl rfl rfl hb436 ?_))
      dsimp only [putL, setL, evL, getL]
      refine hc (o_pickT rfl hb436 (HL_nil ?_))
      exact hK433 _ _ ⟨true, H, rfl, hH.sel [0, 1] (by decide)⟩
     ·refine wt rfl rfl rfl rfl hb436 (o_move (wt rfl rfl rfl rfl hb436 (o_move ?_)))
      dsimp only [putL, setL, evL, getL]
      refine wt rfl rfl rfl rfl hb436 (o_len rfl Try.underlying24 (wt rfl rfl rfl rfl hb436 (o_bin rfl rfl rfl (hc (o_pickF rfl hb436 (HL_nil ?_))))))
      exact hK433 _ _ ⟨decide (u423 > (x302.length : Int)), H, rfl, hH.sel [0, 1] (by decide)⟩
    ·rintro l' s437 ⟨x435, H, hl, hH⟩
     revert l'
     refine skA ?_
     dsimp only [Al, Sk]
     intros
     replace H := hG433 _ H
     try dsimp only at H
     revert H
     refine ct rfl (fun hb438 H => ?_) (fun hb438 H => ?_)
     ·refine sr fun K439 hK439 => ?_
      try dsimp only [putL, setL, evL, getL]
      refine ag (ag (HL_nil (hK439 _ _ ?_)))
      dsimp only [putL, setL, evL, getL]
      refine HT_ret ?_
      replace H := escH (fun z hz => hG7 _ hz) H
      exact hQr _ _ [.slice none 0 0, .bool false] _ ⟨rfl, rfl, trivial⟩ H ⟨none, 0, rfl, (hH.nil (K := (Kd.sl KI)) (Ow.sl OI 3) 24).sel [2] (by decide)⟩
     ·refine HT_skip (hK432 _ _ (sr fun K440 hK440 => (mv (mv (mv ?_)))))
      dsimp only [putL, setL, evL, getL]
      refine hc (o_len rfl Try.underlying24 (mv (bn rfl rfl rfl ?_)))
      replace H := headE H
      obtain ⟨x441, hx441, H⟩ := H
      try dsimp only [putL, setL, evL, getL]
      refine hc (o_cutA (xs := x302) (kl := .i64) (kh := .i64) (L := IntKind.i64.wrap ((x302.length : Int) - u423)) (H := (x302.length : Int)) rfl rfl rfl Try.underlying24 tI3 (hH.rd 1 rfl).1 hx441 ?_)
      have D441 := @Der.cut _ _ OI 3 A302 c302 _ _ _ _ hx441
      replace H := headE H
      obtain ⟨u442, hu442, H⟩ := H
      refine hc (o_call (args := #[.slice (cutA A302 c302 (Int.toNat (IntKind.i64.wrap ((x302.length : Int) - u423))) (Kd.sz KI)) x441.length (c302 - Int.toNat (IntKind.i64.wrap ((x302.length : Int) - u423)))]) Try.func141 rfl rfl rfl (slices_Clone_int_int.ok s437 s437 no (cutA A302 c302 (Int.toNat (IntKind.i64.wrap ((x302.length : Int) - u423))) (Kd.sz KI)) (c302 - Int.toNat (IntKind.i64.wrap ((x302.length : Int) - u423))) x441 (D441 _ _ hH.bs (hH.ckP 1)) (Hp.own (Bs.refl s437)) _ hu442) ?_)
      rintro _ s442 ⟨A443, c443, rfl, hD⟩
      replace hH := hH.back0T hD
      clear hD
      replace hH := hH.conv [2] (by decide) (d := Ck.el (Ow.sl OI 3) [.slice A443 u442.length c443] u442) Ent.sl
      refine hc (o_litD (K := (Kd.sl KI)) (O := (Ow.sl OI 3)) (ca := #[.slice A443 u442.length c443]) [[.slice A443 u442.length c443]] [u442] hH [3] (by decide) rfl Try.underlying105 tI24 rfl (by decide) rfl rfl rfl rfl (by kernel_rfl) rfl ?_)
      clear hH
      intro A444 s444 hH _
      replace H := headE H
      obtain ⟨x445, hx445, H⟩ := H
      try dsimp only [putL, setL, evL, getL]
      refine hc (o_appD (K := (Kd.sl KI)) (n := 5864062014805) (A := A301) (c := c301) (xs := x301) (ys := [u442]) (B := A444) (c2 := 1) hH 0 4 (by decide) rfl rfl rfl rfl rfl Try.underlying105 tI24 rfl (by decide) (by decide) (by decide) hx445 ?_)
      clear hH
      intro A445 c445 s445 hH
      refine ag (HL_nil (hK440 _ _ ?_))
      dsimp only [putL, setL, evL, getL]
      refine HT_region ?_
      refine mv (mv (hc (o_len rfl Try.underlying24 ?_)))
      dsimp only [putL, setL, evL, getL]
      refine mv (bn rfl rfl rfl ?_)
      replace H := headE H
      obtain ⟨x446, hx446, H⟩ := H
      refine hc (o_cutA (xs := x302) (kl := .i64) (kh := .i64) (L := 0) (H := IntKind.i64.wrap ((x302.length : Int) - u423)) rfl rfl rfl Try.underlying24 tI3 (hH.rd 1 rfl).1 hx446 ?_)
      have D446 := @Der.cut _ _ OI 3 A302 c302 _ _ _ _ hx446
      try dsimp only [putL, setL, evL, getL]
      refine mv (hc (o_litF (K := KI) (O := OI) (ca := #[.int .i64 x303]) [[.int .i64 x303]] [x303] hH Try.underlying24 tI3 rfl (by decide) rfl rfl (by kernel_rfl) rfl ⟨rfl, Ent.own (Ent.flat rfl), trivial⟩ ?_))
      clear hH
      intro A447 s447 hH _
      replace hH := hH.cut 1 rfl rfl hx446
      replace H := headE H
      obtain ⟨x449, hx449, H⟩ := H
      refine hc (o_appF (K := KI) (n := 17592186044416) (A := (cutA A302 c302 (Int.toNat 0) (Kd.sz KI))) (c := c302 - Int.toNat 0) (xs := x446) (ys := [x303]) (B := A447) (c2 := 1) hH 1 rfl rfl rfl rfl Try.underlying24 tI3 rfl (by decide) (by decide) (by decide) (Src.flat (hH.rd 5 rfl)) hx449 ?_)
      clear hH
      intro A449 c449 s449 hH
      try dsimp only [putL, setL, evL, getL]
      refine ag (HL_nil (hK416 _ _ ?_))
      dsimp only [putL, setL, evL, getL]
      refine HT_region ?_
      refine bn rfl rfl rfl (mv (HL_nil ?_))
      exact hK378 _ _ ⟨kf, Nat.lt_succ_self kf, x445, A445, c445, x449, A449, c449, IntKind.i64.wrap (x303 + 1), H, rfl, hH.sel [0, 1] (by decide)⟩
   ·refine HT_exit ?_
    exact hK7 _ _ ⟨x301, A301, c301, x302, A302, c302, H, rfl, hH⟩
 ·rintro l' s450 ⟨x228, A228, c228, x229, A229, c229, H, hl, hH⟩
  revert l'
  refine skA ?_
  dsimp only [Al, Sk]
  intros
  replace H := hG7 _ H
  try dsimp only at H
  refine hK5 _ _ ?_
  refine sr fun K451 hK451 => mv ?_
  dsimp only [putL, setL, evL, getL]
  refine mv (hc (o_len rfl Try.underlying24 (bn rfl rfl rfl ?_)))
  dsimp only [putL, setL, evL, getL]
  refine ag (ag (HL_nil (hK451 _ _ ?_)))
  dsimp only [putL, setL, evL, getL]
  refine HT_ret ?_
  exact hQr _ _ [.slice A228 x228.length c228, .bool ((x229.length : Int) == 1)] _ ⟨rfl, rfl, trivial⟩ H ⟨A228, c228, rfl, hH.sel [0] (by decide)⟩
def impl_GoodRe.f (p0 : List ((Int) × (List (Int)))) : Option Bool := ((impl_inRange.f (p0.length : Int) 1 40).bind fun u20 => if (!u20) = true then (some true) else ((slices_ContainsFunc_impl_Re_impl_Re_impl_GoodRe_1.f p0).bind fun u22 => some u22)).bind fun (o : Bool) => match o with | x19 => (if x19 = true then (some false) else ((impl_parts.f p0).bind fun u27 => some u27.2))
def impl_GoodRe.post (sb s : St) (F0 : Fp) (r : Bool) : Value → St → Prop := fun v s' => v = .bool r ∧ Hp sb s F0 s' []
set_option maxRecDepth 100000 in
set_option maxHeartbeats 4000000 in
theorem impl_GoodRe.ok (sb s : St) (F0 : Fp) (A0p : Option Addr) (c0p : Nat) (p0 : List ((Int) × (List (Int)))) (HRp0 : Rd KS139 sb A0p c0p p0) (hH : Hp sb s F0 s []) (r : Bool) (H : impl_GoodRe.f p0 = some r) : GCall Try.prog 131 #[.slice A0p p0.length c0p] s (impl_GoodRe.post sb s F0 r) := by
 refine GCall_ofr (impl_GoodRe.post sb s F0) [.tmp 2] (ud [.slice A0p p0.length c0p] 18) Try.func131 rfl rfl rfl fun w Q hQr hQn hQp => ?_
 replace H := topE H
 unfold impl_GoodRe.f at H
 dsimp only [ud, un]
 refine sr fun K1 hK1 => ag (HL_nil (hK1 _ _ ?_))
 dsimp only [putL, setL, evL, getL]
 refine HT_seq_k fun K14 hK14 => ?_
 refine joinH H fun G15 hG15 H => ?_
 refine HT_joinK (fun l' s' => ∃ (x19 : Bool), G15 x19 = some r ∧ skim [0, 11] l' = ([.slice A0p p0.length c0p, .bool x19], 7) ∧ Hp sb s F0 s' []) ?_ ?_
 ·intro K15 hK15
  refine HT_region ?_
  refine mv (hc (o_len rfl Try.underlying57 ?_))
  replace H := headE H
  obtain ⟨u20, hu20, H⟩ := H
  refine hc (o_call (args := #[.int .i64 (p0.length : Int), .int .i64 1, .int .i64 40]) Try.func105 rfl rfl rfl (impl_inRange.ok sb s no (p0.length : Int) 1 40 (Hp.own hH.bs) _ hu20) ?_)
  rintro _ s20 ⟨rfl, hD⟩
  replace hH := hH.back0 hD (Up.refl _ _ _)
  clear hD
  try dsimp only [putL, setL, evL, getL]
  refine hc (o_not rfl (mv ?_))
  revert H
  refine it (fun hb21 H => ?_) (fun hb21 H => ?_)
  ·refine wf rfl rfl rfl rfl hb21 ?_
   dsimp only [putL, setL, evL, getL]
   refine wf rfl rfl rfl rfl hb21 (hc (o_pickT rfl hb21 (HL_nil ?_)))
   exact hK15 _ _ ⟨true, H, rfl, hH⟩
  ·refine wt rfl rfl rfl rfl hb21 (o_move ?_)
   replace H := headE H
   obtain ⟨u22, hu22, H⟩ := H
   try dsimp only [putL, setL, evL, getL]
   refine wt rfl rfl rfl rfl hb21 (o_call (args := #[.slice A0p p0.length c0p, .func (.func 191) #[] #[]]) Try.func190 rfl rfl rfl (slices_ContainsFunc_impl_Re_impl_Re_impl_GoodRe_1.ok sb s20 no A0p c0p p0 HRp0 (Hp.own hH.bs) _ hu22) ?_)
   rintro _ s22 ⟨rfl, hD⟩
   replace hH := hH.back0 hD (Up.refl _ _ _)
   clear hD
   refine hc (o_pickF rfl hb21 (HL_nil ?_))
   exact hK15 _ _ ⟨u22, H, rfl, hH⟩
 ·rintro l' s23 ⟨x19, H, hl, hH⟩
  revert l'
  refine skA ?_
  dsimp only [Al, Sk]
  intros
  replace H := hG15 _ H
  try dsimp only at H
  revert H
  refine ct rfl (fun hb24 H => ?_) (fun hb24 H => ?_)
  ·refine sr fun K25 hK25 => ag (HL_nil (hK25 _ _ ?_))
   dsimp only [putL, setL, evL, getL]
   refine HT_ret ?_
   exact hQr _ _ [.bool false] _ ⟨rfl, trivial⟩ H ⟨rfl, hH⟩
  ·refine HT_skip (hK14 _ _ (sr fun K26 hK26 => (mv ?_)))
   replace H := headE H
   obtain ⟨u27, hu27, H⟩ := H
   refine hc (o_call (args := #[.slice A0p p0.length c0p]) Try.func155 rfl rfl rfl (impl_parts.ok sb s23 no A0p c0p p0 HRp0 (Hp.own hH.bs) _ hu27) ?_)
   rintro _ s27 ⟨A28, c28, rfl, hD⟩
   replace hH := hH.back0 hD (Up.refl _ _ _)
   clear hD
   refine mv ?_
   dsimp only [putL, setL, evL, getL]
   refine hc (o_extract rfl rfl (hc (o_extract rfl rfl (ag ?_))))
   dsimp only [putL, setL, evL, getL]
   refine ag (HL_nil (hK26 _ _ ?_))
   dsimp only [putL, setL, evL, getL]
   refine sr fun K29 hK29 => mv (ag (HL_nil (hK29 _ _ ?_)))
   dsimp only [putL, setL, evL, getL]
   refine HT_ret ?_
   exact hQr _ _ [.bool u27.2] _ ⟨rfl, trivial⟩ H ⟨rfl, hH.sel [] (by decide)⟩
def impl_isPlain_1.f (p0_0 : Int) (p0_1 : List (Int)) : Option Bool := if (p0_0 == 5) = true then (some true) else (some (p0_0 == 7))
def impl_isPlain_1.post (sb s : St) (F0 : Fp) (r : Bool) : Value → St → Prop := fun v s' => v = .bool r ∧ Hp sb s F0 s' []
set_option maxRecDepth 100000 in
set_option maxHeartbeats 4000000 in
theorem impl_isPlain_1.ok (sb s : St) (F0 : Fp) (p0_0 : Int) (A0_1p : Option Addr) (c0_1p : Nat) (p0_1 : List (Int)) (HRp0_1 : Rd KI sb A0_1p c0_1p p0_1) (hH : Hp sb s F0 s []) (r : Bool) (H : impl_isPlain_1.f p0_0 p0_1 = some r) : GCall Try.prog 194 #[.agg #[.int .i64 p0_0, .slice A0_1p p0_1.length c0_1p]] s (impl_isPlain_1.post sb s F0 r) := by
 refine GCall_ofr (impl_isPlain_1.post sb s F0) [.tmp 2] (ud [.agg #[.int .i64 p0_0, .slice A0_1p p0_1.length c0_1p]] 10) Try.func194 rfl rfl rfl fun w Q hQr hQn hQp => ?_
 replace H := topE H
 unfold impl_isPlain_1.f at H
 dsimp only [ud, un]
 refine sr fun K1 hK1 => hc (o_boxH hH rfl ?_)
 clear hH
 intro b2 s2 hH _
 refine ag (HL_nil (hK1 _ _ ?_))
 dsimp only [putL, setL, evL, getL]
 refine sr fun K3 hK3 => hc (o_faddr' (ft := 3) (off := 0) rfl Try.underlying139 rfl tI3 (by decide) (hc (o_load' rfl Try.underlying3 rfl (hH.hasv 0 rfl rfl) (bn rfl rfl rfl ?_))))
 dsimp only [putL, setL, evL, getL]
 refine mv ?_
 revert H
 refine it (fun hb4 H => ?_) (fun hb4 H => ?_)
 ·refine wf rfl rfl rfl rfl hb4 (wf rfl rfl rfl rfl hb4 ?_)
  dsimp only [putL, setL, evL, getL]
  refine wf rfl rfl rfl rfl hb4 (hc (o_pickT rfl hb4 (ag (HL_nil (hK3 _ _ ?_)))))
  dsimp only [putL, setL, evL, getL]
  refine HT_ret ?_
  exact hQr _ _ [.bool true] _ ⟨rfl, trivial⟩ H ⟨rfl, hH.sel [] (by decide)⟩
 ·refine wt rfl rfl rfl rfl hb4 (o_faddr' (ft := 3) (off := 0) rfl Try.underlying139 rfl tI3 (by decide) (wt rfl rfl rfl rfl hb4 (o_load' rfl Try.underlying3 rfl (hH.hasv 0 rfl rfl) (wt rfl rfl rfl rfl hb4 (o_bin rfl rfl rfl ?_)))))
  dsimp only [putL, setL, evL, getL]
  refine hc (o_pickF rfl hb4 (ag (HL_nil (hK3 _ _ ?_))))
  dsimp only [putL, setL, evL, getL]
  refine HT_ret ?_
  exact hQr _ _ [.bool (p0_0 == 7)] _ ⟨rfl, trivial⟩ H ⟨rfl, hH.sel [] (by decide)⟩
def slices_IndexFunc_impl_Re_impl_Re_impl_isPlain_1.l1 (p0 : List ((Int) × (List (Int)))) : Nat → Int → Option (Lo Unit Int)
 | 0, _ => none
 | kf + 1, x52 => if (decide (x52 < (p0.length : Int))) = true then ((rd? p0 x52).bind fun u72 => (impl_isPlain_1.f u72.1 u72.2).bind fun u74 => if u74 = true then ((some x52).bind fun z => some (Lo.ret z)) else (slices_IndexFunc_impl_Re_impl_Re_impl_isPlain_1.l1 p0 kf (IntKind.i64.wrap (x52 + 1)))) else (some (Lo.go ()))
def slices_IndexFunc_impl_Re_impl_Re_impl_isPlain_1.f (p0 : List ((Int) × (List (Int)))) : Option Int := (slices_IndexFunc_impl_Re_impl_Re_impl_isPlain_1.l1 p0 ((((p0.length : Int)) - (0)).toNat + 2) 0).bind fun (o : Lo Unit Int) => match o with | .go () => (some (-1)) | .ret z => some z
def slices_IndexFunc_impl_Re_impl_Re_impl_isPlain_1.post (sb s : St) (F0 : Fp) (r : Int) : Value → St → Prop := fun v s' => v = .int .i64 r ∧ Hp sb s F0 s' []
set_option maxRecDepth 100000 in
set_option maxHeartbeats 4000000 in
theorem slices_IndexFunc_impl_Re_impl_Re_impl_isPlain_1.ok (sb s : St) (F0 : Fp) (A0p : Option Addr) (c0p : Nat) (p0 : List ((Int) × (List (Int)))) (HRp0 : Rd KS139 sb A0p c0p p0) (hH : Hp sb s F0 s []) (r : Int) (H : slices_IndexFunc_impl_Re_impl_Re_impl_isPlain_1.f p0 = some r) : GCall Try.prog 221 #[.slice A0p p0.length c0p, .func (.func 194) #[] #[]] s (slices_IndexFunc_impl_Re_impl_Re_impl_isPlain_1.post sb s F0 r) := by
 refine GCall_ofr (slices_IndexFunc_impl_Re_impl_Re_impl_isPlain_1.post sb s F0) [.tmp 4] (ud [.slice A0p p0.length c0p, .func (.func 194) #[] #[]] 17) Try.func221 rfl rfl rfl fun w Q hQr hQn hQp => ?_
 replace H := topE H
 unfold slices_IndexFunc_impl_Re_impl_Re_impl_isPlain_1.f at H
 dsimp only [ud, un]
 refine sr fun K1 hK1 => ag (HL_nil (hK1 _ _ ?_))
 dsimp only [putL, setL, evL, getL]
 refine HT_seq_k fun K2 hK2 => sr fun K3 hK3 => mv (hc (o_len rfl Try.underlying57 (mv (HL_nil (hK3 _ _ ?_)))))
 dsimp only [putL, setL, evL, getL]
 refine joinH H fun G4 hG4 H => ?_
 refine HT_toK (fun l' s' => G4 (.go ()) = some r ∧ skim [] l' = ([], 20) ∧ Hp sb s F0 s' []) ?_ ?_
 ·intro K4 hK4
  refine HT_block ?_
  refine HT_loopK (fun kf l' s' => ∃ (x52 : Int), (slices_IndexFunc_impl_Re_impl_Re_impl_isPlain_1.l1 p0 kf x52).bind G4 = some r ∧ skim [0, 0, 5, 0] l' = ([.slice A0p p0.length c0p, .func (.func 194) #[] #[], .int .i64 (p0.length : Int), .int .i64 x52], 11) ∧ Hp sb s F0 s' []) ((((p0.length : Int)) - (0)).toNat + 2) ⟨0, H, rfl, hH⟩ ?_
  rintro kf l' s65 ⟨x52, H, hl, hH⟩ K65 hK65
  revert l'
  refine skA ?_
  dsimp only [Al, Sk]
  intros
  cases kf with
  | zero => simp [slices_IndexFunc_impl_Re_impl_Re_impl_isPlain_1.l1] at H
  | succ kf =>
   rw [slices_IndexFunc_impl_Re_impl_Re_impl_isPlain_1.l1] at H
   refine sr fun K66 hK66 => bn rfl rfl rfl (HL_nil (hK66 _ _ ?_))
   dsimp only [putL, setL, evL, getL]
   refine HT_seq_k fun K67 hK67 => ?_
   revert H
   refine ct rfl (fun hb68 H => ?_) (fun hb68 H => ?_)
   ·refine HT_skip (hK67 _ _ (HT_seq_k fun K69 hK69 => (HT_block (sr fun K70 hK70 => (mv (ag (HL_nil (hK70 _ _ ?_))))))))
    dsimp only [putL, setL, evL, getL]
    refine sr fun K71 hK71 => mv (mv (mv ?_))
    replace H := headE H
    obtain ⟨u72, hu72, H⟩ := H
    obtain ⟨b72, o72, cs72, hr72, hh72, hel72⟩ := Rd.elb HRp0 hu72
    obtain ⟨_, _, rfl, rfl, ⟨A73, c73, rfl, D73⟩⟩ := hr72
    try dsimp only [putL, setL, evL, getL]
    refine hc (hel72 s65 rfl rfl Try.underlying57 tI139 (hc (o_loads' [.int .i64 u72.1, .slice A73 u72.2.length c73] rfl Try.underlying139 rfl tI139 rfl (fun j v hj => (hh72 hH.bs.mono) j v hj) ?_)))
    replace H := headE H
    obtain ⟨u74, hu74, H⟩ := H
    refine hc (o_callv (first := #[]) (cap := #[]) (args := #[.agg #[.int .i64 u72.1, .slice A73 u72.2.length c73]]) rfl Try.func194 rfl rfl [.agg #[.int .i64 u72.1, .slice A73 u72.2.length c73]] rfl (by simp) (impl_isPlain_1.ok sb s65 no u72.1 A73 c73 u72.2 D73 (Hp.own hH.bs) _ hu74) ?_)
    rintro _ s74 ⟨rfl, hD⟩
    replace hH := hH.back0 hD (Up.refl _ _ _)
    clear hD
    refine HL_nil (hK71 _ _ ?_)
    try dsimp only [putL, setL, evL, getL]
    revert H
    refine ct rfl (fun hb75 H => ?_) (fun hb75 H => ?_)
    ·refine sr fun K76 hK76 => mv (ag (HL_nil (hK76 _ _ ?_)))
     dsimp only [putL, setL, evL, getL]
     refine HT_ret ?_
     replace H := escH (fun z hz => hG4 _ hz) H
     exact hQr _ _ [.int .i64 x52] _ ⟨rfl, trivial⟩ H ⟨rfl, hH⟩
    ·refine HT_skip (hK69 _ _ ?_)
     refine HT_region ?_
     refine bn rfl rfl rfl (mv (HL_nil ?_))
     exact hK65 _ _ ⟨kf, Nat.lt_succ_self kf, IntKind.i64.wrap (x52 + 1), H, rfl, hH⟩
   ·refine HT_exit ?_
    exact hK4 _ _ ⟨H, rfl, hH⟩
 ·rintro l' s77 ⟨H, hl, hH⟩
  revert l'
  refine skA ?_
  dsimp only [Al, Sk]
  intros
  replace H := hG4 _ H
  try dsimp only at H
  refine hK2 _ _ ?_
  refine sr fun K78 hK78 => ag (HL_nil (hK78 _ _ ?_))
  dsimp only [putL, setL, evL, getL]
  refine HT_ret ?_
  exact hQr _ _ [.int .i64 (-1)] _ ⟨rfl, trivial⟩ H ⟨rfl, hH⟩
def slices_ContainsFunc_impl_Re_impl_Re_impl_isPlain_1.f (p0 : List ((Int) × (List (Int)))) : Option Bool := (slices_IndexFunc_impl_Re_impl_Re_impl_isPlain_1.f p0).bind fun u3 => some (decide (u3 ≥ 0))
def slices_ContainsFunc_impl_Re_impl_Re_impl_isPlain_1.post (sb s : St) (F0 : Fp) (r : Bool) : Value → St → Prop := fun v s' => v = .bool r ∧ Hp sb s F0 s' []
set_option maxRecDepth 100000 in
set_option maxHeartbeats 4000000 in
theorem slices_ContainsFunc_impl_Re_impl_Re_impl_isPlain_1.ok (sb s : St) (F0 : Fp) (A0p : Option Addr) (c0p : Nat) (p0 : List ((Int) × (List (Int)))) (HRp0 : Rd KS139 sb A0p c0p p0) (hH : Hp sb s F0 s []) (r : Bool) (H : slices_ContainsFunc_impl_Re_impl_Re_impl_isPlain_1.f p0 = some r) : GCall Try.prog 190 #[.slice A0p p0.length c0p, .func (.func 194) #[] #[]] s (slices_ContainsFunc_impl_Re_impl_Re_impl_isPlain_1.post sb s F0 r) := by
 refine GCall_ofr (slices_ContainsFunc_impl_Re_impl_Re_impl_isPlain_1.post sb s F0) [.tmp 4] (ud [.slice A0p p0.length c0p, .func (.func 194) #[] #[]] 7) Try.func190 rfl rfl rfl fun w Q hQr hQn hQp => ?_
 replace H := topE H
 unfold slices_ContainsFunc_impl_Re_impl_Re_impl_isPlain_1.f at H
 dsimp only [ud, un]
 refine sr fun K1 hK1 => ag (HL_nil (hK1 _ _ ?_))
 dsimp only [putL, setL, evL, getL]
 refine sr fun K2 hK2 => mv (mv ?_)
 replace H := headE H
 obtain ⟨u3, hu3, H⟩ := H
 refine hc (o_call (args := #[.slice A0p p0.length c0p, .func (.func 194) #[] #[]]) Try.func221 rfl rfl rfl (slices_IndexFunc_impl_Re_impl_Re_impl_isPlain_1.ok sb s no A0p c0p p0 HRp0 (Hp.own hH.bs) _ hu3) ?_)
 rintro _ s3 ⟨rfl, hD⟩
 replace hH := hH.back0 hD (Up.refl _ _ _)
 clear hD
 try dsimp only [putL, setL, evL, getL]
 refine bn rfl rfl rfl (ag (HL_nil (hK2 _ _ ?_)))
 dsimp only [putL, setL, evL, getL]
 refine HT_ret ?_
 exact hQr _ _ [.bool (decide (u3 ≥ 0))] _ ⟨rfl, trivial⟩ H ⟨rfl, hH⟩
def impl_isPlain.f (p0 : List ((Int) × (List (Int)))) : Option Bool := (slices_ContainsFunc_impl_Re_impl_Re_impl_isPlain_1.f p0).bind fun u3 => some (!u3)
def impl_isPlain.post (sb s : St) (F0 : Fp) (r : Bool) : Value → St → Prop := fun v s' => v = .bool r ∧ Hp sb s F0 s' []
set_option maxRecDepth 100000 in
set_option maxHeartbeats 4000000 in
theorem impl_isPlain.ok (sb s : St) (F0 : Fp) (A0p : Option Addr) (c0p : Nat) (p0 : List ((Int) × (List (Int)))) (HRp0 : Rd KS139 sb A0p c0p p0) (hH : Hp sb s F0 s []) (r : Bool) (H : impl_isPlain.f p0 = some r) : GCall Try.prog 132 #[.slice A0p p0.length c0p] s (impl_isPlain.post sb s F0 r) := by
 refine GCall_ofr (impl_isPlain.post sb s F0) [.tmp 2] (ud [.slice A0p p0.length c0p] 5) Try.func132 rfl rfl rfl fun w Q hQr hQn hQp => ?_
 replace H := topE H
 unfold impl_isPlain.f at H
 dsimp only [ud, un]
 refine sr fun K1 hK1 => ag (HL_nil (hK1 _ _ ?_))
 dsimp only [putL, setL, evL, getL]
 refine sr fun K2 hK2 => mv ?_
 replace H := headE H
 obtain ⟨u3, hu3, H⟩ := H
 refine hc (o_call (args := #[.slice A0p p0.length c0p, .func (.func 194) #[] #[]]) Try.func190 rfl rfl rfl (slices_ContainsFunc_impl_Re_impl_Re_impl_isPlain_1.ok sb s no A0p c0p p0 HRp0 (Hp.own hH.bs) _ hu3) ?_)
 rintro _ s3 ⟨rfl, hD⟩
 replace hH := hH.back0 hD (Up.refl _ _ _)
 clear hD
 refine hc (o_not rfl ?_)
 dsimp only [putL, setL, evL, getL]
 refine ag (HL_nil (hK2 _ _ ?_))
 dsimp only [putL, setL, evL, getL]
 refine HT_ret ?_
 exact hQr _ _ [.bool (!u3)] _ ⟨rfl, trivial⟩ H ⟨rfl, hH⟩
def impl_areRunes_1.f (p0 : Int) : Option Bool := (impl_GoodRune.f p0).bind fun u3 => some (!u3)
def impl_areRunes_1.post (sb s : St) (F0 : Fp) (r : Bool) : Value → St → Prop := fun v s' => v = .bool r ∧ Hp sb s F0 s' []
set_option maxRecDepth 100000 in
set_option maxHeartbeats 4000000 in
theorem impl_areRunes_1.ok (sb s : St) (F0 : Fp) (p0 : Int) (hH : Hp sb s F0 s []) (r : Bool) (H : impl_areRunes_1.f p0 = some r) : GCall Try.prog 186 #[.int .i64 p0] s (impl_areRunes_1.post sb s F0 r) := by
 refine GCall_ofr (impl_areRunes_1.post sb s F0) [.tmp 2] (ud [.int .i64 p0] 5) Try.func186 rfl rfl rfl fun w Q hQr hQn hQp => ?_
 replace H := topE H
 unfold impl_areRunes_1.f at H
 dsimp only [ud, un]
 refine sr fun K1 hK1 => ag (HL_nil (hK1 _ _ ?_))
 dsimp only [putL, setL, evL, getL]
 refine sr fun K2 hK2 => mv ?_
 replace H := headE H
 obtain ⟨u3, hu3, H⟩ := H
 refine hc (o_call (args := #[.int .i64 p0]) Try.func146 rfl rfl rfl (impl_GoodRune.ok sb s no p0 (Hp.own hH.bs) _ hu3) ?_)
 rintro _ s3 ⟨rfl, hD⟩
 replace hH := hH.back0 hD (Up.refl _ _ _)
 clear hD
 refine hc (o_not rfl ?_)
 dsimp only [putL, setL, evL, getL]
 refine ag (HL_nil (hK2 _ _ ?_))
 dsimp only [putL, setL, evL, getL]
 refine HT_ret ?_
 exact hQr _ _ [.bool (!u3)] _ ⟨rfl, trivial⟩ H ⟨rfl, hH⟩
def slices_IndexFunc_int_int_impl_areRunes_1.l1 (p0 : List (Int)) : Nat → Int → Option (Lo Unit Int)
 | 0, _ => none
 | kf + 1, x48 => if (decide (x48 < (p0.length : Int))) = true then ((rd? p0 x48).bind fun u67 => (impl_areRunes_1.f u67).bind fun u68 => if u68 = true then ((some x48).bind fun z => some (Lo.ret z)) else (slices_IndexFunc_int_int_impl_areRunes_1.l1 p0 kf (IntKind.i64.wrap (x48 + 1)))) else (some (Lo.go ()))
def slices_IndexFunc_int_int_impl_areRunes_1.f (p0 : List (Int)) : Option Int := (slices_IndexFunc_int_int_impl_areRunes_1.l1 p0 ((((p0.length : Int)) - (0)).toNat + 2) 0).bind fun (o : Lo Unit Int) => match o with | .go () => (some (-1)) | .ret z => some z
def slices_IndexFunc_int_int_impl_areRunes_1.post (sb s : St) (F0 : Fp) (r : Int) : Value → St → Prop := fun v s' => v = .int .i64 r ∧ Hp sb s F0 s' []
set_option maxRecDepth 100000 in
set_option maxHeartbeats 4000000 in
theorem slices_IndexFunc_int_int_impl_areRunes_1.ok (sb s : St) (F0 : Fp) (A0p : Option Addr) (c0p : Nat) (p0 : List (Int)) (HRp0 : Rd KI sb A0p c0p p0) (hH : Hp sb s F0 s []) (r : Int) (H : slices_IndexFunc_int_int_impl_areRunes_1.f p0 = some r) : GCall Try.prog 184 #[.slice A0p p0.length c0p, .func (.func 186) #[] #[]] s (slices_IndexFunc_int_int_impl_areRunes_1.post sb s F0 r) := by
 refine GCall_ofr (slices_IndexFunc_int_int_impl_areRunes_1.post sb s F0) [.tmp 4] (ud [.slice A0p p0.length c0p, .func (.func 186) #[] #[]] 17) Try.func184 rfl rfl rfl fun w Q hQr hQn hQp => ?_
 replace H := topE H
 unfold slices_IndexFunc_int_int_impl_areRunes_1.f at H
 dsimp only [ud, un]
 refine sr fun K1 hK1 => ag (HL_nil (hK1 _ _ ?_))
 dsimp only [putL, setL, evL, getL]
 refine HT_seq_k fun K2 hK2 => sr fun K3 hK3 => mv (hc (o_len rfl Try.underlying24 (mv (HL_nil (hK3 _ _ ?_)))))
 dsimp only [putL, setL, evL, getL]
 refine joinH H fun G4 hG4 H => ?_
 refine HT_toK (fun l' s' => G4 (.go ()) = some r ∧ skim [] l' = ([], 20) ∧ Hp sb s F0 s' []) ?_ ?_
 ·intro K4 hK4
  refine HT_block ?_
  refine HT_loopK (fun kf l' s' => ∃ (x48 : Int), (slices_IndexFunc_int_int_impl_areRunes_1.l1 p0 kf x48).bind G4 = some r ∧ skim [0, 0, 5, 0] l' = ([.slice A0p p0.length c0p, .func (.func 186) #[] #[], .int .i64 (p0.length : Int), .int .i64 x48], 11) ∧ Hp sb s F0 s' []) ((((p0.length : Int)) - (0)).toNat + 2) ⟨0, H, rfl, hH⟩ ?_
  rintro kf l' s60 ⟨x48, H, hl, hH⟩ K60 hK60
  revert l'
  refine skA ?_
  dsimp only [Al, Sk]
  intros
  cases kf with
  | zero => simp [slices_IndexFunc_int_int_impl_areRunes_1.l1] at H
  | succ kf =>
   rw [slices_IndexFunc_int_int_impl_areRunes_1.l1] at H
   refine sr fun K61 hK61 => bn rfl rfl rfl (HL_nil (hK61 _ _ ?_))
   dsimp only [putL, setL, evL, getL]
   refine HT_seq_k fun K62 hK62 => ?_
   revert H
   refine ct rfl (fun hb63 H => ?_) (fun hb63 H => ?_)
   ·refine HT_skip (hK62 _ _ (HT_seq_k fun K64 hK64 => (HT_block (sr fun K65 hK65 => (mv (ag (HL_nil (hK65 _ _ ?_))))))))
    dsimp only [putL, setL, evL, getL]
    refine sr fun K66 hK66 => mv (mv (mv ?_))
    replace H := headE H
    obtain ⟨u67, hu67, H⟩ := H
    obtain ⟨b67, o67, cs67, hr67, hh67, hel67⟩ := Rd.elb HRp0 hu67
    obtain rfl := hr67
    try dsimp only [putL, setL, evL, getL]
    refine hc (hel67 s60 rfl rfl Try.underlying24 tI3 (hc (o_load' rfl Try.underlying3 rfl ((hh67 hH.bs.mono) 0 _ rfl) ?_)))
    replace H := headE H
    obtain ⟨u68, hu68, H⟩ := H
    refine hc (o_callv (first := #[]) (cap := #[]) (args := #[.int .i64 u67]) rfl Try.func186 rfl rfl [.int .i64 u67] rfl (by simp) (impl_areRunes_1.ok sb s60 no u67 (Hp.own hH.bs) _ hu68) ?_)
    rintro _ s68 ⟨rfl, hD⟩
    replace hH := hH.back0 hD (Up.refl _ _ _)
    clear hD
    refine HL_nil (hK66 _ _ ?_)
    try dsimp only [putL, setL, evL, getL]
    revert H
    refine ct rfl (fun hb69 H => ?_) (fun hb69 H => ?_)
    ·refine sr fun K70 hK70 => mv (ag (HL_nil (hK70 _ _ ?_)))
     dsimp only [putL, setL, evL, getL]
     refine HT_ret ?_
     replace H := escH (fun z hz => hG4 _ hz) H
     exact hQr _ _ [.int .i64 x48] _ ⟨rfl, trivial⟩ H ⟨rfl, hH⟩
    ·refine HT_skip (hK64 _ _ ?_)
     refine HT_region ?_
     refine bn rfl rfl rfl (mv (HL_nil ?_))
     exact hK60 _ _ ⟨kf, Nat.lt_succ_self kf, IntKind.i64.wrap (x48 + 1), H, rfl, hH⟩
   ·refine HT_exit ?_
    exact hK4 _ _ ⟨H, rfl, hH⟩
 ·rintro l' s71 ⟨H, hl, hH⟩
  revert l'
  refine skA ?_
  dsimp only [Al, Sk]
  intros
  replace H := hG4 _ H
  try dsimp only at H
  refine hK2 _ _ ?_
  refine sr fun K72 hK72 => ag (HL_nil (hK72 _ _ ?_))
  dsimp only [putL, setL, evL, getL]
  refine HT_ret ?_
  exact hQr _ _ [.int .i64 (-1)] _ ⟨rfl, trivial⟩ H ⟨rfl, hH⟩
def slices_ContainsFunc_int_int_impl_areRunes_1.f (p0 : List (Int)) : Option Bool := (slices_IndexFunc_int_int_impl_areRunes_1.f p0).bind fun u3 => some (decide (u3 ≥ 0))
def slices_ContainsFunc_int_int_impl_areRunes_1.post (sb s : St) (F0 : Fp) (r : Bool) : Value → St → Prop := fun v s' => v = .bool r ∧ Hp sb s F0 s' []
set_option maxRecDepth 100000 in
set_option maxHeartbeats 4000000 in
theorem slices_ContainsFunc_int_int_impl_areRunes_1.ok (sb s : St) (F0 : Fp) (A0p : Option Addr) (c0p : Nat) (p0 : List (Int)) (HRp0 : Rd KI sb A0p c0p p0) (hH : Hp sb s F0 s []) (r : Bool) (H : slices_ContainsFunc_int_int_impl_areRunes_1.f p0 = some r) : GCall Try.prog 114 #[.slice A0p p0.length c0p, .func (.func 186) #[] #[]] s (slices_ContainsFunc_int_int_impl_areRunes_1.post sb s F0 r) := by
 refine GCall_ofr (slices_ContainsFunc_int_int_impl_areRunes_1.post sb s F0) [.tmp 4] (ud [.slice A0p p0.length c0p, .func (.func 186) #[] #[]] 7) Try.func114 rfl rfl rfl fun w Q hQr hQn hQp => ?_
 replace H := topE H
 unfold slices_ContainsFunc_int_int_impl_areRunes_1.f at H
 dsimp only [ud, un]
 refine sr fun K1 hK1 => ag (HL_nil (hK1 _ _ ?_))
 dsimp only [putL, setL, evL, getL]
 refine sr fun K2 hK2 => mv (mv ?_)
 replace H := headE H
 obtain ⟨u3, hu3, H⟩ := H
 refine hc (o_call (args := #[.slice A0p p0.length c0p, .func (.func 186) #[] #[]]) Try.func184 rfl rfl rfl (slices_IndexFunc_int_int_impl_areRunes_1.ok sb s no A0p c0p p0 HRp0 (Hp.own hH.bs) _ hu3) ?_)
 rintro _ s3 ⟨rfl, hD⟩
 replace hH := hH.back0 hD (Up.refl _ _ _)
 clear hD
 try dsimp only [putL, setL, evL, getL]
 refine bn rfl rfl rfl (ag (HL_nil (hK2 _ _ ?_)))
 dsimp only [putL, setL, evL, getL]
 refine HT_ret ?_
 exact hQr _ _ [.bool (decide (u3 ≥ 0))] _ ⟨rfl, trivial⟩ H ⟨rfl, hH⟩
def impl_areRunes.f (p0 : List (Int)) (p1 : Int) : Option Bool := if (decide ((p0.length : Int) ≤ p1)) = true then ((slices_ContainsFunc_int_int_impl_areRunes_1.f p0).bind fun u4 => some (!u4)) else (some false)
def impl_areRunes.post (sb s : St) (F0 : Fp) (r : Bool) : Value → St → Prop := fun v s' => v = .bool r ∧ Hp sb s F0 s' []
set_option maxRecDepth 100000 in
set_option maxHeartbeats 4000000 in
theorem impl_areRunes.ok (sb s : St) (F0 : Fp) (A0p : Option Addr) (c0p : Nat) (p0 : List (Int)) (p1 : Int) (HRp0 : Rd KI sb A0p c0p p0) (hH : Hp sb s F0 s []) (r : Bool) (H : impl_areRunes.f p0 p1 = some r) : GCall Try.prog 118 #[.slice A0p p0.length c0p, .int .i64 p1] s (impl_areRunes.post sb s F0 r) := by
 refine GCall_ofr (impl_areRunes.post sb s F0) [.tmp 4] (ud [.slice A0p p0.length c0p, .int .i64 p1] 12) Try.func118 rfl rfl rfl fun w Q hQr hQn hQp => ?_
 replace H := topE H
 unfold impl_areRunes.f at H
 dsimp only [ud, un]
 refine sr fun K1 hK1 => ag (HL_nil (hK1 _ _ ?_))
 dsimp only [putL, setL, evL, getL]
 refine sr fun K2 hK2 => mv (hc (o_len rfl Try.underlying24 (mv ?_)))
 dsimp only [putL, setL, evL, getL]
 refine bn rfl rfl rfl (mv ?_)
 revert H
 refine it (fun hb3 H => ?_) (fun hb3 H => ?_)
 ·refine wt rfl rfl rfl rfl hb3 (o_move ?_)
  replace H := headE H
  obtain ⟨u4, hu4, H⟩ := H
  try dsimp only [putL, setL, evL, getL]
  refine wt rfl rfl rfl rfl hb3 (o_call (args := #[.slice A0p p0.length c0p, .func (.func 186) #[] #[]]) Try.func114 rfl rfl rfl (slices_ContainsFunc_int_int_impl_areRunes_1.ok sb s no A0p c0p p0 HRp0 (Hp.own hH.bs) _ hu4) ?_)
  rintro _ s4 ⟨rfl, hD⟩
  replace hH := hH.back0 hD (Up.refl _ _ _)
  clear hD
  refine wt rfl rfl rfl rfl hb3 (o_not rfl (hc (o_pickT rfl hb3 ?_)))
  dsimp only [putL, setL, evL, getL]
  refine ag (HL_nil (hK2 _ _ ?_))
  dsimp only [putL, setL, evL, getL]
  refine HT_ret ?_
  exact hQr _ _ [.bool (!u4)] _ ⟨rfl, trivial⟩ H ⟨rfl, hH⟩
 ·refine wf rfl rfl rfl rfl hb3 (wf rfl rfl rfl rfl hb3 (wf rfl rfl rfl rfl hb3 ?_))
  dsimp only [putL, setL, evL, getL]
  refine hc (o_pickF rfl hb3 (ag (HL_nil (hK2 _ _ ?_))))
  dsimp only [putL, setL, evL, getL]
  refine HT_ret ?_
  exact hQr _ _ [.bool false] _ ⟨rfl, trivial⟩ H ⟨rfl, hH⟩
def impl_canParse.f (p0 : List ((Int) × (List (Int)))) (p1 : List (Int)) : Option Bool := (impl_GoodRe.f p0).bind fun u3 => if u3 = true then ((impl_isPlain.f p0).bind fun u5 => if u5 = true then ((impl_areRunes.f p1 40).bind fun u7 => some u7) else (some false)) else (some false)
def impl_canParse.post (sb s : St) (F0 : Fp) (r : Bool) : Value → St → Prop := fun v s' => v = .bool r ∧ Hp sb s F0 s' []
set_option maxRecDepth 100000 in
set_option maxHeartbeats 4000000 in
theorem impl_canParse.ok (sb s : St) (F0 : Fp) (A0p : Option Addr) (c0p : Nat) (p0 : List ((Int) × (List (Int)))) (A1p : Option Addr) (c1p : Nat) (p1 : List (Int)) (HRp0 : Rd KS139 sb A0p c0p p0) (HRp1 : Rd KI sb A1p c1p p1) (hH : Hp sb s F0 s []) (r : Bool) (H : impl_canParse.f p0 p1 = some r) : GCall Try.prog 152 #[.slice A0p p0.length c0p, .slice A1p p1.length c1p] s (impl_canParse.post sb s F0 r) := by
 refine GCall_ofr (impl_canParse.post sb s F0) [.tmp 4] (ud [.slice A0p p0.length c0p, .slice A1p p1.length c1p] 13) Try.func152 rfl rfl rfl fun w Q hQr hQn hQp => ?_
 replace H := topE H
 unfold impl_canParse.f at H
 dsimp only [ud, un]
 refine sr fun K1 hK1 => ag (HL_nil (hK1 _ _ ?_))
 dsimp only [putL, setL, evL, getL]
 refine sr fun K2 hK2 => mv ?_
 replace H := headE H
 obtain ⟨u3, hu3, H⟩ := H
 refine hc (o_call (args := #[.slice A0p p0.length c0p]) Try.func131 rfl rfl rfl (impl_GoodRe.ok sb s no A0p c0p p0 HRp0 (Hp.own hH.bs) _ hu3) ?_)
 rintro _ s3 ⟨rfl, hD⟩
 replace hH := hH.back0 hD (Up.refl _ _ _)
 clear hD
 refine mv ?_
 revert H
 refine it (fun hb4 H => ?_) (fun hb4 H => ?_)
 ·refine wt rfl rfl rfl rfl hb4 (o_move ?_)
  replace H := headE H
  obtain ⟨u5, hu5, H⟩ := H
  try dsimp only [putL, setL, evL, getL]
  refine wt rfl rfl rfl rfl hb4 (o_call (args := #[.slice A0p p0.length c0p]) Try.func132 rfl rfl rfl (impl_isPlain.ok sb s3 no A0p c0p p0 HRp0 (Hp.own hH.bs) _ hu5) ?_)
  rintro _ s5 ⟨rfl, hD⟩
  replace hH := hH.back0 hD (Up.refl _ _ _)
  clear hD
  refine hc (o_pickT rfl hb4 (mv ?_))
  revert H
  refine it (fun hb6 H => ?_) (fun hb6 H => ?_)
  ·refine wt rfl rfl rfl rfl hb6 (o_move ?_)
   replace H := headE H
   obtain ⟨u7, hu7, H⟩ := H
   try dsimp only [putL, setL, evL, getL]
   refine wt rfl rfl rfl rfl hb6 (o_call (args := #[.slice A1p p1.length c1p, .int .i64 40]) Try.func118 rfl rfl rfl (impl_areRunes.ok sb s5 no A1p c1p p1 40 HRp1 (Hp.own hH.bs) _ hu7) ?_)
   rintro _ s7 ⟨rfl, hD⟩
   replace hH := hH.back0 hD (Up.refl _ _ _)
   clear hD
   refine hc (o_pickT rfl hb6 (ag (HL_nil (hK2 _ _ ?_))))
   dsimp only [putL, setL, evL, getL]
   refine HT_ret ?_
   exact hQr _ _ [.bool u7] _ ⟨rfl, trivial⟩ H ⟨rfl, hH⟩
  ·refine wf rfl rfl rfl rfl hb6 (wf rfl rfl rfl rfl hb6 (hc (o_pickF rfl hb6 ?_)))
   dsimp only [putL, setL, evL, getL]
   refine ag (HL_nil (hK2 _ _ ?_))
   dsimp only [putL, setL, evL, getL]
   refine HT_ret ?_
   exact hQr _ _ [.bool false] _ ⟨rfl, trivial⟩ H ⟨rfl, hH⟩
 ·refine wf rfl rfl rfl rfl hb4 (wf rfl rfl rfl rfl hb4 (hc (o_pickF rfl hb4 ?_)))
  dsimp only [putL, setL, evL, getL]
  refine mv (wf rfl rfl rfl rfl rfl (wf rfl rfl rfl rfl rfl ?_))
  dsimp only [putL, setL, evL, getL]
  refine hc (o_pickF rfl rfl (ag (HL_nil (hK2 _ _ ?_))))
  dsimp only [putL, setL, evL, getL]
  refine HT_ret ?_
  exact hQr _ _ [.bool false] _ ⟨rfl, trivial⟩ H ⟨rfl, hH⟩
def impl_spanReader_first.f (p0_0_0 : List ((Int) × (List (Int)))) (p0_0_1 : List (List (Int))) (p0_0_2 : List (Int)) (p0_0_3 : List (List (List (Bool)))) (p0_1 : List ((Int) × (Int) × (Int))) : Option (Int × Int × Int × Bool) := if ((p0_1.length : Int) == 0) = true then (some (0, 0, 0, false)) else ((rd? p0_1 0).bind fun u9 => some (u9.1, u9.2.1, u9.2.2, true))
def impl_spanReader_first.post (sb s : St) (F0 : Fp) (bp0 : Nat) (bp0_0 : Nat) (A0_0_0p : Option Addr) (c0_0_0p : Nat) (p0_0_0 : List ((Int) × (List (Int)))) (A0_0_1p : Option Addr) (c0_0_1p : Nat) (p0_0_1 : List (List (Int))) (A0_0_2p : Option Addr) (c0_0_2p : Nat) (p0_0_2 : List (Int)) (A0_0_3p : Option Addr) (c0_0_3p : Nat) (p0_0_3 : List (List (List (Bool)))) (A0_1p : Option Addr) (c0_1p : Nat) (p0_1 : List ((Int) × (Int) × (Int))) (r : Int × Int × Int × Bool) : Value → St → Prop := fun v s' => v = .tuple #[.agg #[.int .i64 r.1, .int .i64 r.2.1, .int .i64 r.2.2.1], .bool r.2.2.2] ∧ Hp sb s F0 s' [Ck.ov bp0 [.pointer (some ⟨bp0_0, 0, none⟩), .slice A0_1p p0_1.length c0_1p] 167, Ck.ov bp0_0 [.slice A0_0_0p p0_0_0.length c0_0_0p, .slice A0_0_1p p0_0_1.length c0_0_1p, .slice A0_0_2p p0_0_2.length c0_0_2p, .slice A0_0_3p p0_0_3.length c0_0_3p] 165]
set_option maxRecDepth 100000 in
set_option maxHeartbeats 4000000 in
theorem impl_spanReader_first.ok (sb s : St) (F0 : Fp) (bp0 : Nat) (bp0_0 : Nat) (A0_0_0p : Option Addr) (c0_0_0p : Nat) (p0_0_0 : List ((Int) × (List (Int)))) (A0_0_1p : Option Addr) (c0_0_1p : Nat) (p0_0_1 : List (List (Int))) (A0_0_2p : Option Addr) (c0_0_2p : Nat) (p0_0_2 : List (Int)) (A0_0_3p : Option Addr) (c0_0_3p : Nat) (p0_0_3 : List (List (List (Bool)))) (A0_1p : Option Addr) (c0_1p : Nat) (p0_1 : List ((Int) × (Int) × (Int))) (HRp0_0_0 : Rd KS139 sb A0_0_0p c0_0_0p p0_0_0) (HRp0_0_1 : Rd (Kd.sl KI) sb A0_0_1p c0_0_1p p0_0_1) (HRp0_0_2 : Rd KI sb A0_0_2p c0_0_2p p0_0_2) (HRp0_0_3 : Rd (Kd.sl (Kd.sl Kd.bool)) sb A0_0_3p c0_0_3p p0_0_3) (HRp0_1 : Rd KS138 sb A0_1p c0_1p p0_1) (hH : Hp sb s F0 s [Ck.ov bp0 [.pointer (some ⟨bp0_0, 0, none⟩), .slice A0_1p p0_1.length c0_1p] 167, Ck.ov bp0_0 [.slice A0_0_0p p0_0_0.length c0_0_0p, .slice A0_0_1p p0_0_1.length c0_0_1p, .slice A0_0_2p p0_0_2.length c0_0_2p, .slice A0_0_3p p0_0_3.length c0_0_3p] 165]) (r : Int × Int × Int × Bool) (H : impl_spanReader_first.f p0_0_0 p0_0_1 p0_0_2 p0_0_3 p0_1 = some r) : GCall Try.prog 204 #[.pointer (some ⟨bp0, 0, none⟩)] s (impl_spanReader_first.post sb s F0 bp0 bp0_0 A0_0_0p c0_0_0p p0_0_0 A0_0_1p c0_0_1p p0_0_1 A0_0_2p c0_0_2p p0_0_2 A0_0_3p c0_0_3p p0_0_3 A0_1p c0_1p p0_1 r) := by
 refine GCall_ofr (impl_spanReader_first.post sb s F0 bp0 bp0_0 A0_0_0p c0_0_0p p0_0_0 A0_0_1p c0_0_1p p0_0_1 A0_0_2p c0_0_2p p0_0_2 A0_0_3p c0_0_3p p0_0_3 A0_1p c0_1p p0_1) [.cell 2 138, .tmp 3] (ud [.pointer (some ⟨bp0, 0, none⟩)] 16) Try.func204 rfl rfl rfl fun w Q hQr hQn hQp => ?_
 replace H := topE H
 unfold impl_spanReader_first.f at H
 dsimp only [ud, un]
 refine sr fun K1 hK1 => hc (o_allocH hH tI138 ?_)
 clear hH
 intro b2 s2 hH _
 refine ag (HL_nil (hK1 _ _ ?_))
 dsimp only [putL, setL, evL, getL]
 refine HT_seq_k fun K3 hK3 => sr fun K4 hK4 => mv (hc (o_nilck rfl (hc (o_faddr' (ft := 54) (off := 1) rfl Try.underlying167 rfl tI54 (by decide) ?_))))
 dsimp only [putL, setL, evL, getL]
 refine hc (o_load' rfl Try.underlying54 rfl (hH.hasv 0 rfl rfl) (hc (o_len rfl Try.underlying54 (bn rfl rfl rfl (HL_nil (hK4 _ _ ?_))))))
 dsimp only [putL, setL, evL, getL]
 revert H
 refine ct rfl (fun hb5 H => ?_) (fun hb5 H => ?_)
 ·refine sr fun K6 hK6 => hc (o_build (pl := [(0, 1), (1, 1), (2, 1)]) (cs := #[.int .i64 0, .int .i64 0, .int .i64 0]) Try.underlying138 tI138 (by kernel_rfl) (by kernel_rfl) rfl (hc (o_stvH (vs := [.int .i64 0, .int .i64 0, .int .i64 0]) (us' := [.int .i64 0, .int .i64 0, .int .i64 0]) hH 2 rfl rfl rfl rfl rfl tI138 rfl (List.cons_ne_nil _ _) rfl rfl rfl ?_)))
  clear hH
  intro s7 hH
  refine ag (HL_nil (hK6 _ _ ?_))
  dsimp only [putL, setL, evL, getL]
  refine HT_ret ?_
  exact hQr _ _ [.agg #[.int .i64 0, .int .i64 0, .int .i64 0], .bool false] _ ⟨ResV.cells rfl Try.underlying138 rfl tI138 (hH.var 2 rfl) rfl, rfl, trivial⟩ H ⟨rfl, hH.sel [0, 1] (by decide)⟩
 ·refine HT_skip (hK3 _ _ (sr fun K8 hK8 => (mv (hc (o_nilck rfl (hc (o_faddr' (ft := 54) (off := 1) rfl Try.underlying167 rfl tI54 (by decide) ?_)))))))
  dsimp only [putL, setL, evL, getL]
  refine hc (o_load' rfl Try.underlying54 rfl (hH.hasv 0 rfl rfl) ?_)
  replace H := headE H
  obtain ⟨u9, hu9, H⟩ := H
  obtain ⟨b9, o9, cs9, hr9, hh9, hel9⟩ := Rd.elb HRp0_1 hu9
  obtain ⟨_, _, rfl, rfl, ⟨_, _, rfl, rfl, rfl⟩⟩ := hr9
  refine hc (hel9 s2 rfl rfl Try.underlying54 tI138 (hc (o_loads' [.int .i64 u9.1, .int .i64 u9.2.1, .int .i64 u9.2.2] rfl Try.underlying138 rfl tI138 rfl (fun j v hj => (hh9 hH.bs.mono) j v hj) ?_)))
  dsimp only [putL, setL, evL, getL]
  refine hc (o_stvH (vs := [.int .i64 u9.1, .int .i64 u9.2.1, .int .i64 u9.2.2]) (us' := [.int .i64 u9.1, .int .i64 u9.2.1, .int .i64 u9.2.2]) hH 2 rfl rfl rfl rfl rfl tI138 rfl (List.cons_ne_nil _ _) rfl rfl rfl ?_)
  clear hH
  intro s10 hH
  refine ag (HL_nil (hK8 _ _ ?_))
  dsimp only [putL, setL, evL, getL]
  refine HT_ret ?_
  exact hQr _ _ [.agg #[.int .i64 u9.1, .int .i64 u9.2.1, .int .i64 u9.2.2], .bool true] _ ⟨ResV.cells rfl Try.underlying138 rfl tI138 (hH.var 2 rfl) rfl, rfl, trivial⟩ H ⟨rfl, hH.sel [0, 1] (by decide)⟩
def impl_spansOf.l1 (p0 : List (Int)) : Nat → (List ((Int) × (Int))) → Int → Option (List ((Int) × (Int)))
 | 0, _, _ => none
 | kf + 1, x45, x46 => if (decide ((IntKind.i64.wrap (x46 + 1)) < (p0.length : Int))) = true then ((rd? p0 x46).bind fun u62 => (rd? p0 (IntKind.i64.wrap (x46 + 1))).bind fun u63 => (app? 8796093022208 x45 [(u62, u63)]).bind fun x65 => impl_spansOf.l1 p0 kf x65 (IntKind.i64.wrap (x46 + 2))) else (some x45)
def impl_spansOf.f (p0 : List (Int)) : Option (List ((Int) × (Int))) := (impl_spansOf.l1 p0 ((((p0.length : Int)) - (IntKind.i64.wrap (0 + 1))).toNat + 2) ([] : List ((Int) × (Int))) 0).bind fun (o : (List ((Int) × (Int)))) => match o with | x36 => (some x36)
def impl_spansOf.post (sb s : St) (F0 : Fp) (r : (List ((Int) × (Int)))) : Value → St → Prop := fun v s' => ∃ (A0 : Option Addr) (c0 : Nat), v = .slice A0 r.length c0 ∧ Hp sb s F0 s' [Ck.ol OS219 219 A0 c0 r]
set_option maxRecDepth 100000 in
set_option maxHeartbeats 4000000 in
theorem impl_spansOf.ok (sb s : St) (F0 : Fp) (A0p : Option Addr) (c0p : Nat) (p0 : List (Int)) (HRp0 : Rd KI sb A0p c0p p0) (hH : Hp sb s F0 s []) (r : (List ((Int) × (Int)))) (H : impl_spansOf.f p0 = some r) : GCall Try.prog 225 #[.slice A0p p0.length c0p] s (impl_spansOf.post sb s F0 r) := by
 refine GCall_ofr (impl_spansOf.post sb s F0) [.tmp 2] (ud [.slice A0p p0.length c0p] 26) Try.func225 rfl rfl rfl fun w Q hQr hQn hQp => ?_
 replace H := topE H
 unfold impl_spansOf.f at H
 dsimp only [ud, un]
 refine sr fun K1 hK1 => ag (HL_nil (hK1 _ _ ?_))
 dsimp only [putL, setL, evL, getL]
 refine sr fun K2 hK2 => hc (o_lit0H (α := (Int) × (Int)) (K := KS219) (O := OS219) hH Try.underlying217 tI219 ?_)
 clear hH
 intro A3 s3 hH _
 refine ag (HL_nil (hK2 _ _ ?_))
 dsimp only [putL, setL, evL, getL]
 refine HT_seq_k fun K4 hK4 => sr fun K5 hK5 => ag (HL_nil (hK5 _ _ ?_))
 dsimp only [putL, setL, evL, getL]
 refine joinH H fun G6 hG6 H => ?_
 refine HT_toK (fun l' s' => ∃ (x36 : List ((Int) × (Int))) (A36 : Option Addr) (c36 : Nat), G6 x36 = some r ∧ skim [3] l' = ([.slice A36 x36.length c36], 24) ∧ Hp sb s F0 s' [Ck.ol OS219 219 A36 c36 x36]) ?_ ?_
 ·intro K6 hK6
  refine HT_block ?_
  refine HT_loopK (fun kf l' s' => ∃ (x45 : List ((Int) × (Int))) (A45 : Option Addr) (c45 : Nat) (x46 : Int), (impl_spansOf.l1 p0 kf x45 x46).bind G6 = some r ∧ skim [0, 2, 0] l' = ([.slice A0p p0.length c0p, .slice A45 x45.length c45, .int .i64 x46], 23) ∧ Hp sb s F0 s' [Ck.ol OS219 219 A45 c45 x45]) ((((p0.length : Int)) - (IntKind.i64.wrap (0 + 1))).toNat + 2) ⟨([] : List ((Int) × (Int))), A3, 0, 0, H, rfl, hH⟩ ?_
  rintro kf l' s57 ⟨x45, A45, c45, x46, H, hl, hH⟩ K57 hK57
  revert l'
  refine skA ?_
  dsimp only [Al, Sk]
  intros
  cases kf with
  | zero => simp [impl_spansOf.l1] at H
  | succ kf =>
   rw [impl_spansOf.l1] at H
   refine HT_seq_k fun K58 hK58 => sr fun K59 hK59 => mv (bn rfl rfl rfl (mv ?_))
   dsimp only [putL, setL, evL, getL]
   refine hc (o_len rfl Try.underlying24 (bn rfl rfl rfl (HL_nil (hK59 _ _ ?_))))
   dsimp only [putL, setL, evL, getL]
   revert H
   refine ct rfl (fun hb60 H => ?_) (fun hb60 H => ?_)
   ·refine HT_skip (hK58 _ _ (HT_seq_k fun K61 hK61 => (HT_block ?_)))
    refine HX_draw hMix ?_
    refine HX_lim (R := fun _ => True) (k := 0) (fun s' => Gro s57 s') 12 ?_
    have hR := Gro.refl s57
    have hH0 := hH
    refine HK_readP 0 (v := .slice A45 x45.length c45) rfl (by kernel_rfl) hQp rfl (fun s' K hK => o_move hK) rfl rfl (fun _ => hR) ?_
    try dsimp only [putL, setL, evL, getL]
    refine HK_readP 1 (v := .slice A0p p0.length c0p) rfl (by kernel_rfl) hQp rfl (fun s' K hK => o_move hK) rfl rfl (fun _ => hR) ?_
    refine HK_readP 2 (v := .int .i64 x46) rfl (by kernel_rfl) hQp rfl (fun s' K hK => o_move hK) rfl rfl (fun _ => hR) ?_
    replace H := headE H
    obtain ⟨u62, hu62, H⟩ := H
    obtain ⟨b62, o62, cs62, hr62, hh62, hel62⟩ := Rd.elb HRp0 hu62
    obtain rfl := hr62
    refine HK_readP 3 (v := .pointer (some ⟨b62, o62, none⟩)) rfl (by kernel_rfl) hQp rfl (fun s' K hK => hel62 s' rfl rfl Try.underlying24 tI3 hK) rfl rfl (fun _ => hR) ?_
    try dsimp only [putL, setL, evL, getL]
    refine HK_read 4 (v := .int .i64 u62) rfl (by kernel_rfl) hQp rfl (fun s' hR' K hK => o_load' rfl Try.underlying3 rfl ((hh62 (hH0.bs.mono.trans hR'.mono)) 0 _ rfl) hK) rfl rfl hR ?_
    refine HK_readP 5 (v := .slice A0p p0.length c0p) rfl (by kernel_rfl) hQp rfl (fun s' K hK => o_move hK) rfl rfl (fun _ => hR) ?_
    refine HK_readP 6 (v := .int .i64 x46) rfl (by kernel_rfl) hQp rfl (fun s' K hK => o_move hK) rfl rfl (fun _ => hR) ?_
    try dsimp only [putL, setL, evL, getL]
    refine HK_readP 7 (v := .int .i64 (IntKind.i64.wrap (x46 + 1))) rfl (by kernel_rfl) hQp rfl (fun s' K hK => o_bin rfl rfl rfl hK) rfl rfl (fun _ => hR) ?_
    replace H := headE H
    obtain ⟨u63, hu63, H⟩ := H
    obtain ⟨b63, o63, cs63, hr63, hh63, hel63⟩ := Rd.elb HRp0 hu63
    obtain rfl := hr63
    refine HK_readP 8 (v := .pointer (some ⟨b63, o63, none⟩)) rfl (by kernel_rfl) hQp rfl (fun s' K hK => hel63 s' rfl rfl Try.underlying24 tI3 hK) rfl rfl (fun _ => hR) ?_
    refine HK_read 9 (v := .int .i64 u63) rfl (by kernel_rfl) hQp rfl (fun s' hR' K hK => o_load' rfl Try.underlying3 rfl ((hh63 (hH0.bs.mono.trans hR'.mono)) 0 _ rfl) hK) rfl rfl hR ?_
    try dsimp only [putL, setL, evL, getL]
    refine HK_readP 10 (v := .agg #[.int .i64 u62, .int .i64 u63]) rfl (by kernel_rfl) hQp rfl (fun s' K hK => o_build (pl := [(0, 1), (1, 1)]) (cs := #[.int .i64 u62, .int .i64 u63]) Try.underlying219 tI219 (by kernel_rfl) (by kernel_rfl) rfl hK) rfl rfl (fun _ => hR) ?_
    refine HK_more [11] (by kernel_rfl) rfl (fun _ => hR) ⟨⟨_, rfl, Or.inl ⟨rfl, ?_⟩⟩, trivial⟩
    skip
    refine o_litF (K := KS219) (O := OS219) (ca := #[.int .i64 u62, .int .i64 u63]) [[.int .i64 u62, .int .i64 u63]] [(u62, u63)] hH Try.underlying217 tI219 rfl (by decide) rfl rfl (by kernel_rfl) rfl ⟨rfl, Ent.own (Ent.pair (v1 := [.int .i64 u62]) (v2 := [.int .i64 u63]) (x1 := u62) (x2 := u63) (Ent.flat rfl) (Ent.flat rfl)), trivial⟩ ?_
    clear hH
    intro A64 s64 hH hG
    replace hR := hR.trans hG
    refine HK_more [12] (by kernel_rfl) rfl (fun _ => hR) ⟨⟨_, rfl, Or.inl ⟨rfl, ?_⟩⟩, trivial⟩
    replace H := headE H
    obtain ⟨x65, hx65, H⟩ := H
    skip
    refine o_appF (K := KS219) (n := 8796093022208) (A := A45) (c := c45) (xs := x45) (ys := [(u62, u63)]) (B := A64) (c2 := 1) hH 0 rfl rfl rfl rfl Try.underlying217 tI219 rfl (by decide) (by decide) (by decide) (Src.flat (hH.rd 1 rfl)) hx65 ?_
    clear hH
    intro A65 c65 s65 hH
    try dsimp only [putL, setL, evL, getL]
    refine HK_free (by kernel_rfl) ?_
    refine HX_lim (R := fun _ => True) (k := 0) (fun s' => Gro s65 s') 15 ?_
    have hR := Gro.refl s65
    have hH0 := hH
    refine HK_more [13] (by kernel_rfl) rfl (fun _ => hR) ⟨⟨_, rfl, Or.inl ⟨rfl, ?_⟩⟩, trivial⟩
    skip
    refine o_assign ?_
    try dsimp only [putL, setL, evL, getL]
    refine HK_done (fun _ => hR) (by kernel_rfl) ?_
    refine hK61 _ _ ?_
    try dsimp only [putL, setL, evL, getL]
    refine HT_region ?_
    refine mv (bn rfl rfl rfl (ag (HL_nil ?_)))
    exact hK57 _ _ ⟨kf, Nat.lt_succ_self kf, x65, A65, c65, IntKind.i64.wrap (x46 + 2), H, rfl, hH.sel [0] (by decide)⟩
   ·refine HT_exit ?_
    exact hK6 _ _ ⟨x45, A45, c45, H, rfl, hH⟩
 ·rintro l' s66 ⟨x36, A36, c36, H, hl, hH⟩
  revert l'
  refine skA ?_
  dsimp only [Al, Sk]
  intros
  replace H := hG6 _ H
  try dsimp only at H
  refine hK4 _ _ ?_
  refine sr fun K67 hK67 => ?_
  try dsimp only [putL, setL, evL, getL]
  refine mv (ag (HL_nil (hK67 _ _ ?_)))
  dsimp only [putL, setL, evL, getL]
  refine HT_ret ?_
  exact hQr _ _ [.slice A36 x36.length c36] _ ⟨rfl, trivial⟩ H ⟨A36, c36, rfl, hH⟩
def impl_inSet_1.f (p0_0 : Int) (p0_1 : Int) (pf0_0 : Int) : Option Bool := (impl_inRange.f pf0_0 p0_0 p0_1).bind fun u4 => some u4
def impl_inSet_1.post (sb s : St) (F0 : Fp) (bpf0 : Nat) (pf0_0 : Int) (r : Bool) : Value → St → Prop := fun v s' => v = .bool r ∧ Hp sb s F0 s' [Ck.ov bpf0 [.int .i64 pf0_0] 3]
set_option maxRecDepth 100000 in
set_option maxHeartbeats 4000000 in
theorem impl_inSet_1.ok (sb s : St) (F0 : Fp) (p0_0 : Int) (p0_1 : Int) (bpf0 : Nat) (pf0_0 : Int) (hH : Hp sb s F0 s [Ck.ov bpf0 [.int .i64 pf0_0] 3]) (r : Bool) (H : impl_inSet_1.f p0_0 p0_1 pf0_0 = some r) : GCall Try.prog 226 #[.agg #[.int .i64 p0_0, .int .i64 p0_1], .pointer (some ⟨bpf0, 0, none⟩)] s (impl_inSet_1.post sb s F0 bpf0 pf0_0 r) := by
 refine GCall_ofr (impl_inSet_1.post sb s F0 bpf0 pf0_0) [.tmp 3] (ud [.agg #[.int .i64 p0_0, .int .i64 p0_1], .pointer (some ⟨bpf0, 0, none⟩)] 8) Try.func226 rfl rfl rfl fun w Q hQr hQn hQp => ?_
 replace H := topE H
 unfold impl_inSet_1.f at H
 dsimp only [ud, un]
 refine sr fun K1 hK1 => hc (o_boxH hH rfl ?_)
 clear hH
 intro b2 s2 hH _
 refine ag (HL_nil (hK1 _ _ ?_))
 dsimp only [putL, setL, evL, getL]
 refine sr fun K3 hK3 => hc (o_load' rfl Try.underlying3 rfl (hH.hasv 0 rfl rfl) (hc (o_faddr' (ft := 3) (off := 0) rfl Try.underlying219 rfl tI3 (by decide) (hc (o_load' rfl Try.underlying3 rfl (hH.hasv 1 rfl rfl) ?_)))))
 dsimp only [putL, setL, evL, getL]
 refine hc (o_faddr' (ft := 3) (off := 1) rfl Try.underlying219 rfl tI3 (by decide) (hc (o_load' rfl Try.underlying3 rfl (hH.hasv 1 rfl rfl) ?_)))
 replace H := headE H
 obtain ⟨u4, hu4, H⟩ := H
 refine hc (o_call (args := #[.int .i64 pf0_0, .int .i64 p0_0, .int .i64 p0_1]) Try.func105 rfl rfl rfl (impl_inRange.ok sb s2 no pf0_0 p0_0 p0_1 (Hp.own hH.bs) _ hu4) ?_)
 rintro _ s4 ⟨rfl, hD⟩
 replace hH := hH.back0 hD (Up.refl _ _ _)
 clear hD
 try dsimp only [putL, setL, evL, getL]
 refine ag (HL_nil (hK3 _ _ ?_))
 dsimp only [putL, setL, evL, getL]
 refine HT_ret ?_
 exact hQr _ _ [.bool u4] _ ⟨rfl, trivial⟩ H ⟨rfl, hH.sel [0] (by decide)⟩
def slices_IndexFunc_impl_span_impl_span_impl_inSet_1.l1 (p0 : List ((Int) × (Int))) (p1c0_0 : Int) : Nat → Int → Option (Lo Unit Int)
 | 0, _ => none
 | kf + 1, x48 => if (decide (x48 < (p0.length : Int))) = true then ((rd? p0 x48).bind fun u67 => (impl_inSet_1.f u67.1 u67.2 p1c0_0).bind fun u68 => if u68 = true then ((some x48).bind fun z => some (Lo.ret z)) else (slices_IndexFunc_impl_span_impl_span_impl_inSet_1.l1 p0 p1c0_0 kf (IntKind.i64.wrap (x48 + 1)))) else (some (Lo.go ()))
def slices_IndexFunc_impl_span_impl_span_impl_inSet_1.f (p0 : List ((Int) × (Int))) (p1c0_0 : Int) : Option Int := (slices_IndexFunc_impl_span_impl_span_impl_inSet_1.l1 p0 p1c0_0 ((((p0.length : Int)) - (0)).toNat + 2) 0).bind fun (o : Lo Unit Int) => match o with | .go () => (some (-1)) | .ret z => some z
def slices_IndexFunc_impl_span_impl_span_impl_inSet_1.post (sb s : St) (F0 : Fp) (bp1c0 : Nat) (p1c0_0 : Int) (r : Int) : Value → St → Prop := fun v s' => v = .int .i64 r ∧ Hp sb s F0 s' [Ck.ov bp1c0 [.int .i64 p1c0_0] 3]
set_option maxRecDepth 100000 in
set_option maxHeartbeats 4000000 in
theorem slices_IndexFunc_impl_span_impl_span_impl_inSet_1.ok (sb s : St) (F0 : Fp) (A0p : Option Addr) (c0p : Nat) (p0 : List ((Int) × (Int))) (bp1c0 : Nat) (p1c0_0 : Int) (HRp0 : Rd KS219 sb A0p c0p p0) (hH : Hp sb s F0 s [Ck.ov bp1c0 [.int .i64 p1c0_0] 3]) (r : Int) (H : slices_IndexFunc_impl_span_impl_span_impl_inSet_1.f p0 p1c0_0 = some r) : GCall Try.prog 237 #[.slice A0p p0.length c0p, .func (.func 226) #[] #[.pointer (some ⟨bp1c0, 0, none⟩)]] s (slices_IndexFunc_impl_span_impl_span_impl_inSet_1.post sb s F0 bp1c0 p1c0_0 r) := by
 refine GCall_ofr (slices_IndexFunc_impl_span_impl_span_impl_inSet_1.post sb s F0 bp1c0 p1c0_0) [.tmp 4] (ud [.slice A0p p0.length c0p, .func (.func 226) #[] #[.pointer (some ⟨bp1c0, 0, none⟩)]] 17) Try.func237 rfl rfl rfl fun w Q hQr hQn hQp => ?_
 replace H := topE H
 unfold slices_IndexFunc_impl_span_impl_span_impl_inSet_1.f at H
 dsimp only [ud, un]
 refine sr fun K1 hK1 => ag (HL_nil (hK1 _ _ ?_))
 dsimp only [putL, setL, evL, getL]
 refine HT_seq_k fun K2 hK2 => sr fun K3 hK3 => mv (hc (o_len rfl Try.underlying217 (mv (HL_nil (hK3 _ _ ?_)))))
 dsimp only [putL, setL, evL, getL]
 refine joinH H fun G4 hG4 H => ?_
 refine HT_toK (fun l' s' => G4 (.go ()) = some r ∧ skim [] l' = ([], 20) ∧ Hp sb s F0 s' [Ck.ov bp1c0 [.int .i64 p1c0_0] 3]) ?_ ?_
 ·intro K4 hK4
  refine HT_block ?_
  refine HT_loopK (fun kf l' s' => ∃ (x48 : Int), (slices_IndexFunc_impl_span_impl_span_impl_inSet_1.l1 p0 p1c0_0 kf x48).bind G4 = some r ∧ skim [0, 0, 5, 0] l' = ([.slice A0p p0.length c0p, .func (.func 226) #[] #[.pointer (some ⟨bp1c0, 0, none⟩)], .int .i64 (p0.length : Int), .int .i64 x48], 11) ∧ Hp sb s F0 s' [Ck.ov bp1c0 [.int .i64 p1c0_0] 3]) ((((p0.length : Int)) - (0)).toNat + 2) ⟨0, H, rfl, hH⟩ ?_
  rintro kf l' s60 ⟨x48, H, hl, hH⟩ K60 hK60
  revert l'
  refine skA ?_
  dsimp only [Al, Sk]
  intros
  cases kf with
  | zero => simp [slices_IndexFunc_impl_span_impl_span_impl_inSet_1.l1] at H
  | succ kf =>
   rw [slices_IndexFunc_impl_span_impl_span_impl_inSet_1.l1] at H
   refine sr fun K61 hK61 => bn rfl rfl rfl (HL_nil (hK61 _ _ ?_))
   dsimp only [putL, setL, evL, getL]
   refine HT_seq_k fun K62 hK62 => ?_
   revert H
   refine ct rfl (fun hb63 H => ?_) (fun hb63 H => ?_)
   ·refine HT_skip (hK62 _ _ (HT_seq_k fun K64 hK64 => (HT_block (sr fun K65 hK65 => (mv (ag (HL_nil (hK65 _ _ ?_))))))))
    dsimp only [putL, setL, evL, getL]
    refine sr fun K66 hK66 => mv (mv (mv ?_))
    replace H := headE H
    obtain ⟨u67, hu67, H⟩ := H
    obtain ⟨b67, o67, cs67, hr67, hh67, hel67⟩ := Rd.elb HRp0 hu67
    obtain ⟨_, _, rfl, rfl, rfl⟩ := hr67
    try dsimp only [putL, setL, evL, getL]
    refine hc (hel67 s60 rfl rfl Try.underlying217 tI219 (hc (o_loads' [.int .i64 u67.1, .int .i64 u67.2] rfl Try.underlying219 rfl tI219 rfl (fun j v hj => (hh67 hH.bs.mono) j v hj) ?_)))
    replace H := headE H
    obtain ⟨u68, hu68, H⟩ := H
    obtain ⟨F1, hA, hB⟩ := hH.take [0] (by decide)
    dsimp only [addC, setC, rmC, selC, getC] at hA
    refine hc (o_callv (first := #[]) (cap := #[.pointer (some ⟨bp1c0, 0, none⟩)]) (args := #[.agg #[.int .i64 u67.1, .int .i64 u67.2], .pointer (some ⟨bp1c0, 0, none⟩)]) rfl Try.func226 rfl rfl [.agg #[.int .i64 u67.1, .int .i64 u67.2]] rfl (by simp) (impl_inSet_1.ok sb s60 F1 u67.1 u67.2 bp1c0 p1c0_0 hA _ hu68) ?_)
    rintro _ s68 ⟨rfl, hD⟩
    replace hH := hB _ _ _ (Up.refl _ _ _) hD
    clear hD hA hB
    refine HL_nil (hK66 _ _ ?_)
    try dsimp only [putL, setL, evL, getL]
    revert H
    refine ct rfl (fun hb69 H => ?_) (fun hb69 H => ?_)
    ·refine sr fun K70 hK70 => mv (ag (HL_nil (hK70 _ _ ?_)))
     dsimp only [putL, setL, evL, getL]
     refine HT_ret ?_
     replace H := escH (fun z hz => hG4 _ hz) H
     exact hQr _ _ [.int .i64 x48] _ ⟨rfl, trivial⟩ H ⟨rfl, hH.sel [1] (by decide)⟩
    ·refine HT_skip (hK64 _ _ ?_)
     refine HT_region ?_
     refine bn rfl rfl rfl (mv (HL_nil ?_))
     exact hK60 _ _ ⟨kf, Nat.lt_succ_self kf, IntKind.i64.wrap (x48 + 1), H, rfl, hH.sel [1] (by decide)⟩
   ·refine HT_exit ?_
    exact hK4 _ _ ⟨H, rfl, hH⟩
 ·rintro l' s71 ⟨H, hl, hH⟩
  revert l'
  refine skA ?_
  dsimp only [Al, Sk]
  intros
  replace H := hG4 _ H
  try dsimp only at H
  refine hK2 _ _ ?_
  refine sr fun K72 hK72 => ag (HL_nil (hK72 _ _ ?_))
  dsimp only [putL, setL, evL, getL]
  refine HT_ret ?_
  exact hQr _ _ [.int .i64 (-1)] _ ⟨rfl, trivial⟩ H ⟨rfl, hH⟩
def slices_ContainsFunc_impl_span_impl_span_impl_inSet_1.f (p0 : List ((Int) × (Int))) (p1c0_0 : Int) : Option Bool := (slices_IndexFunc_impl_span_impl_span_impl_inSet_1.f p0 p1c0_0).bind fun u3 => some (decide (u3 ≥ 0))
def slices_ContainsFunc_impl_span_impl_span_impl_inSet_1.post (sb s : St) (F0 : Fp) (bp1c0 : Nat) (p1c0_0 : Int) (r : Bool) : Value → St → Prop := fun v s' => v = .bool r ∧ Hp sb s F0 s' [Ck.ov bp1c0 [.int .i64 p1c0_0] 3]
set_option maxRecDepth 100000 in
set_option maxHeartbeats 4000000 in
theorem slices_ContainsFunc_impl_span_impl_span_impl_inSet_1.ok (sb s : St) (F0 : Fp) (A0p : Option Addr) (c0p : Nat) (p0 : List ((Int) × (Int))) (bp1c0 : Nat) (p1c0_0 : Int) (HRp0 : Rd KS219 sb A0p c0p p0) (hH : Hp sb s F0 s [Ck.ov bp1c0 [.int .i64 p1c0_0] 3]) (r : Bool) (H : slices_ContainsFunc_impl_span_impl_span_impl_inSet_1.f p0 p1c0_0 = some r) : GCall Try.prog 224 #[.slice A0p p0.length c0p, .func (.func 226) #[] #[.pointer (some ⟨bp1c0, 0, none⟩)]] s (slices_ContainsFunc_impl_span_impl_span_impl_inSet_1.post sb s F0 bp1c0 p1c0_0 r) := by
 refine GCall_ofr (slices_ContainsFunc_impl_span_impl_span_impl_inSet_1.post sb s F0 bp1c0 p1c0_0) [.tmp 4] (ud [.slice A0p p0.length c0p, .func (.func 226) #[] #[.pointer (some ⟨bp1c0, 0, none⟩)]] 7) Try.func224 rfl rfl rfl fun w Q hQr hQn hQp => ?_
 replace H := topE H
 unfold slices_ContainsFunc_impl_span_impl_span_impl_inSet_1.f at H
 dsimp only [ud, un]
 refine sr fun K1 hK1 => ag (HL_nil (hK1 _ _ ?_))
 dsimp only [putL, setL, evL, getL]
 refine sr fun K2 hK2 => mv (mv ?_)
 replace H := headE H
 obtain ⟨u3, hu3, H⟩ := H
 obtain ⟨F1, hA, hB⟩ := hH.take [0] (by decide)
 dsimp only [addC, setC, rmC, selC, getC] at hA
 refine hc (o_call (args := #[.slice A0p p0.length c0p, .func (.func 226) #[] #[.pointer (some ⟨bp1c0, 0, none⟩)]]) Try.func237 rfl rfl rfl (slices_IndexFunc_impl_span_impl_span_impl_inSet_1.ok sb s F1 A0p c0p p0 bp1c0 p1c0_0 HRp0 hA _ hu3) ?_)
 rintro _ s3 ⟨rfl, hD⟩
 replace hH := hB _ _ _ (Up.refl _ _ _) hD
 clear hD hA hB
 try dsimp only [putL, setL, evL, getL]
 refine bn rfl rfl rfl (ag (HL_nil (hK2 _ _ ?_)))
 dsimp only [putL, setL, evL, getL]
 refine HT_ret ?_
 exact hQr _ _ [.bool (decide (u3 ≥ 0))] _ ⟨rfl, trivial⟩ H ⟨rfl, hH.sel [1] (by decide)⟩
def impl_inSet.f (p0 : List (Int)) (p1 : Int) : Option Bool := (impl_spansOf.f p0).bind fun u4 => (slices_ContainsFunc_impl_span_impl_span_impl_inSet_1.f u4 p1).bind fun u6 => some u6
def impl_inSet.post (sb s : St) (F0 : Fp) (r : Bool) : Value → St → Prop := fun v s' => v = .bool r ∧ Hp sb s F0 s' []
set_option maxRecDepth 100000 in
set_option maxHeartbeats 4000000 in
theorem impl_inSet.ok (sb s : St) (F0 : Fp) (A0p : Option Addr) (c0p : Nat) (p0 : List (Int)) (p1 : Int) (HRp0 : Rd KI sb A0p c0p p0) (hH : Hp sb s F0 s []) (r : Bool) (H : impl_inSet.f p0 p1 = some r) : GCall Try.prog 205 #[.slice A0p p0.length c0p, .int .i64 p1] s (impl_inSet.post sb s F0 r) := by
 refine GCall_ofr (impl_inSet.post sb s F0) [.tmp 4] (ud [.slice A0p p0.length c0p, .int .i64 p1] 7) Try.func205 rfl rfl rfl fun w Q hQr hQn hQp => ?_
 replace H := topE H
 unfold impl_inSet.f at H
 dsimp only [ud, un]
 refine sr fun K1 hK1 => hc (o_box1H hH rfl rfl ?_)
 clear hH
 intro b2 s2 hH _
 refine ag (HL_nil (hK1 _ _ ?_))
 dsimp only [putL, setL, evL, getL]
 refine sr fun K3 hK3 => mv ?_
 replace H := headE H
 obtain ⟨u4, hu4, H⟩ := H
 refine hc (o_call (args := #[.slice A0p p0.length c0p]) Try.func225 rfl rfl rfl (impl_spansOf.ok sb s2 no A0p c0p p0 HRp0 (Hp.own hH.bs) _ hu4) ?_)
 rintro _ s4 ⟨A5, c5, rfl, hD⟩
 replace hH := hH.back0 hD (Up.refl _ _ _)
 clear hD
 refine hc (o_func rfl rfl ?_)
 replace H := headE H
 obtain ⟨u6, hu6, H⟩ := H
 obtain ⟨F1, sx, hx, hC, hA, hB⟩ := hH.takeT [0] (by decide)
 dsimp only [addC, setC, rmC, selC, getC] at hA
 try dsimp only [putL, setL, evL, getL]
 refine hc (o_call (args := #[.slice A5 u4.length c5, .func (.func 226) #[] #[.pointer (some ⟨b2, 0, none⟩)]]) Try.func224 rfl rfl rfl (slices_ContainsFunc_impl_span_impl_span_impl_inSet_1.ok sx s4 F1 A5 c5 u4 b2 p1 (Ck.rdT hx (hC 1 (by decide)) rfl) hA _ hu6) ?_)
 rintro _ s6 ⟨rfl, hD⟩
 replace hH := hB _ _ _ inferInstance hD
 clear hD hA hB hx hC
 refine ag (HL_nil (hK3 _ _ ?_))
 dsimp only [putL, setL, evL, getL]
 refine HT_ret ?_
 exact hQr _ _ [.bool u6] _ ⟨rfl, trivial⟩ H ⟨rfl, hH.sel [] (by decide)⟩
def slices_Index_int_int.l1 (p0 : List (Int)) (p1 : Int) : Nat → Int → Option (Lo Unit Int)
 | 0, _ => none
 | kf + 1, x44 => if (decide (x44 < (p0.length : Int))) = true then ((rd? p0 x44).bind fun u62 => if (p1 == u62) = true then ((some x44).bind fun z => some (Lo.ret z)) else (slices_Index_int_int.l1 p0 p1 kf (IntKind.i64.wrap (x44 + 1)))) else (some (Lo.go ()))
def slices_Index_int_int.f (p0 : List (Int)) (p1 : Int) : Option Int := (slices_Index_int_int.l1 p0 p1 ((((p0.length : Int)) - (0)).toNat + 2) 0).bind fun (o : Lo Unit Int) => match o with | .go () => (some (-1)) | .ret z => some z
def slices_Index_int_int.post (sb s : St) (F0 : Fp) (r : Int) : Value → St → Prop := fun v s' => v = .int .i64 r ∧ Hp sb s F0 s' []
set_option maxRecDepth 100000 in
set_option maxHeartbeats 4000000 in
theorem slices_Index_int_int.ok (sb s : St) (F0 : Fp) (A0p : Option Addr) (c0p : Nat) (p0 : List (Int)) (p1 : Int) (HRp0 : Rd KI sb A0p c0p p0) (hH : Hp sb s F0 s []) (r : Int) (H : slices_Index_int_int.f p0 p1 = some r) : GCall Try.prog 227 #[.slice A0p p0.length c0p, .int .i64 p1] s (slices_Index_int_int.post sb s F0 r) := by
 refine GCall_ofr (slices_Index_int_int.post sb s F0) [.tmp 4] (ud [.slice A0p p0.length c0p, .int .i64 p1] 17) Try.func227 rfl rfl rfl fun w Q hQr hQn hQp => ?_
 replace H := topE H
 unfold slices_Index_int_int.f at H
 dsimp only [ud, un]
 refine sr fun K1 hK1 => ag (HL_nil (hK1 _ _ ?_))
 dsimp only [putL, setL, evL, getL]
 refine HT_seq_k fun K2 hK2 => sr fun K3 hK3 => mv (hc (o_len rfl Try.underlying24 (mv (HL_nil (hK3 _ _ ?_)))))
 dsimp only [putL, setL, evL, getL]
 refine joinH H fun G4 hG4 H => ?_
 refine HT_toK (fun l' s' => G4 (.go ()) = some r ∧ skim [] l' = ([], 20) ∧ Hp sb s F0 s' []) ?_ ?_
 ·intro K4 hK4
  refine HT_block ?_
  refine HT_loopK (fun kf l' s' => ∃ (x44 : Int), (slices_Index_int_int.l1 p0 p1 kf x44).bind G4 = some r ∧ skim [0, 0, 5, 0] l' = ([.slice A0p p0.length c0p, .int .i64 p1, .int .i64 (p0.length : Int), .int .i64 x44], 11) ∧ Hp sb s F0 s' []) ((((p0.length : Int)) - (0)).toNat + 2) ⟨0, H, rfl, hH⟩ ?_
  rintro kf l' s55 ⟨x44, H, hl, hH⟩ K55 hK55
  revert l'
  refine skA ?_
  dsimp only [Al, Sk]
  intros
  cases kf with
  | zero => simp [slices_Index_int_int.l1] at H
  | succ kf =>
   rw [slices_Index_int_int.l1] at H
   refine sr fun K56 hK56 => bn rfl rfl rfl (HL_nil (hK56 _ _ ?_))
   dsimp only [putL, setL, evL, getL]
   refine HT_seq_k fun K57 hK57 => ?_
   revert H
   refine ct rfl (fun hb58 H => ?_) (fun hb58 H => ?_)
   ·refine HT_skip (hK57 _ _ (HT_seq_k fun K59 hK59 => (HT_block (sr fun K60 hK60 => (mv (ag (HL_nil (hK60 _ _ ?_))))))))
    dsimp only [putL, setL, evL, getL]
    refine sr fun K61 hK61 => mv (mv (mv ?_))
    replace H := headE H
    obtain ⟨u62, hu62, H⟩ := H
    obtain ⟨b62, o62, cs62, hr62, hh62, hel62⟩ := Rd.elb HRp0 hu62
    obtain rfl := hr62
    try dsimp only [putL, setL, evL, getL]
    refine hc (hel62 s55 rfl rfl Try.underlying24 tI3 (hc (o_load' rfl Try.underlying3 rfl ((hh62 hH.bs.mono) 0 _ rfl) (bn rfl rfl rfl (HL_nil (hK61 _ _ ?_))))))
    dsimp only [putL, setL, evL, getL]
    revert H
    refine ct rfl (fun hb63 H => ?_) (fun hb63 H => ?_)
    ·refine sr fun K64 hK64 => mv (ag (HL_nil (hK64 _ _ ?_)))
     dsimp only [putL, setL, evL, getL]
     refine HT_ret ?_
     replace H := escH (fun z hz => hG4 _ hz) H
     exact hQr _ _ [.int .i64 x44] _ ⟨rfl, trivial⟩ H ⟨rfl, hH⟩
    ·refine HT_skip (hK59 _ _ ?_)
     refine HT_region ?_
     refine bn rfl rfl rfl (mv (HL_nil ?_))
     exact hK55 _ _ ⟨kf, Nat.lt_succ_self kf, IntKind.i64.wrap (x44 + 1), H, rfl, hH⟩
   ·refine HT_exit ?_
    exact hK4 _ _ ⟨H, rfl, hH⟩
 ·rintro l' s65 ⟨H, hl, hH⟩
  revert l'
  refine skA ?_
  dsimp only [Al, Sk]
  intros
  replace H := hG4 _ H
  try dsimp only at H
  refine hK2 _ _ ?_
  refine sr fun K66 hK66 => ag (HL_nil (hK66 _ _ ?_))
  dsimp only [putL, setL, evL, getL]
  refine HT_ret ?_
  exact hQr _ _ [.int .i64 (-1)] _ ⟨rfl, trivial⟩ H ⟨rfl, hH⟩
def slices_Contains_int_int.f (p0 : List (Int)) (p1 : Int) : Option Bool := (slices_Index_int_int.f p0 p1).bind fun u3 => some (decide (u3 ≥ 0))
def slices_Contains_int_int.post (sb s : St) (F0 : Fp) (r : Bool) : Value → St → Prop := fun v s' => v = .bool r ∧ Hp sb s F0 s' []
set_option maxRecDepth 100000 in
set_option maxHeartbeats 4000000 in
theorem slices_Contains_int_int.ok (sb s : St) (F0 : Fp) (A0p : Option Addr) (c0p : Nat) (p0 : List (Int)) (p1 : Int) (HRp0 : Rd KI sb A0p c0p p0) (hH : Hp sb s F0 s []) (r : Bool) (H : slices_Contains_int_int.f p0 p1 = some r) : GCall Try.prog 206 #[.slice A0p p0.length c0p, .int .i64 p1] s (slices_Contains_int_int.post sb s F0 r) := by
 refine GCall_ofr (slices_Contains_int_int.post sb s F0) [.tmp 4] (ud [.slice A0p p0.length c0p, .int .i64 p1] 7) Try.func206 rfl rfl rfl fun w Q hQr hQn hQp => ?_
 replace H := topE H
 unfold slices_Contains_int_int.f at H
 dsimp only [ud, un]
 refine sr fun K1 hK1 => ag (HL_nil (hK1 _ _ ?_))
 dsimp only [putL, setL, evL, getL]
 refine sr fun K2 hK2 => mv (mv ?_)
 replace H := headE H
 obtain ⟨u3, hu3, H⟩ := H
 refine hc (o_call (args := #[.slice A0p p0.length c0p, .int .i64 p1]) Try.func227 rfl rfl rfl (slices_Index_int_int.ok sb s no A0p c0p p0 p1 HRp0 (Hp.own hH.bs) _ hu3) ?_)
 rintro _ s3 ⟨rfl, hD⟩
 replace hH := hH.back0 hD (Up.refl _ _ _)
 clear hD
 try dsimp only [putL, setL, evL, getL]
 refine bn rfl rfl rfl (ag (HL_nil (hK2 _ _ ?_)))
 dsimp only [putL, setL, evL, getL]
 refine HT_ret ?_
 exact hQr _ _ [.bool (decide (u3 ≥ 0))] _ ⟨rfl, trivial⟩ H ⟨rfl, hH⟩
def impl_spanReader_take.l1 (p0_0_0 : List ((Int) × (List (Int)))) (p0_0_1 : List (List (Int))) (p0_0_2 : List (Int)) (p0_0_3 : List (List (List (Bool)))) (p3 : Int) (self : (List ((Int) × (List (Int)))) → (List (List (Int))) → (List (Int)) → (List (List (List (Bool)))) → (List ((Int) × (Int) × (Int))) → Int → Int → Int → Option (Bool × (List ((Int) × (Int) × (Int))))) (u26 : List (Int)) : Nat → Int → (List ((Int) × (Int) × (Int))) → Option (Lo (List ((Int) × (Int) × (Int))) (Bool × (List ((Int) × (Int) × (Int)))))
 | 0, _, _ => none
 | kf + 1, x259, x260 => if (decide (x259 < p3)) = true then ((impl_spanReader_first.f p0_0_0 p0_0_1 p0_0_2 p0_0_3 x260).bind fun u313 => (if (!u313.2.2.2) = true then (some (true, x260)) else ((impl_inRange.f u313.2.2.1 (IntKind.i64.wrap (x259 + 1)) p3).bind fun u346 => if (!u346) = true then (some (true, x260)) else ((rd? u26 0).bind fun u348 => (self p0_0_0 p0_0_1 p0_0_2 p0_0_3 x260 u348 x259 u313.2.2.1).bind fun u349 => some ((!u349.1), u349.2)))).bind fun (o : Bool × (List ((Int) × (Int) × (Int)))) => match o with | (x343, x344) => (if x343 = true then ((some (false, x344)).bind fun z => some (Lo.ret z)) else (impl_spanReader_take.l1 p0_0_0 p0_0_1 p0_0_2 p0_0_3 p3 self u26 kf u313.2.2.1 x344))) else (some (Lo.go x260))
def impl_spanReader_take.b (self : (List ((Int) × (List (Int)))) → (List (List (Int))) → (List (Int)) → (List (List (List (Bool)))) → (List ((Int) × (Int) × (Int))) → Int → Int → Int → Option (Bool × (List ((Int) × (Int) × (Int))))) (p0_0_0 : List ((Int) × (List (Int)))) (p0_0_1 : List (List (Int))) (p0_0_2 : List (Int)) (p0_0_3 : List (List (List (Bool)))) (p0_1 : List ((Int) × (Int) × (Int))) (p1 : Int) (p2 : Int) (p3 : Int) : Option (Bool × (List ((Int) × (Int) × (Int)))) := (impl_spanReader_first.f p0_0_0 p0_0_1 p0_0_2 p0_0_3 p0_1).bind fun u3 => (if (!u3.2.2.2) = true then (some true) else (some (!(u3.1 == p1 && (u3.2.1 == p2 && (u3.2.2.1 == p3 && true)))))).bind fun (o : Bool) => match o with | x17 => (if x17 = true then (some (false, p0_1)) else ((cut? p0_1 1 (p0_1.length : Int)).bind fun x23 => (rd? p0_0_1 p1).bind fun u26 => (rd? p0_0_0 p1).bind fun u30 => if (u30.1 == 1) = true then (some ((p2 == p3), x23)) else (if (u30.1 == 2) = true then (if (p3 == (IntKind.i64.wrap (p2 + 1))) = true then ((rd? p0_0_0 p1).bind fun u39 => (rd? p0_0_2 p2).bind fun u41 => (impl_inSet.f u39.2 u41).bind fun u42 => some (u42, x23)) else (some (false, x23))) else (if (u30.1 == 4) = true then ((impl_spanReader_first.f p0_0_0 p0_0_1 p0_0_2 p0_0_3 x23).bind fun u46 => if u46.2.2.2 = true then ((slices_Contains_int_int.f u26 u46.1).bind fun u51 => if u51 = true then ((self p0_0_0 p0_0_1 p0_0_2 p0_0_3 x23 u46.1 p2 p3).bind fun u53 => some (u53.1, u53.2)) else (some (false, x23))) else (some (false, x23))) else (if (u30.1 == 3) = true then ((impl_spanReader_first.f p0_0_0 p0_0_1 p0_0_2 p0_0_3 x23).bind fun u58 => if u58.2.2.2 = true then ((impl_inRange.f u58.2.2.1 p2 p3).bind fun u63 => if u63 = true then ((rd? u26 0).bind fun u65 => (self p0_0_0 p0_0_1 p0_0_2 p0_0_3 x23 u65 p2 u58.2.2.1).bind fun u66 => if u66.1 = true then ((rd? u26 1).bind fun u69 => (self p0_0_0 p0_0_1 p0_0_2 p0_0_3 u66.2 u69 u58.2.2.1 p3).bind fun u70 => some (u70.1, u70.2)) else (some (false, u66.2))) else (some (false, x23))) else (some (false, x23))) else ((impl_spanReader_take.l1 p0_0_0 p0_0_1 p0_0_2 p0_0_3 p3 self u26 (((p3) - (p2)).toNat + 2) p2 x23).bind fun (o : Lo (List ((Int) × (Int) × (Int))) (Bool × (List ((Int) × (Int) × (Int))))) => match o with | .go x213 => (some (true, x213)) | .ret z => some z))))))
def impl_spanReader_take.r : Nat → (List ((Int) × (List (Int)))) → (List (List (Int))) → (List (Int)) → (List (List (List (Bool)))) → (List ((Int) × (Int) × (Int))) → Int → Int → Int → Option (Bool × (List ((Int) × (Int) × (Int))))
 | 0, _, _, _, _, _, _, _, _ => none
 | kr + 1, p0_0_0, p0_0_1, p0_0_2, p0_0_3, p0_1, p1, p2, p3 => impl_spanReader_take.b (impl_spanReader_take.r kr) p0_0_0 p0_0_1 p0_0_2 p0_0_3 p0_1 p1 p2 p3
def impl_spanReader_take.f (p0_0_0 : List ((Int) × (List (Int)))) (p0_0_1 : List (List (Int))) (p0_0_2 : List (Int)) (p0_0_3 : List (List (List (Bool)))) (p0_1 : List ((Int) × (Int) × (Int))) (p1 : Int) (p2 : Int) (p3 : Int) : Option (Bool × (List ((Int) × (Int) × (Int)))) := impl_spanReader_take.r (p1.toNat + 2) p0_0_0 p0_0_1 p0_0_2 p0_0_3 p0_1 p1 p2 p3
def impl_spanReader_take.post (sb s : St) (F0 : Fp) (bp0 : Nat) (bp0_0 : Nat) (A0_0_0p : Option Addr) (c0_0_0p : Nat) (p0_0_0 : List ((Int) × (List (Int)))) (A0_0_1p : Option Addr) (c0_0_1p : Nat) (p0_0_1 : List (List (Int))) (A0_0_2p : Option Addr) (c0_0_2p : Nat) (p0_0_2 : List (Int)) (A0_0_3p : Option Addr) (c0_0_3p : Nat) (p0_0_3 : List (List (List (Bool)))) (r : Bool × (List ((Int) × (Int) × (Int)))) : Value → St → Prop := fun v s' => ∃ (A1 : Option Addr) (c1 : Nat), v = .bool r.1 ∧ Hp sb s F0 s' [Ck.ov bp0 [.pointer (some ⟨bp0_0, 0, none⟩), .slice A1 r.2.length c1] 167, Ck.ov bp0_0 [.slice A0_0_0p p0_0_0.length c0_0_0p, .slice A0_0_1p p0_0_1.length c0_0_1p, .slice A0_0_2p p0_0_2.length c0_0_2p, .slice A0_0_3p p0_0_3.length c0_0_3p] 165] ∧ Rd KS138 sb A1 c1 r.2
set_option maxRecDepth 100000 in
set_option maxHeartbeats 4000000 in
theorem impl_spanReader_take.okb (self : (List ((Int) × (List (Int)))) → (List (List (Int))) → (List (Int)) → (List (List (List (Bool)))) → (List ((Int) × (Int) × (Int))) → Int → Int → Int → Option (Bool × (List ((Int) × (Int) × (Int))))) (ih : ∀ (sb s : St) (F0 : Fp) (bp0 : Nat) (bp0_0 : Nat) (A0_0_0p : Option Addr) (c0_0_0p : Nat) (p0_0_0 : List ((Int) × (List (Int)))) (A0_0_1p : Option Addr) (c0_0_1p : Nat) (p0_0_1 : List (List (Int))) (A0_0_2p : Option Addr) (c0_0_2p : Nat) (p0_0_2 : List (Int)) (A0_0_3p : Option Addr) (c0_0_3p : Nat) (p0_0_3 : List (List (List (Bool)))) (A0_1p : Option Addr) (c0_1p : Nat) (p0_1 : List ((Int) × (Int) × (Int))) (p1 : Int) (p2 : Int) (p3 : Int) (HRp0_0_0 : Rd KS139 sb A0_0_0p c0_0_0p p0_0_0) (HRp0_0_1 : Rd (Kd.sl KI) sb A0_0_1p c0_0_1p p0_0_1) (HRp0_0_2 : Rd KI sb A0_0_2p c0_0_2p p0_0_2) (HRp0_0_3 : Rd (Kd.sl (Kd.sl Kd.bool)) sb A0_0_3p c0_0_3p p0_0_3) (HRp0_1 : Rd KS138 sb A0_1p c0_1p p0_1) (hH : Hp sb s F0 s [Ck.ov bp0 [.pointer (some ⟨bp0_0, 0, none⟩), .slice A0_1p p0_1.length c0_1p] 167, Ck.ov bp0_0 [.slice A0_0_0p p0_0_0.length c0_0_0p, .slice A0_0_1p p0_0_1.length c0_0_1p, .slice A0_0_2p p0_0_2.length c0_0_2p, .slice A0_0_3p p0_0_3.length c0_0_3p] 165]) (r : Bool × (List ((Int) × (Int) × (Int)))) (H : self p0_0_0 p0_0_1 p0_0_2 p0_0_3 p0_1 p1 p2 p3 = some r), GCall Try.prog 156 #[.pointer (some ⟨bp0, 0, none⟩), .int .i64 p1, .int .i64 p2, .int .i64 p3] s (impl_spanReader_take.post sb s F0 bp0 bp0_0 A0_0_0p c0_0_0p p0_0_0 A0_0_1p c0_0_1p p0_0_1 A0_0_2p c0_0_2p p0_0_2 A0_0_3p c0_0_3p p0_0_3 r)) (sb s : St) (F0 : Fp) (bp0 : Nat) (bp0_0 : Nat) (A0_0_0p : Option Addr) (c0_0_0p : Nat) (p0_0_0 : List ((Int) × (List (Int)))) (A0_0_1p : Option Addr) (c0_0_1p : Nat) (p0_0_1 : List (List (Int))) (A0_0_2p : Option Addr) (c0_0_2p : Nat) (p0_0_2 : List (Int)) (A0_0_3p : Option Addr) (c0_0_3p : Nat) (p0_0_3 : List (List (List (Bool)))) (A0_1p : Option Addr) (c0_1p : Nat) (p0_1 : List ((Int) × (Int) × (Int))) (p1 : Int) (p2 : Int) (p3 : Int) (HRp0_0_0 : Rd KS139 sb A0_0_0p c0_0_0p p0_0_0) (HRp0_0_1 : Rd (Kd.sl KI) sb A0_0_1p c0_0_1p p0_0_1) (HRp0_0_2 : Rd KI sb A0_0_2p c0_0_2p p0_0_2) (HRp0_0_3 : Rd (Kd.sl (Kd.sl Kd.bool)) sb A0_0_3p c0_0_3p p0_0_3) (HRp0_1 : Rd KS138 sb A0_1p c0_1p p0_1) (hH : Hp sb s F0 s [Ck.ov bp0 [.pointer (some ⟨bp0_0, 0, none⟩), .slice A0_1p p0_1.length c0_1p] 167, Ck.ov bp0_0 [.slice A0_0_0p p0_0_0.length c0_0_0p, .slice A0_0_1p p0_0_1.length c0_0_1p, .slice A0_0_2p p0_0_2.length c0_0_2p, .slice A0_0_3p p0_0_3.length c0_0_3p] 165]) (r : Bool × (List ((Int) × (Int) × (Int)))) (H : impl_spanReader_take.b self p0_0_0 p0_0_1 p0_0_2 p0_0_3 p0_1 p1 p2 p3 = some r) : GCall Try.prog 156 #[.pointer (some ⟨bp0, 0, none⟩), .int .i64 p1, .int .i64 p2, .int .i64 p3] s (impl_spanReader_take.post sb s F0 bp0 bp0_0 A0_0_0p c0_0_0p p0_0_0 A0_0_1p c0_0_1p p0_0_1 A0_0_2p c0_0_2p p0_0_2 A0_0_3p c0_0_3p p0_0_3 r) := by
 refine GCall_ofr (impl_spanReader_take.post sb s F0 bp0 bp0_0 A0_0_0p c0_0_0p p0_0_0 A0_0_1p c0_0_1p p0_0_1 A0_0_2p c0_0_2p p0_0_2 A0_0_3p c0_0_3p p0_0_3) [.tmp 8] (ud [.pointer (some ⟨bp0, 0, none⟩), .int .i64 p1, .int .i64 p2, .int .i64 p3] 182) Try.func156 rfl rfl rfl fun w Q hQr hQn hQp => ?_
 replace H := topE H
 unfold impl_spanReader_take.b at H
 dsimp only [ud, un]
 refine sr fun K1 hK1 => ag (HL_nil (hK1 _ _ ?_))
 dsimp only [putL, setL, evL, getL]
 refine sr fun K2 hK2 => mv ?_
 replace H := headE H
 obtain ⟨u3, hu3, H⟩ := H
 obtain ⟨F1, hA, hB⟩ := hH.take [0, 1] (by decide)
 dsimp only [addC, setC, rmC, selC, getC] at hA
 refine hc (o_call (args := #[.pointer (some ⟨bp0, 0, none⟩)]) Try.func204 rfl rfl rfl (impl_spanReader_first.ok sb s F1 bp0 bp0_0 A0_0_0p c0_0_0p p0_0_0 A0_0_1p c0_0_1p p0_0_1 A0_0_2p c0_0_2p p0_0_2 A0_0_3p c0_0_3p p0_0_3 A0_1p c0_1p p0_1 HRp0_0_0 HRp0_0_1 HRp0_0_2 HRp0_0_3 HRp0_1 hA _ hu3) ?_)
 rintro _ s3 ⟨rfl, hD⟩
 replace hH := hB _ _ _ (Up.refl _ _ _) hD
 clear hD hA hB
 refine mv ?_
 dsimp only [putL, setL, evL, getL]
 refine hc (o_extract rfl rfl (hc (o_extract rfl rfl (hc (o_allocH hH tI138 ?_)))))
 clear hH
 intro b4 s4 hH _
 try dsimp only [putL, setL, evL, getL]
 refine hc (o_stvH (vs := [.int .i64 u3.1, .int .i64 u3.2.1, .int .i64 u3.2.2.1]) (us' := [.int .i64 u3.1, .int .i64 u3.2.1, .int .i64 u3.2.2.1]) hH 4 rfl rfl rfl rfl rfl tI138 rfl (List.cons_ne_nil _ _) rfl rfl rfl ?_)
 clear hH
 intro s5 hH
 refine ag (HL_nil (hK2 _ _ ?_))
 dsimp only [putL, setL, evL, getL]
 refine HT_seq_k fun K14 hK14 => ?_
 refine joinH H fun G15 hG15 H => ?_
 refine HT_joinK (fun l' s' => ∃ (x17 : Bool), G15 x17 = some r ∧ skim [0, 0, 0, 0, 28] l' = ([.pointer (some ⟨bp0, 0, none⟩), .int .i64 p1, .int .i64 p2, .int .i64 p3, .bool x17], 154) ∧ Hp sb s F0 s' [Ck.ov bp0 [.pointer (some ⟨bp0_0, 0, none⟩), .slice A0_1p p0_1.length c0_1p] 167, Ck.ov bp0_0 [.slice A0_0_0p p0_0_0.length c0_0_0p, .slice A0_0_1p p0_0_1.length c0_0_1p, .slice A0_0_2p p0_0_2.length c0_0_2p, .slice A0_0_3p p0_0_3.length c0_0_3p] 165]) ?_ ?_
 ·intro K15 hK15
  refine HT_region ?_
  refine mv (hc (o_not rfl (mv ?_)))
  revert H
  refine it (fun hb18 H => ?_) (fun hb18 H => ?_)
  ·refine wf rfl rfl rfl rfl hb18 ?_
   dsimp only [putL, setL, evL, getL]
   refine wf rfl rfl rfl rfl hb18 (wf rfl rfl rfl rfl hb18 (wf rfl rfl rfl rfl hb18 ?_))
   dsimp only [putL, setL, evL, getL]
   refine wf rfl rfl rfl rfl hb18 (wf rfl rfl rfl rfl hb18 (hc (o_pickT rfl hb18 (HL_nil ?_))))
   exact hK15 _ _ ⟨true, H, rfl, hH.sel [2, 3] (by decide)⟩
  ·refine wt rfl rfl rfl rfl hb18 (o_loads' [.int .i64 u3.1, .int .i64 u3.2.1, .int .i64 u3.2.2.1] rfl Try.underlying138 rfl tI138 rfl (hH.partv 4 rfl (0) [.int .i64 u3.1, .int .i64 u3.2.1, .int .i64 u3.2.2.1] rfl) ?_)
   dsimp only [putL, setL, evL, getL]
   refine wt rfl rfl rfl rfl hb18 (o_move (wt rfl rfl rfl rfl hb18 (o_move (wt rfl rfl rfl rfl hb18 (o_move ?_)))))
   dsimp only [putL, setL, evL, getL]
   refine wt rfl rfl rfl rfl hb18 (o_build (pl := [(0, 1), (1, 1), (2, 1)]) (cs := #[.int .i64 p1, .int .i64 p2, .int .i64 p3]) Try.underlying138 tI138 (by kernel_rfl) (by kernel_rfl) rfl (wt rfl rfl rfl rfl hb18 (o_neS (b := (u3.1 == p1 && (u3.2.1 == p2 && (u3.2.2.1 == p3 && true)))) rfl rfl Try.underlying138 (by kernel_rfl) (by kernel_rfl) (EqFs.cons (by decide) rfl rfl (EqC.int Try.underlying3) (EqFs.cons (by decide) rfl rfl (EqC.int Try.underlying3) (EqFs.cons (by decide) rfl rfl (EqC.int Try.underlying3) rfl))) ?_)))
   refine hc (o_pickF rfl hb18 (HL_nil ?_))
   exact hK15 _ _ ⟨!(u3.1 == p1 && (u3.2.1 == p2 && (u3.2.2.1 == p3 && true))), H, rfl, hH.sel [2, 3] (by decide)⟩
 ·rintro l' s19 ⟨x17, H, hl, hH⟩
  revert l'
  refine skA ?_
  dsimp only [Al, Sk]
  intros
  replace H := hG15 _ H
  try dsimp only at H
  revert H
  refine ct rfl (fun hb20 H => ?_) (fun hb20 H => ?_)
  ·refine sr fun K21 hK21 => ?_
   try dsimp only [putL, setL, evL, getL]
   refine ag (HL_nil (hK21 _ _ ?_))
   dsimp only [putL, setL, evL, getL]
   refine HT_ret ?_
   exact hQr _ _ [.bool false] _ ⟨rfl, trivial⟩ H ⟨A0_1p, c0_1p, rfl, hH, HRp0_1⟩
  ·refine HT_skip (hK14 _ _ (sr fun K22 hK22 => (mv (mv (hc (o_nilck rfl ?_))))))
   dsimp only [putL, setL, evL, getL]
   refine hc (o_faddr' (ft := 54) (off := 1) rfl Try.underlying167 rfl tI54 (by decide) (hc (o_load' rfl Try.underlying54 rfl (hH.hasv 0 rfl rfl) ?_)))
   replace H := headE H
   obtain ⟨x23, hx23, H⟩ := H
   refine hc (o_cutA (xs := p0_1) (kl := .i64) (kh := .i64) (L := 1) (H := (p0_1.length : Int)) rfl rfl rfl Try.underlying54 tI138 HRp0_1.1 hx23 ?_)
   have D23 := HRp0_1.cut hx23
   try dsimp only [putL, setL, evL, getL]
   refine hc (o_nilck rfl (hc (o_faddr' (ft := 54) (off := 1) rfl Try.underlying167 rfl tI54 (by decide) (hc (o_stvH (vs := [.slice (cutA A0_1p c0_1p (Int.toNat 1) (Kd.sz KS138)) x23.length (c0_1p - Int.toNat 1)]) (us' := [.pointer (some ⟨bp0_0, 0, none⟩), .slice (cutA A0_1p c0_1p (Int.toNat 1) (Kd.sz KS138)) x23.length (c0_1p - Int.toNat 1)]) hH 0 rfl rfl rfl rfl rfl tI54 rfl (List.cons_ne_nil _ _) rfl rfl rfl ?_)))))
   clear hH
   intro s24 hH
   refine HL_nil (hK22 _ _ ?_)
   try dsimp only [putL, setL, evL, getL]
   refine sr fun K25 hK25 => mv (hc (o_nilck rfl (hc (o_faddr' (ft := 162) (off := 0) rfl Try.underlying167 rfl tI162 (by decide) ?_))))
   dsimp only [putL, setL, evL, getL]
   refine hc (o_load' rfl Try.underlying162 rfl (hH.hasv 0 rfl rfl) (hc (o_nilck rfl (hc (o_faddr' (ft := 105) (off := 1) rfl Try.underlying165 rfl tI105 (by decide) ?_)))))
   dsimp only [putL, setL, evL, getL]
   refine hc (o_load' rfl Try.underlying105 rfl (hH.hasv 1 rfl rfl) (mv ?_))
   replace H := headE H
   obtain ⟨u26, hu26, H⟩ := H
   obtain ⟨b26, o26, cs26, hr26, hh26, hel26⟩ := Rd.elb HRp0_0_1 hu26
   obtain ⟨A27, c27, rfl, D27⟩ := hr26
   refine hc (hel26 s24 rfl rfl Try.underlying105 tI24 ?_)
   dsimp only [putL, setL, evL, getL]
   refine hc (o_load' rfl Try.underlying24 rfl ((hh26 hH.bs.mono) 0 _ rfl) (ag (HL_nil (hK25 _ _ ?_))))
   dsimp only [putL, setL, evL, getL]
   refine HT_seq_k fun K28 hK28 => sr fun K29 hK29 => mv (hc (o_nilck rfl (hc (o_faddr' (ft := 162) (off := 0) rfl Try.underlying167 rfl tI162 (by decide) ?_))))
   dsimp only [putL, setL, evL, getL]
   refine hc (o_load' rfl Try.underlying162 rfl (hH.hasv 0 rfl rfl) (hc (o_nilck rfl (hc (o_faddr' (ft := 57) (off := 0) rfl Try.underlying165 rfl tI57 (by decide) ?_)))))
   dsimp only [putL, setL, evL, getL]
   refine hc (o_load' rfl Try.underlying57 rfl (hH.hasv 1 rfl rfl) (mv ?_))
   replace H := headE H
   obtain ⟨u30, hu30, H⟩ := H
   obtain ⟨b30, o30, cs30, hr30, hh30, hel30⟩ := Rd.elb HRp0_0_0 hu30
   obtain ⟨_, _, rfl, rfl, ⟨A31, c31, rfl, D31⟩⟩ := hr30
   refine hc (hel30 s24 rfl rfl Try.underlying57 tI139 ?_)
   dsimp only [putL, setL, evL, getL]
   refine hc (o_faddr' (ft := 3) (off := 0) rfl Try.underlying139 rfl tI3 (by decide) (hc (o_load' rfl Try.underlying3 rfl ((hh30 hH.bs.mono) 0 _ rfl) (HL_nil (hK29 _ _ ?_)))))
   dsimp only [putL, setL, evL, getL]
   refine HT_block (sr fun K32 hK32 => (bn rfl rfl rfl (ag (HL_nil (hK32 _ _ ?_)))))
   dsimp only [putL, setL, evL, getL]
   revert H
   refine ct rfl (fun hb33 H => ?_) (fun hb33 H => ?_)
   ·refine sr fun K34 hK34 => mv (mv (bn rfl rfl rfl ?_))
    dsimp only [putL, setL, evL, getL]
    refine ag (HL_nil (hK34 _ _ ?_))
    dsimp only [putL, setL, evL, getL]
    refine HT_ret ?_
    exact hQr _ _ [.bool (p2 == p3)] _ ⟨rfl, trivial⟩ H ⟨(cutA A0_1p c0_1p (Int.toNat 1) (Kd.sz KS138)), c0_1p - Int.toNat 1, rfl, hH, D23⟩
   ·refine sr fun K35 hK35 => bn rfl rfl rfl (ag (HL_nil (hK35 _ _ ?_)))
    dsimp only [putL, setL, evL, getL]
    revert H
    refine ct rfl (fun hb36 H => ?_) (fun hb36 H => ?_)
    ·refine sx hMix fun K37 hK37 => ?_
     refine HX_lim (R := fun _ => True) (k := 0) (fun s' => Gro s24 s') 30 ?_
     have hR := Gro.refl s24
     have hH0 := hH
     refine HK_readP 0 (v := .int .i64 p3) rfl (by kernel_rfl) hQp rfl (fun s' K hK => o_move hK) rfl rfl (fun _ => hR) ?_
     refine HK_readP 1 (v := .int .i64 p2) rfl (by kernel_rfl) hQp rfl (fun s' K hK => o_move hK) rfl rfl (fun _ => hR) ?_
     try dsimp only [putL, setL, evL, getL]
     refine HK_readP 2 (v := .int .i64 (IntKind.i64.wrap (p2 + 1))) rfl (by kernel_rfl) hQp rfl (fun s' K hK => o_bin rfl rfl rfl hK) rfl rfl (fun _ => hR) ?_
     refine HK_readP 3 (v := .bool (p3 == (IntKind.i64.wrap (p2 + 1)))) rfl (by kernel_rfl) hQp rfl (fun s' K hK => o_bin rfl rfl rfl hK) rfl rfl (fun _ => hR) ?_
     refine HK_readP 4 (v := .bool (p3 == (IntKind.i64.wrap (p2 + 1)))) rfl (by kernel_rfl) hQp rfl (fun s' K hK => o_move hK) rfl rfl (fun _ => hR) ?_
     revert H
     refine it (fun hb38 H => ?_) (fun hb38 H => ?_)
     ·refine HK_readP 5 (v := .pointer (some ⟨bp0, 0, none⟩)) rfl (by kernel_rfl) hQp (wantT (j := 4) (b := true) (t := 73) (c := p3 == (IntKind.i64.wrap (p2 + 1))) rfl rfl rfl rfl hb38) (fun s' K hK => o_move hK) rfl rfl (fun _ => hR) ?_
      try dsimp only [putL, setL, evL, getL]
      refine HK_readP 6 (v := .pointer (some ⟨bp0, 0, none⟩)) rfl (by kernel_rfl) hQp (wantT (j := 4) (b := true) (t := 73) (c := p3 == (IntKind.i64.wrap (p2 + 1))) rfl rfl rfl rfl hb38) (fun s' K hK => o_nilck rfl hK) rfl rfl (fun _ => hR) ?_
      refine HK_readP 7 (v := .pointer (some ⟨bp0, 0 + 0, none⟩)) rfl (by kernel_rfl) hQp (wantT (j := 4) (b := true) (t := 73) (c := p3 == (IntKind.i64.wrap (p2 + 1))) rfl rfl rfl rfl hb38) (fun s' K hK => o_faddr' (ft := 162) (off := 0) rfl Try.underlying167 rfl tI162 (by decide) hK) rfl rfl (fun _ => hR) ?_
      refine HK_read 8 (v := .pointer (some ⟨bp0_0, 0, none⟩)) rfl (by kernel_rfl) hQp (wantT (j := 4) (b := true) (t := 73) (c := p3 == (IntKind.i64.wrap (p2 + 1))) rfl rfl rfl rfl hb38) (fun s' hR' K hK => o_load' rfl Try.underlying162 rfl (has_gro hR' (hH0.hasv 0 rfl rfl)) hK) rfl rfl hR ?_
      try dsimp only [putL, setL, evL, getL]
      refine HK_readP 9 (v := .pointer (some ⟨bp0_0, 0, none⟩)) rfl (by kernel_rfl) hQp (wantT (j := 4) (b := true) (t := 73) (c := p3 == (IntKind.i64.wrap (p2 + 1))) rfl rfl rfl rfl hb38) (fun s' K hK => o_nilck rfl hK) rfl rfl (fun _ => hR) ?_
      refine HK_readP 10 (v := .pointer (some ⟨bp0_0, 0 + 0, none⟩)) rfl (by kernel_rfl) hQp (wantT (j := 4) (b := true) (t := 73) (c := p3 == (IntKind.i64.wrap (p2 + 1))) rfl rfl rfl rfl hb38) (fun s' K hK => o_faddr' (ft := 57) (off := 0) rfl Try.underlying165 rfl tI57 (by decide) hK) rfl rfl (fun _ => hR) ?_
      refine HK_read 11 (v := .slice A0_0_0p p0_0_0.length c0_0_0p) rfl (by kernel_rfl) hQp (wantT (j := 4) (b := true) (t := 73) (c := p3 == (IntKind.i64.wrap (p2 + 1))) rfl rfl rfl rfl hb38) (fun s' hR' K hK => o_load' rfl Try.underlying57 rfl (has_gro hR' (hH0.hasv 1 rfl rfl)) hK) rfl rfl hR ?_
      try dsimp only [putL, setL, evL, getL]
      refine HK_readP 12 (v := .int .i64 p1) rfl (by kernel_rfl) hQp (wantT (j := 4) (b := true) (t := 73) (c := p3 == (IntKind.i64.wrap (p2 + 1))) rfl rfl rfl rfl hb38) (fun s' K hK => o_move hK) rfl rfl (fun _ => hR) ?_
      replace H := headE H
      obtain ⟨u39, hu39, H⟩ := H
      obtain ⟨b39, o39, cs39, hr39, hh39, hel39⟩ := Rd.elb HRp0_0_0 hu39
      obtain ⟨_, _, rfl, rfl, ⟨A40, c40, rfl, D40⟩⟩ := hr39
      refine HK_readP 13 (v := .pointer (some ⟨b39, o39, none⟩)) rfl (by kernel_rfl) hQp (wantT (j := 4) (b := true) (t := 73) (c := p3 == (IntKind.i64.wrap (p2 + 1))) rfl rfl rfl rfl hb38) (fun s' K hK => hel39 s' rfl rfl Try.underlying57 tI139 hK) rfl rfl (fun _ => hR) ?_
      refine HK_readP 14 (v := .pointer (some ⟨b39, o39 + 1, none⟩)) rfl (by kernel_rfl) hQp (wantT (j := 4) (b := true) (t := 73) (c := p3 == (IntKind.i64.wrap (p2 + 1))) rfl rfl rfl rfl hb38) (fun s' K hK => o_faddr' (ft := 24) (off := 1) rfl Try.underlying139 rfl tI24 (by decide) hK) rfl rfl (fun _ => hR) ?_
      try dsimp only [putL, setL, evL, getL]
      refine HK_read 15 (v := .slice A40 u39.2.length c40) rfl (by kernel_rfl) hQp (wantT (j := 4) (b := true) (t := 73) (c := p3 == (IntKind.i64.wrap (p2 + 1))) rfl rfl rfl rfl hb38) (fun s' hR' K hK => o_load' rfl Try.underlying24 rfl ((hh39 (hH0.bs.mono.trans hR'.mono)) 1 _ rfl) hK) rfl rfl hR ?_
      refine HK_readP 16 (v := .pointer (some ⟨bp0, 0, none⟩)) rfl (by kernel_rfl) hQp (wantT (j := 4) (b := true) (t := 73) (c := p3 == (IntKind.i64.wrap (p2 + 1))) rfl rfl rfl rfl hb38) (fun s' K hK => o_move hK) rfl rfl (fun _ => hR) ?_
      refine HK_readP 17 (v := .pointer (some ⟨bp0, 0, none⟩)) rfl (by kernel_rfl) hQp (wantT (j := 4) (b := true) (t := 73) (c := p3 == (IntKind.i64.wrap (p2 + 1))) rfl rfl rfl rfl hb38) (fun s' K hK => o_nilck rfl hK) rfl rfl (fun _ => hR) ?_
      try dsimp only [putL, setL, evL, getL]
      refine HK_readP 18 (v := .pointer (some ⟨bp0, 0 + 0, none⟩)) rfl (by kernel_rfl) hQp (wantT (j := 4) (b := true) (t := 73) (c := p3 == (IntKind.i64.wrap (p2 + 1))) rfl rfl rfl rfl hb38) (fun s' K hK => o_faddr' (ft := 162) (off := 0) rfl Try.underlying167 rfl tI162 (by decide) hK) rfl rfl (fun _ => hR) ?_
      refine HK_read 19 (v := .pointer (some ⟨bp0_0, 0, none⟩)) rfl (by kernel_rfl) hQp (wantT (j := 4) (b := true) (t := 73) (c := p3 == (IntKind.i64.wrap (p2 + 1))) rfl rfl rfl rfl hb38) (fun s' hR' K hK => o_load' rfl Try.underlying162 rfl (has_gro hR' (hH0.hasv 0 rfl rfl)) hK) rfl rfl hR ?_
      refine HK_readP 20 (v := .pointer (some ⟨bp0_0, 0, none⟩)) rfl (by kernel_rfl) hQp (wantT (j := 4) (b := true) (t := 73) (c := p3 == (IntKind.i64.wrap (p2 + 1))) rfl rfl rfl rfl hb38) (fun s' K hK => o_nilck rfl hK) rfl rfl (fun _ => hR) ?_
      try dsimp only [putL, setL, evL, getL]
      refine HK_readP 21 (v := .pointer (some ⟨bp0_0, 0 + 2, none⟩)) rfl (by kernel_rfl) hQp (wantT (j := 4) (b := true) (t := 73) (c := p3 == (IntKind.i64.wrap (p2 + 1))) rfl rfl rfl rfl hb38) (fun s' K hK => o_faddr' (ft := 24) (off := 2) rfl Try.underlying165 rfl tI24 (by decide) hK) rfl rfl (fun _ => hR) ?_
      refine HK_read 22 (v := .slice A0_0_2p p0_0_2.length c0_0_2p) rfl (by kernel_rfl) hQp (wantT (j := 4) (b := true) (t := 73) (c := p3 == (IntKind.i64.wrap (p2 + 1))) rfl rfl rfl rfl hb38) (fun s' hR' K hK => o_load' rfl Try.underlying24 rfl (has_gro hR' (hH0.hasv 1 rfl rfl)) hK) rfl rfl hR ?_
      refine HK_readP 23 (v := .int .i64 p2) rfl (by kernel_rfl) hQp (wantT (j := 4) (b := true) (t := 73) (c := p3 == (IntKind.i64.wrap (p2 + 1))) rfl rfl rfl rfl hb38) (fun s' K hK => o_move hK) rfl rfl (fun _ => hR) ?_
      replace H := headE H
      obtain ⟨u41, hu41, H⟩ := H
      obtain ⟨b41, o41, cs41, hr41, hh41, hel41⟩ := Rd.elb HRp0_0_2 hu41
      obtain rfl := hr41
      try dsimp only [putL, setL, evL, getL]
      refine HK_readP 24 (v := .pointer (some ⟨b41, o41, none⟩)) rfl (by kernel_rfl) hQp (wantT (j := 4) (b := true) (t := 73) (c := p3 == (IntKind.i64.wrap (p2 + 1))) rfl rfl rfl rfl hb38) (fun s' K hK => hel41 s' rfl rfl Try.underlying24 tI3 hK) rfl rfl (fun _ => hR) ?_
      refine HK_read 25 (v := .int .i64 u41) rfl (by kernel_rfl) hQp (wantT (j := 4) (b := true) (t := 73) (c := p3 == (IntKind.i64.wrap (p2 + 1))) rfl rfl rfl rfl hb38) (fun s' hR' K hK => o_load' rfl Try.underlying3 rfl ((hh41 (hH0.bs.mono.trans hR'.mono)) 0 _ rfl) hK) rfl rfl hR ?_
      refine HK_more [26] (by kernel_rfl) rfl (fun _ => hR) ⟨⟨_, rfl, Or.inl ⟨(wantT (j := 4) (b := true) (t := 73) (c := p3 == (IntKind.i64.wrap (p2 + 1))) rfl rfl rfl rfl hb38), ?_⟩⟩, trivial⟩
      replace H := headE H
      obtain ⟨u42, hu42, H⟩ := H
      skip
      refine o_call (args := #[.slice A40 u39.2.length c40, .int .i64 u41]) Try.func205 rfl rfl rfl (impl_inSet.ok sb s24 no A40 c40 u39.2 u41 D40 (Hp.own hH.bs) _ hu42) ?_
      rintro _ s42 ⟨rfl, hD⟩
      replace hR := hR.trans hD.gro
      replace hH := hH.back0 hD (Up.refl _ _ _)
      clear hD
      try dsimp only [putL, setL, evL, getL]
      refine HK_readP 27 (v := .bool u42) rfl (by kernel_rfl) hQp rfl (fun s' K hK => o_pickT rfl hb38 hK) rfl rfl (fun _ => hR) ?_
      refine HK_more [28] (by kernel_rfl) rfl (fun _ => hR) ⟨⟨_, rfl, Or.inl ⟨rfl, ?_⟩⟩, trivial⟩
      skip
      refine o_assign ?_
      refine HK_done (fun _ => hR) (by kernel_rfl) ?_
      refine hK37 _ _ ?_
      try dsimp only [putL, setL, evL, getL]
      refine HT_ret ?_
      exact hQr _ _ [.bool u42] _ ⟨rfl, trivial⟩ H ⟨(cutA A0_1p c0_1p (Int.toNat 1) (Kd.sz KS138)), c0_1p - Int.toNat 1, rfl, hH, D23⟩
     ·refine HK_passP 5 rfl (by kernel_rfl) (fun c l s h => hQp c l s h) ?_ (fun _ => hR) ?_
      ·exact wantF (j := 4) (b := true) (t := 73) (c := p3 == (IntKind.i64.wrap (p2 + 1))) rfl rfl rfl rfl hb38
      refine HK_passP 6 rfl (by kernel_rfl) (fun c l s h => hQp c l s h) ?_ (fun _ => hR) ?_
      ·exact wantF (j := 4) (b := true) (t := 73) (c := p3 == (IntKind.i64.wrap (p2 + 1))) rfl rfl rfl rfl hb38
      refine HK_passP 7 rfl (by kernel_rfl) (fun c l s h => hQp c l s h) ?_ (fun _ => hR) ?_
      ·exact wantF (j := 4) (b := true) (t := 73) (c := p3 == (IntKind.i64.wrap (p2 + 1))) rfl rfl rfl rfl hb38
      try dsimp only [putL, setL, evL, getL]
      refine HK_passP 8 rfl (by kernel_rfl) (fun c l s h => hQp c l s h) ?_ (fun _ => hR) ?_
      ·exact wantF (j := 4) (b := true) (t := 73) (c := p3 == (IntKind.i64.wrap (p2 + 1))) rfl rfl rfl rfl hb38
      refine HK_passP 9 rfl (by kernel_rfl) (fun c l s h => hQp c l s h) ?_ (fun _ => hR) ?_
      ·exact wantF (j := 4) (b := true) (t := 73) (c := p3 == (IntKind.i64.wrap (p2 + 1))) rfl rfl rfl rfl hb38
      refine HK_passP 10 rfl (by kernel_rfl) (fun c l s h => hQp c l s h) ?_ (fun _ => hR) ?_
      ·exact wantF (j := 4) (b := true) (t := 73) (c := p3 == (IntKind.i64.wrap (p2 + 1))) rfl rfl rfl rfl hb38
      try dsimp only [putL, setL, evL, getL]
      refine HK_passP 11 rfl (by kernel_rfl) (fun c l s h => hQp c l s h) ?_ (fun _ => hR) ?_
      ·exact wantF (j := 4) (b := true) (t := 73) (c := p3 == (IntKind.i64.wrap (p2 + 1))) rfl rfl rfl rfl hb38
      refine HK_passP 12 rfl (by kernel_rfl) (fun c l s h => hQp c l s h) ?_ (fun _ => hR) ?_
      ·exact wantF (j := 4) (b := true) (t := 73) (c := p3 == (IntKind.i64.wrap (p2 + 1))) rfl rfl rfl rfl hb38
      refine HK_passP 13 rfl (by kernel_rfl) (fun c l s h => hQp c l s h) ?_ (fun _ => hR) ?_
      ·exact wantF (j := 4) (b := true) (t := 73) (c := p3 == (IntKind.i64.wrap (p2 + 1))) rfl rfl rfl rfl hb38
      try dsimp only [putL, setL, evL, getL]
      refine HK_passP 14 rfl (by kernel_rfl) (fun c l s h => hQp c l s h) ?_ (fun _ => hR) ?_
      ·exact wantF (j := 4) (b := true) (t := 73) (c := p3 == (IntKind.i64.wrap (p2 + 1))) rfl rfl rfl rfl hb38
      refine HK_passP 15 rfl (by kernel_rfl) (fun c l s h => hQp c l s h) ?_ (fun _ => hR) ?_
      ·exact wantF (j := 4) (b := true) (t := 73) (c := p3 == (IntKind.i64.wrap (p2 + 1))) rfl rfl rfl rfl hb38
      refine HK_passP 16 rfl (by kernel_rfl) (fun c l s h => hQp c l s h) ?_ (fun _ => hR) ?_
      ·exact wantF (j := 4) (b := true) (t := 73) (c := p3 == (IntKind.i64.wrap (p2 + 1))) rfl rfl rfl rfl hb38
      try dsimp only [putL, setL, evL, getL]
      refine HK_passP 17 rfl (by kernel_rfl) (fun c l s h => hQp c l s h) ?_ (fun _ => hR) ?_
      ·exact wantF (j := 4) (b := true) (t := 73) (c := p3 == (IntKind.i64.wrap (p2 + 1))) rfl rfl rfl rfl hb38
      refine HK_passP 18 rfl (by kernel_rfl) (fun c l s h => hQp c l s h) ?_ (fun _ => hR) ?_
      ·exact wantF (j := 4) (b := true) (t := 73) (c := p3 == (IntKind.i64.wrap (p2 + 1))) rfl rfl rfl rfl hb38
      refine HK_passP 19 rfl (by kernel_rfl) (fun c l s h => hQp c l s h) ?_ (fun _ => hR) ?_
      ·exact wantF (j := 4) (b := true) (t := 73) (c := p3 == (IntKind.i64.wrap (p2 + 1))) rfl rfl rfl rfl hb38
      try dsimp only [putL, setL, evL, getL]
      refine HK_passP 20 rfl (by kernel_rfl) (fun c l s h => hQp c l s h) ?_ (fun _ => hR) ?_
      ·exact wantF (j := 4) (b := true) (t := 73) (c := p3 == (IntKind.i64.wrap (p2 + 1))) rfl rfl rfl rfl hb38
      refine HK_passP 21 rfl (by kernel_rfl) (fun c l s h => hQp c l s h) ?_ (fun _ => hR) ?_
      ·exact wantF (j := 4) (b := true) (t := 73) (c := p3 == (IntKind.i64.wrap (p2 + 1))) rfl rfl rfl rfl hb38
      refine HK_passP 22 rfl (by kernel_rfl) (fun c l s h => hQp c l s h) ?_ (fun _ => hR) ?_
      ·exact wantF (j := 4) (b := true) (t := 73) (c := p3 == (IntKind.i64.wrap (p2 + 1))) rfl rfl rfl rfl hb38
      try dsimp only [putL, setL, evL, getL]
      refine HK_passP 23 rfl (by kernel_rfl) (fun c l s h => hQp c l s h) ?_ (fun _ => hR) ?_
      ·exact wantF (j := 4) (b := true) (t := 73) (c := p3 == (IntKind.i64.wrap (p2 + 1))) rfl rfl rfl rfl hb38
      refine HK_passP 24 rfl (by kernel_rfl) (fun c l s h => hQp c l s h) ?_ (fun _ => hR) ?_
      ·exact wantF (j := 4) (b := true) (t := 73) (c := p3 == (IntKind.i64.wrap (p2 + 1))) rfl rfl rfl rfl hb38
      refine HK_passP 25 rfl (by kernel_rfl) (fun c l s h => hQp c l s h) ?_ (fun _ => hR) ?_
      ·exact wantF (j := 4) (b := true) (t := 73) (c := p3 == (IntKind.i64.wrap (p2 + 1))) rfl rfl rfl rfl hb38
      try dsimp only [putL, setL, evL, getL]
      refine HK_passP 26 rfl (by kernel_rfl) (fun c l s h => hQp c l s h) ?_ (fun _ => hR) ?_
      ·exact wantF (j := 4) (b := true) (t := 73) (c := p3 == (IntKind.i64.wrap (p2 + 1))) rfl rfl rfl rfl hb38
      refine HK_readP 27 (v := .bool false) rfl (by kernel_rfl) hQp rfl (fun s' K hK => o_pickF rfl hb38 hK) rfl rfl (fun _ => hR) ?_
      refine HK_more [28] (by kernel_rfl) rfl (fun _ => hR) ⟨⟨_, rfl, Or.inl ⟨rfl, ?_⟩⟩, trivial⟩
      skip
      refine o_assign ?_
      try dsimp only [putL, setL, evL, getL]
      refine HK_done (fun _ => hR) (by kernel_rfl) ?_
      refine hK37 _ _ ?_
      try dsimp only [putL, setL, evL, getL]
      refine HT_ret ?_
      exact hQr _ _ [.bool false] _ ⟨rfl, trivial⟩ H ⟨(cutA A0_1p c0_1p (Int.toNat 1) (Kd.sz KS138)), c0_1p - Int.toNat 1, rfl, hH, D23⟩
    ·refine sr fun K43 hK43 => bn rfl rfl rfl (ag (HL_nil (hK43 _ _ ?_)))
     dsimp only [putL, setL, evL, getL]
     revert H
     refine ct rfl (fun hb44 H => ?_) (fun hb44 H => ?_)
     ·refine sr fun K45 hK45 => mv ?_
      replace H := headE H
      obtain ⟨u46, hu46, H⟩ := H
      obtain ⟨F1, hA, hB⟩ := hH.take [0, 1] (by decide)
      dsimp only [addC, setC, rmC, selC, getC] at hA
      refine hc (o_call (args := #[.pointer (some ⟨bp0, 0, none⟩)]) Try.func204 rfl rfl rfl (impl_spanReader_first.ok sb s24 F1 bp0 bp0_0 A0_0_0p c0_0_0p p0_0_0 A0_0_1p c0_0_1p p0_0_1 A0_0_2p c0_0_2p p0_0_2 A0_0_3p c0_0_3p p0_0_3 (cutA A0_1p c0_1p (Int.toNat 1) (Kd.sz KS138)) (c0_1p - Int.toNat 1) x23 HRp0_0_0 HRp0_0_1 HRp0_0_2 HRp0_0_3 D23 hA _ hu46) ?_)
      rintro _ s46 ⟨rfl, hD⟩
      replace hH := hB _ _ _ (Up.refl _ _ _) hD
      clear hD hA hB
      refine mv ?_
      dsimp only [putL, setL, evL, getL]
      refine hc (o_extract rfl rfl (hc (o_extract rfl rfl (hc (o_allocH hH tI138 ?_)))))
      clear hH
      intro b47 s47 hH _
      try dsimp only [putL, setL, evL, getL]
      refine hc (o_stvH (vs := [.int .i64 u46.1, .int .i64 u46.2.1, .int .i64 u46.2.2.1]) (us' := [.int .i64 u46.1, .int .i64 u46.2.1, .int .i64 u46.2.2.1]) hH 4 rfl rfl rfl rfl rfl tI138 rfl (List.cons_ne_nil _ _) rfl rfl rfl ?_)
      clear hH
      intro s48 hH
      refine ag (HL_nil (hK45 _ _ ?_))
      dsimp only [putL, setL, evL, getL]
      refine sr fun K49 hK49 => mv (mv ?_)
      revert H
      refine it (fun hb50 H => ?_) (fun hb50 H => ?_)
      ·refine wt rfl rfl rfl rfl hb50 (o_move ?_)
       dsimp only [putL, setL, evL, getL]
       refine wt rfl rfl rfl rfl hb50 (o_faddr' (ft := 3) (off := 0) rfl Try.underlying138 rfl tI3 (by decide) (wt rfl rfl rfl rfl hb50 (o_load' rfl Try.underlying3 rfl (hH.hasv 4 rfl rfl) ?_)))
       replace H := headE H
       obtain ⟨u51, hu51, H⟩ := H
       refine wt rfl rfl rfl rfl hb50 (o_call (args := #[.slice A27 u26.length c27, .int .i64 u46.1]) Try.func206 rfl rfl rfl (slices_Contains_int_int.ok sb s48 no A27 c27 u26 u46.1 D27 (Hp.own hH.bs) _ hu51) ?_)
       rintro _ s51 ⟨rfl, hD⟩
       replace hH := hH.back0 hD (Up.refl _ _ _)
       clear hD
       try dsimp only [putL, setL, evL, getL]
       refine hc (o_pickT rfl hb50 (mv ?_))
       revert H
       refine it (fun hb52 H => ?_) (fun hb52 H => ?_)
       ·refine wt rfl rfl rfl rfl hb52 (o_move ?_)
        dsimp only [putL, setL, evL, getL]
        refine wt rfl rfl rfl rfl hb52 (o_faddr' (ft := 3) (off := 0) rfl Try.underlying138 rfl tI3 (by decide) (wt rfl rfl rfl rfl hb52 (o_load' rfl Try.underlying3 rfl (hH.hasv 4 rfl rfl) (wt rfl rfl rfl rfl hb52 (o_move ?_)))))
        dsimp only [putL, setL, evL, getL]
        refine wt rfl rfl rfl rfl hb52 (o_move ?_)
        replace H := headE H
        obtain ⟨u53, hu53, H⟩ := H
        obtain ⟨F1, hA, hB⟩ := hH.take [2, 3] (by decide)
        dsimp only [addC, setC, rmC, selC, getC] at hA
        refine wt rfl rfl rfl rfl hb52 (o_call (args := #[.pointer (some ⟨bp0, 0, none⟩), .int .i64 u46.1, .int .i64 p2, .int .i64 p3]) Try.func156 rfl rfl rfl (ih sb s51 F1 bp0 bp0_0 A0_0_0p c0_0_0p p0_0_0 A0_0_1p c0_0_1p p0_0_1 A0_0_2p c0_0_2p p0_0_2 A0_0_3p c0_0_3p p0_0_3 (cutA A0_1p c0_1p (Int.toNat 1) (Kd.sz KS138)) (c0_1p - Int.toNat 1) x23 u46.1 p2 p3 HRp0_0_0 HRp0_0_1 HRp0_0_2 HRp0_0_3 D23 hA _ hu53) ?_)
        rintro _ s53 ⟨A54, c54, rfl, hD, D54⟩
        replace hH := hB _ _ _ (Up.refl _ _ _) hD
        clear hD hA hB
        refine hc (o_pickT rfl hb52 ?_)
        dsimp only [putL, setL, evL, getL]
        refine ag (HL_nil (hK49 _ _ ?_))
        dsimp only [putL, setL, evL, getL]
        refine HT_ret ?_
        exact hQr _ _ [.bool u53.1] _ ⟨rfl, trivial⟩ H ⟨A54, c54, rfl, hH.sel [5, 6] (by decide), D54⟩
       ·refine wf rfl rfl rfl rfl hb52 (wf rfl rfl rfl rfl hb52 (wf rfl rfl rfl rfl hb52 ?_))
        dsimp only [putL, setL, evL, getL]
        refine wf rfl rfl rfl rfl hb52 (wf rfl rfl rfl rfl hb52 (wf rfl rfl rfl rfl hb52 ?_))
        dsimp only [putL, setL, evL, getL]
        refine hc (o_pickF rfl hb52 (ag (HL_nil (hK49 _ _ ?_))))
        dsimp only [putL, setL, evL, getL]
        refine HT_ret ?_
        exact hQr _ _ [.bool false] _ ⟨rfl, trivial⟩ H ⟨(cutA A0_1p c0_1p (Int.toNat 1) (Kd.sz KS138)), c0_1p - Int.toNat 1, rfl, hH.sel [2, 3] (by decide), D23⟩
      ·refine wf rfl rfl rfl rfl hb50 (wf rfl rfl rfl rfl hb50 (wf rfl rfl rfl rfl hb50 ?_))
       dsimp only [putL, setL, evL, getL]
       refine wf rfl rfl rfl rfl hb50 (hc (o_pickF rfl hb50 (mv ?_)))
       dsimp only [putL, setL, evL, getL]
       refine wf rfl rfl rfl rfl rfl (wf rfl rfl rfl rfl rfl (wf rfl rfl rfl rfl rfl ?_))
       dsimp only [putL, setL, evL, getL]
       refine wf rfl rfl rfl rfl rfl (wf rfl rfl rfl rfl rfl (wf rfl rfl rfl rfl rfl ?_))
       dsimp only [putL, setL, evL, getL]
       refine hc (o_pickF rfl rfl (ag (HL_nil (hK49 _ _ ?_))))
       dsimp only [putL, setL, evL, getL]
       refine HT_ret ?_
       exact hQr _ _ [.bool false] _ ⟨rfl, trivial⟩ H ⟨(cutA A0_1p c0_1p (Int.toNat 1) (Kd.sz KS138)), c0_1p - Int.toNat 1, rfl, hH.sel [2, 3] (by decide), D23⟩
     ·refine sr fun K55 hK55 => bn rfl rfl rfl (ag (HL_nil (hK55 _ _ ?_)))
      dsimp only [putL, setL, evL, getL]
      revert H
      refine ct rfl (fun hb56 H => ?_) (fun hb56 H => ?_)
      ·refine sr fun K57 hK57 => mv ?_
       replace H := headE H
       obtain ⟨u58, hu58, H⟩ := H
       obtain ⟨F1, hA, hB⟩ := hH.take [0, 1] (by decide)
       dsimp only [addC, setC, rmC, selC, getC] at hA
       refine hc (o_call (args := #[.pointer (some ⟨bp0, 0, none⟩)]) Try.func204 rfl rfl rfl (impl_spanReader_first.ok sb s24 F1 bp0 bp0_0 A0_0_0p c0_0_0p p0_0_0 A0_0_1p c0_0_1p p0_0_1 A0_0_2p c0_0_2p p0_0_2 A0_0_3p c0_0_3p p0_0_3 (cutA A0_1p c0_1p (Int.toNat 1) (Kd.sz KS138)) (c0_1p - Int.toNat 1) x23 HRp0_0_0 HRp0_0_1 HRp0_0_2 HRp0_0_3 D23 hA _ hu58) ?_)
       rintro _ s58 ⟨rfl, hD⟩
       replace hH := hB _ _ _ (Up.refl _ _ _) hD
       clear hD hA hB
       refine mv ?_
       dsimp only [putL, setL, evL, getL]
       refine hc (o_extract rfl rfl (hc (o_extract rfl rfl (hc (o_allocH hH tI138 ?_)))))
       clear hH
       intro b59 s59 hH _
       try dsimp only [putL, setL, evL, getL]
       refine hc (o_stvH (vs := [.int .i64 u58.1, .int .i64 u58.2.1, .int .i64 u58.2.2.1]) (us' := [.int .i64 u58.1, .int .i64 u58.2.1, .int .i64 u58.2.2.1]) hH 4 rfl rfl rfl rfl rfl tI138 rfl (List.cons_ne_nil _ _) rfl rfl rfl ?_)
       clear hH
       intro s60 hH
       refine ag (HL_nil (hK57 _ _ ?_))
       dsimp only [putL, setL, evL, getL]
       refine sx hMix fun K61 hK61 => ?_
       refine HX_lim (R := fun _ => True) (k := 0) (fun s' => Gro s60 s') 16 ?_
       have hR := Gro.refl s60
       have hH0 := hH
       refine HK_readP 0 (v := .bool u58.2.2.2) rfl (by kernel_rfl) hQp rfl (fun s' K hK => o_move hK) rfl rfl (fun _ => hR) ?_
       refine HK_readP 1 (v := .bool u58.2.2.2) rfl (by kernel_rfl) hQp rfl (fun s' K hK => o_move hK) rfl rfl (fun _ => hR) ?_
       revert H
       refine it (fun hb62 H => ?_) (fun hb62 H => ?_)
       ·refine HK_readP 2 (v := .pointer (some ⟨b59, 0 + 2, none⟩)) rfl (by kernel_rfl) hQp (wantT (j := 1) (b := true) (t := 127) (c := u58.2.2.2) rfl rfl rfl rfl hb62) (fun s' K hK => o_faddr' (ft := 3) (off := 2) rfl Try.underlying138 rfl tI3 (by decide) hK) rfl rfl (fun _ => hR) ?_
        try dsimp only [putL, setL, evL, getL]
        refine HK_read 3 (v := .int .i64 u58.2.2.1) rfl (by kernel_rfl) hQp (wantT (j := 1) (b := true) (t := 127) (c := u58.2.2.2) rfl rfl rfl rfl hb62) (fun s' hR' K hK => o_load' rfl Try.underlying3 rfl (has_gro hR' (hH0.hasv 4 rfl rfl)) hK) rfl rfl hR ?_
        refine HK_readP 4 (v := .int .i64 p2) rfl (by kernel_rfl) hQp (wantT (j := 1) (b := true) (t := 127) (c := u58.2.2.2) rfl rfl rfl rfl hb62) (fun s' K hK => o_move hK) rfl rfl (fun _ => hR) ?_
        refine HK_readP 5 (v := .int .i64 p3) rfl (by kernel_rfl) hQp (wantT (j := 1) (b := true) (t := 127) (c := u58.2.2.2) rfl rfl rfl rfl hb62) (fun s' K hK => o_move hK) rfl rfl (fun _ => hR) ?_
        try dsimp only [putL, setL, evL, getL]
        refine HK_more [6] (by kernel_rfl) rfl (fun _ => hR) ⟨⟨_, rfl, Or.inl ⟨(wantT (j := 1) (b := true) (t := 127) (c := u58.2.2.2) rfl rfl rfl rfl hb62), ?_⟩⟩, trivial⟩
        replace H := headE H
        obtain ⟨u63, hu63, H⟩ := H
        skip
        refine o_call (args := #[.int .i64 u58.2.2.1, .int .i64 p2, .int .i64 p3]) Try.func105 rfl rfl rfl (impl_inRange.ok sb s60 no u58.2.2.1 p2 p3 (Hp.own hH.bs) _ hu63) ?_
        rintro _ s63 ⟨rfl, hD⟩
        replace hR := hR.trans hD.gro
        replace hH := hH.back0 hD (Up.refl _ _ _)
        clear hD
        refine HK_readP 7 (v := .bool u63) rfl (by kernel_rfl) hQp rfl (fun s' K hK => o_pickT rfl hb62 hK) rfl rfl (fun _ => hR) ?_
        refine HK_readP 8 (v := .bool u63) rfl (by kernel_rfl) hQp rfl (fun s' K hK => o_move hK) rfl rfl (fun _ => hR) ?_
        revert H
        refine it (fun hb64 H => ?_) (fun hb64 H => ?_)
        ·refine HK_readP 9 (v := .pointer (some ⟨bp0, 0, none⟩)) rfl (by kernel_rfl) hQp (wantT (j := 8) (b := true) (t := 134) (c := u63) rfl rfl rfl rfl hb64) (fun s' K hK => o_move hK) rfl rfl (fun _ => hR) ?_
         try dsimp only [putL, setL, evL, getL]
         refine HK_readP 10 (v := .slice A27 u26.length c27) rfl (by kernel_rfl) hQp (wantT (j := 8) (b := true) (t := 134) (c := u63) rfl rfl rfl rfl hb64) (fun s' K hK => o_move hK) rfl rfl (fun _ => hR) ?_
         replace H := headE H
         obtain ⟨u65, hu65, H⟩ := H
         obtain ⟨b65, o65, cs65, hr65, hh65, hel65⟩ := Rd.elb D27 hu65
         obtain rfl := hr65
         refine HK_readP 11 (v := .pointer (some ⟨b65, o65, none⟩)) rfl (by kernel_rfl) hQp (wantT (j := 8) (b := true) (t := 134) (c := u63) rfl rfl rfl rfl hb64) (fun s' K hK => hel65 s' rfl rfl Try.underlying24 tI3 hK) rfl rfl (fun _ => hR) ?_
         refine HK_read 12 (v := .int .i64 u65) rfl (by kernel_rfl) hQp (wantT (j := 8) (b := true) (t := 134) (c := u63) rfl rfl rfl rfl hb64) (fun s' hR' K hK => o_load' rfl Try.underlying3 rfl ((hh65 (hH0.bs.mono.trans hR'.mono)) 0 _ rfl) hK) rfl rfl hR ?_
         try dsimp only [putL, setL, evL, getL]
         refine HK_readP 13 (v := .int .i64 p2) rfl (by kernel_rfl) hQp (wantT (j := 8) (b := true) (t := 134) (c := u63) rfl rfl rfl rfl hb64) (fun s' K hK => o_move hK) rfl rfl (fun _ => hR) ?_
         refine HK_readP 14 (v := .pointer (some ⟨b59, 0 + 2, none⟩)) rfl (by kernel_rfl) hQp (wantT (j := 8) (b := true) (t := 134) (c := u63) rfl rfl rfl rfl hb64) (fun s' K hK => o_faddr' (ft := 3) (off := 2) rfl Try.underlying138 rfl tI3 (by decide) hK) rfl rfl (fun _ => hR) ?_
         refine HK_read 15 (v := .int .i64 u58.2.2.1) rfl (by kernel_rfl) hQp (wantT (j := 8) (b := true) (t := 134) (c := u63) rfl rfl rfl rfl hb64) (fun s' hR' K hK => o_load' rfl Try.underlying3 rfl (has_gro hR' (hH0.hasv 4 rfl rfl)) hK) rfl rfl hR ?_
         try dsimp only [putL, setL, evL, getL]
         refine HK_more [16] (by kernel_rfl) rfl (fun _ => hR) ⟨⟨_, rfl, Or.inl ⟨(wantT (j := 8) (b := true) (t := 134) (c := u63) rfl rfl rfl rfl hb64), ?_⟩⟩, trivial⟩
         replace H := headE H
         obtain ⟨u66, hu66, H⟩ := H
         obtain ⟨F1, hA, hB⟩ := hH.take [2, 3] (by decide)
         dsimp only [addC, setC, rmC, selC, getC] at hA
         skip
         refine o_call (args := #[.pointer (some ⟨bp0, 0, none⟩), .int .i64 u65, .int .i64 p2, .int .i64 u58.2.2.1]) Try.func156 rfl rfl rfl (ih sb s63 F1 bp0 bp0_0 A0_0_0p c0_0_0p p0_0_0 A0_0_1p c0_0_1p p0_0_1 A0_0_2p c0_0_2p p0_0_2 A0_0_3p c0_0_3p p0_0_3 (cutA A0_1p c0_1p (Int.toNat 1) (Kd.sz KS138)) (c0_1p - Int.toNat 1) x23 u65 p2 u58.2.2.1 HRp0_0_0 HRp0_0_1 HRp0_0_2 HRp0_0_3 D23 hA _ hu66) ?_
         rintro _ s66 ⟨A67, c67, rfl, hD, D67⟩
         replace hH := hB _ _ _ (Up.refl _ _ _) hD
         clear hD hA hB
         refine HK_free (by kernel_rfl) ?_
         refine HX_lim (R := fun _ => True) (k := 0) (fun s' => Gro s66 s') 26 ?_
         have hR := Gro.refl s66
         have hH0 := hH
         try dsimp only [putL, setL, evL, getL]
         refine HK_readP 17 (v := .bool u66.1) rfl (by kernel_rfl) hQp rfl (fun s' K hK => o_pickT rfl hb64 hK) rfl rfl (fun _ => hR) ?_
         refine HK_readP 18 (v := .bool u66.1) rfl (by kernel_rfl) hQp rfl (fun s' K hK => o_move hK) rfl rfl (fun _ => hR) ?_
         revert H
         refine it (fun hb68 H => ?_) (fun hb68 H => ?_)
         ·refine HK_readP 19 (v := .pointer (some ⟨bp0, 0, none⟩)) rfl (by kernel_rfl) hQp (wantT (j := 18) (b := true) (t := 144) (c := u66.1) rfl rfl rfl rfl hb68) (fun s' K hK => o_move hK) rfl rfl (fun _ => hR) ?_
          try dsimp only [putL, setL, evL, getL]
          refine HK_readP 20 (v := .slice A27 u26.length c27) rfl (by kernel_rfl) hQp (wantT (j := 18) (b := true) (t := 144) (c := u66.1) rfl rfl rfl rfl hb68) (fun s' K hK => o_move hK) rfl rfl (fun _ => hR) ?_
          replace H := headE H
          obtain ⟨u69, hu69, H⟩ := H
          obtain ⟨b69, o69, cs69, hr69, hh69, hel69⟩ := Rd.elb D27 hu69
          obtain rfl := hr69
          refine HK_readP 21 (v := .pointer (some ⟨b69, o69, none⟩)) rfl (by kernel_rfl) hQp (wantT (j := 18) (b := true) (t := 144) (c := u66.1) rfl rfl rfl rfl hb68) (fun s' K hK => hel69 s' rfl rfl Try.underlying24 tI3 hK) rfl rfl (fun _ => hR) ?_
          refine HK_read 22 (v := .int .i64 u69) rfl (by kernel_rfl) hQp (wantT (j := 18) (b := true) (t := 144) (c := u66.1) rfl rfl rfl rfl hb68) (fun s' hR' K hK => o_load' rfl Try.underlying3 rfl ((hh69 (hH0.bs.mono.trans hR'.mono)) 0 _ rfl) hK) rfl rfl hR ?_
          try dsimp only [putL, setL, evL, getL]
          refine HK_readP 23 (v := .pointer (some ⟨b59, 0 + 2, none⟩)) rfl (by kernel_rfl) hQp (wantT (j := 18) (b := true) (t := 144) (c := u66.1) rfl rfl rfl rfl hb68) (fun s' K hK => o_faddr' (ft := 3) (off := 2) rfl Try.underlying138 rfl tI3 (by decide) hK) rfl rfl (fun _ => hR) ?_
          refine HK_read 24 (v := .int .i64 u58.2.2.1) rfl (by kernel_rfl) hQp (wantT (j := 18) (b := true) (t := 144) (c := u66.1) rfl rfl rfl rfl hb68) (fun s' hR' K hK => o_load' rfl Try.underlying3 rfl (has_gro hR' (hH0.hasv 4 rfl rfl)) hK) rfl rfl hR ?_
          refine HK_readP 25 (v := .int .i64 p3) rfl (by kernel_rfl) hQp (wantT (j := 18) (b := true) (t := 144) (c := u66.1) rfl rfl rfl rfl hb68) (fun s' K hK => o_move hK) rfl rfl (fun _ => hR) ?_
          try dsimp only [putL, setL, evL, getL]
          refine HK_more [26] (by kernel_rfl) rfl (fun _ => hR) ⟨⟨_, rfl, Or.inl ⟨(wantT (j := 18) (b := true) (t := 144) (c := u66.1) rfl rfl rfl rfl hb68), ?_⟩⟩, trivial⟩
          replace H := headE H
          obtain ⟨u70, hu70, H⟩ := H
          obtain ⟨F1, hA, hB⟩ := hH.take [5, 6] (by decide)
          dsimp only [addC, setC, rmC, selC, getC] at hA
          skip
          refine o_call (args := #[.pointer (some ⟨bp0, 0, none⟩), .int .i64 u69, .int .i64 u58.2.2.1, .int .i64 p3]) Try.func156 rfl rfl rfl (ih sb s66 F1 bp0 bp0_0 A0_0_0p c0_0_0p p0_0_0 A0_0_1p c0_0_1p p0_0_1 A0_0_2p c0_0_2p p0_0_2 A0_0_3p c0_0_3p p0_0_3 A67 c67 u66.2 u69 u58.2.2.1 p3 HRp0_0_0 HRp0_0_1 HRp0_0_2 HRp0_0_3 D67 hA _ hu70) ?_
          rintro _ s70 ⟨A71, c71, rfl, hD, D71⟩
          replace hH := hB _ _ _ (Up.refl _ _ _) hD
          clear hD hA hB
          refine HK_free (by kernel_rfl) ?_
          refine HX_lim (R := fun _ => True) (k := 0) (fun s' => Gro s70 s') 30 ?_
          have hR := Gro.refl s70
          have hH0 := hH
          try dsimp only [putL, setL, evL, getL]
          refine HK_readP 27 (v := .bool u70.1) rfl (by kernel_rfl) hQp rfl (fun s' K hK => o_pickT rfl hb68 hK) rfl rfl (fun _ => hR) ?_
          refine HK_more [28] (by kernel_rfl) rfl (fun _ => hR) ⟨⟨_, rfl, Or.inl ⟨rfl, ?_⟩⟩, trivial⟩
          skip
          refine o_assign ?_
          refine HK_done (fun _ => hR) (by kernel_rfl) ?_
          refine hK61 _ _ ?_
          try dsimp only [putL, setL, evL, getL]
          refine HT_ret ?_
          exact hQr _ _ [.bool u70.1] _ ⟨rfl, trivial⟩ H ⟨A71, c71, rfl, hH.sel [7, 8] (by decide), D71⟩
         ·refine HK_passP 19 rfl (by kernel_rfl) (fun c l s h => hQp c l s h) ?_ (fun _ => hR) ?_
          ·exact wantF (j := 18) (b := true) (t := 144) (c := u66.1) rfl rfl rfl rfl hb68
          refine HK_passP 20 rfl (by kernel_rfl) (fun c l s h => hQp c l s h) ?_ (fun _ => hR) ?_
          ·exact wantF (j := 18) (b := true) (t := 144) (c := u66.1) rfl rfl rfl rfl hb68
          refine HK_passP 21 rfl (by kernel_rfl) (fun c l s h => hQp c l s h) ?_ (fun _ => hR) ?_
          ·exact wantF (j := 18) (b := true) (t := 144) (c := u66.1) rfl rfl rfl rfl hb68
          try dsimp only [putL, setL, evL, getL]
          refine HK_passP 22 rfl (by kernel_rfl) (fun c l s h => hQp c l s h) ?_ (fun _ => hR) ?_
          ·exact wantF (j := 18) (b := true) (t := 144) (c := u66.1) rfl rfl rfl rfl hb68
          refine HK_passP 23 rfl (by kernel_rfl) (fun c l s h => hQp c l s h) ?_ (fun _ => hR) ?_
          ·exact wantF (j := 18) (b := true) (t := 144) (c := u66.1) rfl rfl rfl rfl hb68
          refine HK_passP 24 rfl (by kernel_rfl) (fun c l s h => hQp c l s h) ?_ (fun _ => hR) ?_
          ·exact wantF (j := 18) (b := true) (t := 144) (c := u66.1) rfl rfl rfl rfl hb68
          try dsimp only [putL, setL, evL, getL]
          refine HK_passP 25 rfl (by kernel_rfl) (fun c l s h => hQp c l s h) ?_ (fun _ => hR) ?_
          ·exact wantF (j := 18) (b := true) (t := 144) (c := u66.1) rfl rfl rfl rfl hb68
          refine HK_more [26] (by kernel_rfl) rfl (fun _ => hR) ⟨⟨_, rfl, Or.inr ⟨wantF (j := 18) (b := true) (t := 144) (c := u66.1) rfl rfl rfl rfl hb68, ?_⟩⟩, trivial⟩
          refine HK_free (by kernel_rfl) ?_
          try dsimp only [putL, setL, evL, getL]
          refine HX_lim (R := fun _ => True) (k := 0) (fun s' => Gro s66 s') 30 ?_
          have hR := Gro.refl s66
          have hH0 := hH
          refine HK_readP 27 (v := .bool false) rfl (by kernel_rfl) hQp rfl (fun s' K hK => o_pickF rfl hb68 hK) rfl rfl (fun _ => hR) ?_
          refine HK_more [28] (by kernel_rfl) rfl (fun _ => hR) ⟨⟨_, rfl, Or.inl ⟨rfl, ?_⟩⟩, trivial⟩
          skip
          refine o_assign ?_
          try dsimp only [putL, setL, evL, getL]
          refine HK_done (fun _ => hR) (by kernel_rfl) ?_
          refine hK61 _ _ ?_
          try dsimp only [putL, setL, evL, getL]
          refine HT_ret ?_
          exact hQr _ _ [.bool false] _ ⟨rfl, trivial⟩ H ⟨A67, c67, rfl, hH.sel [5, 6] (by decide), D67⟩
        ·refine HK_passP 9 rfl (by kernel_rfl) (fun c l s h => hQp c l s h) ?_ (fun _ => hR) ?_
         ·exact wantF (j := 8) (b := true) (t := 134) (c := u63) rfl rfl rfl rfl hb64
         refine HK_passP 10 rfl (by kernel_rfl) (fun c l s h => hQp c l s h) ?_ (fun _ => hR) ?_
         ·exact wantF (j := 8) (b := true) (t := 134) (c := u63) rfl rfl rfl rfl hb64
         refine HK_passP 11 rfl (by kernel_rfl) (fun c l s h => hQp c l s h) ?_ (fun _ => hR) ?_
         ·exact wantF (j := 8) (b := true) (t := 134) (c := u63) rfl rfl rfl rfl hb64
         try dsimp only [putL, setL, evL, getL]
         refine HK_passP 12 rfl (by kernel_rfl) (fun c l s h => hQp c l s h) ?_ (fun _ => hR) ?_
         ·exact wantF (j := 8) (b := true) (t := 134) (c := u63) rfl rfl rfl rfl hb64
         refine HK_passP 13 rfl (by kernel_rfl) (fun c l s h => hQp c l s h) ?_ (fun _ => hR) ?_
         ·exact wantF (j := 8) (b := true) (t := 134) (c := u63) rfl rfl rfl rfl hb64
         refine HK_passP 14 rfl (by kernel_rfl) (fun c l s h => hQp c l s h) ?_ (fun _ => hR) ?_
         ·exact wantF (j := 8) (b := true) (t := 134) (c := u63) rfl rfl rfl rfl hb64
         try dsimp only [putL, setL, evL, getL]
         refine HK_passP 15 rfl (by kernel_rfl) (fun c l s h => hQp c l s h) ?_ (fun _ => hR) ?_
         ·exact wantF (j := 8) (b := true) (t := 134) (c := u63) rfl rfl rfl rfl hb64
         refine HK_more [16] (by kernel_rfl) rfl (fun _ => hR) ⟨⟨_, rfl, Or.inr ⟨wantF (j := 8) (b := true) (t := 134) (c := u63) rfl rfl rfl rfl hb64, ?_⟩⟩, trivial⟩
         refine HK_free (by kernel_rfl) ?_
         try dsimp only [putL, setL, evL, getL]
         refine HX_lim (R := fun _ => True) (k := 0) (fun s' => Gro s63 s') 26 ?_
         have hR := Gro.refl s63
         have hH0 := hH
         refine HK_readP 17 (v := .bool false) rfl (by kernel_rfl) hQp rfl (fun s' K hK => o_pickF rfl hb64 hK) rfl rfl (fun _ => hR) ?_
         refine HK_readP 18 (v := .bool false) rfl (by kernel_rfl) hQp rfl (fun s' K hK => o_move hK) rfl rfl (fun _ => hR) ?_
         try dsimp only [putL, setL, evL, getL]
         refine HK_passP 19 rfl (by kernel_rfl) (fun c l s h => hQp c l s h) ?_ (fun _ => hR) ?_
         ·exact wantF (j := 18) (b := true) (t := 144) (c := false) rfl rfl rfl rfl rfl
         refine HK_passP 20 rfl (by kernel_rfl) (fun c l s h => hQp c l s h) ?_ (fun _ => hR) ?_
         ·exact wantF (j := 18) (b := true) (t := 144) (c := false) rfl rfl rfl rfl rfl
         refine HK_passP 21 rfl (by kernel_rfl) (fun c l s h => hQp c l s h) ?_ (fun _ => hR) ?_
         ·exact wantF (j := 18) (b := true) (t := 144) (c := false) rfl rfl rfl rfl rfl
         try dsimp only [putL, setL, evL, getL]
         refine HK_passP 22 rfl (by kernel_rfl) (fun c l s h => hQp c l s h) ?_ (fun _ => hR) ?_
         ·exact wantF (j := 18) (b := true) (t := 144) (c := false) rfl rfl rfl rfl rfl
         refine HK_passP 23 rfl (by kernel_rfl) (fun c l s h => hQp c l s h) ?_ (fun _ => hR) ?_
         ·exact wantF (j := 18) (b := true) (t := 144) (c := false) rfl rfl rfl rfl rfl
         refine HK_passP 24 rfl (by kernel_rfl) (fun c l s h => hQp c l s h) ?_ (fun _ => hR) ?_
         ·exact wantF (j := 18) (b := true) (t := 144) (c := false) rfl rfl rfl rfl rfl
         try dsimp only [putL, setL, evL, getL]
         refine HK_passP 25 rfl (by kernel_rfl) (fun c l s h => hQp c l s h) ?_ (fun _ => hR) ?_
         ·exact wantF (j := 18) (b := true) (t := 144) (c := false) rfl rfl rfl rfl rfl
         refine HK_more [26] (by kernel_rfl) rfl (fun _ => hR) ⟨⟨_, rfl, Or.inr ⟨wantF (j := 18) (b := true) (t := 144) (c := false) rfl rfl rfl rfl rfl, ?_⟩⟩, trivial⟩
         refine HK_free (by kernel_rfl) ?_
         try dsimp only [putL, setL, evL, getL]
         refine HX_lim (R := fun _ => True) (k := 0) (fun s' => Gro s63 s') 30 ?_
         have hR := Gro.refl s63
         have hH0 := hH
         refine HK_readP 27 (v := .bool false) rfl (by kernel_rfl) hQp rfl (fun s' K hK => o_pickF rfl rfl hK) rfl rfl (fun _ => hR) ?_
         refine HK_more [28] (by kernel_rfl) rfl (fun _ => hR) ⟨⟨_, rfl, Or.inl ⟨rfl, ?_⟩⟩, trivial⟩
         skip
         refine o_assign ?_
         try dsimp only [putL, setL, evL, getL]
         refine HK_done (fun _ => hR) (by kernel_rfl) ?_
         refine hK61 _ _ ?_
         try dsimp only [putL, setL, evL, getL]
         refine HT_ret ?_
         exact hQr _ _ [.bool false] _ ⟨rfl, trivial⟩ H ⟨(cutA A0_1p c0_1p (Int.toNat 1) (Kd.sz KS138)), c0_1p - Int.toNat 1, rfl, hH.sel [2, 3] (by decide), D23⟩
       ·refine HK_passP 2 rfl (by kernel_rfl) (fun c l s h => hQp c l s h) ?_ (fun _ => hR) ?_
        ·exact wantF (j := 1) (b := true) (t := 127) (c := u58.2.2.2) rfl rfl rfl rfl hb62
        refine HK_passP 3 rfl (by kernel_rfl) (fun c l s h => hQp c l s h) ?_ (fun _ => hR) ?_
        ·exact wantF (j := 1) (b := true) (t := 127) (c := u58.2.2.2) rfl rfl rfl rfl hb62
        refine HK_passP 4 rfl (by kernel_rfl) (fun c l s h => hQp c l s h) ?_ (fun _ => hR) ?_
        ·exact wantF (j := 1) (b := true) (t := 127) (c := u58.2.2.2) rfl rfl rfl rfl hb62
        try dsimp only [putL, setL, evL, getL]
        refine HK_passP 5 rfl (by kernel_rfl) (fun c l s h => hQp c l s h) ?_ (fun _ => hR) ?_
        ·exact wantF (j := 1) (b := true) (t := 127) (c := u58.2.2.2) rfl rfl rfl rfl hb62
        refine HK_passP 6 rfl (by kernel_rfl) (fun c l s h => hQp c l s h) ?_ (fun _ => hR) ?_
        ·exact wantF (j := 1) (b := true) (t := 127) (c := u58.2.2.2) rfl rfl rfl rfl hb62
        refine HK_readP 7 (v := .bool false) rfl (by kernel_rfl) hQp rfl (fun s' K hK => o_pickF rfl hb62 hK) rfl rfl (fun _ => hR) ?_
        try dsimp only [putL, setL, evL, getL]
        refine HK_readP 8 (v := .bool false) rfl (by kernel_rfl) hQp rfl (fun s' K hK => o_move hK) rfl rfl (fun _ => hR) ?_
        refine HK_passP 9 rfl (by kernel_rfl) (fun c l s h => hQp c l s h) ?_ (fun _ => hR) ?_
        ·exact wantF (j := 8) (b := true) (t := 134) (c := false) rfl rfl rfl rfl rfl
        refine HK_passP 10 rfl (by kernel_rfl) (fun c l s h => hQp c l s h) ?_ (fun _ => hR) ?_
        ·exact wantF (j := 8) (b := true) (t := 134) (c := false) rfl rfl rfl rfl rfl
        try dsimp only [putL, setL, evL, getL]
        refine HK_passP 11 rfl (by kernel_rfl) (fun c l s h => hQp c l s h) ?_ (fun _ => hR) ?_
        ·exact wantF (j := 8) (b := true) (t := 134) (c := false) rfl rfl rfl rfl rfl
        refine HK_passP 12 rfl (by kernel_rfl) (fun c l s h => hQp c l s h) ?_ (fun _ => hR) ?_
        ·exact wantF (j := 8) (b := true) (t := 134) (c := false) rfl rfl rfl rfl rfl
        refine HK_passP 13 rfl (by kernel_rfl) (fun c l s h => hQp c l s h) ?_ (fun _ => hR) ?_
        ·exact wantF (j := 8) (b := true) (t := 134) (c := false) rfl rfl rfl rfl rfl
        try dsimp only [putL, setL, evL, getL]
        refine HK_passP 14 rfl (by kernel_rfl) (fun c l s h => hQp c l s h) ?_ (fun _ => hR) ?_
        ·exact wantF (j := 8) (b := true) (t := 134) (c := false) rfl rfl rfl rfl rfl
        refine HK_passP 15 rfl (by kernel_rfl) (fun c l s h => hQp c l s h) ?_ (fun _ => hR) ?_
        ·exact wantF (j := 8) (b := true) (t := 134) (c := false) rfl rfl rfl rfl rfl
        refine HK_more [16] (by kernel_rfl) rfl (fun _ => hR) ⟨⟨_, rfl, Or.inr ⟨wantF (j := 8) (b := true) (t := 134) (c := false) rfl rfl rfl rfl rfl, ?_⟩⟩, trivial⟩
        try dsimp only [putL, setL, evL, getL]
        refine HK_free (by kernel_rfl) ?_
        refine HX_lim (R := fun _ => True) (k := 0) (fun s' => Gro s60 s') 26 ?_
        have hR := Gro.refl s60
        have hH0 := hH
        refine HK_readP 17 (v := .bool false) rfl (by kernel_rfl) hQp rfl (fun s' K hK => o_pickF rfl rfl hK) rfl rfl (fun _ => hR) ?_
        try dsimp only [putL, setL, evL, getL]
        refine HK_readP 18 (v := .bool false) rfl (by kernel_rfl) hQp rfl (fun s' K hK => o_move hK) rfl rfl (fun _ => hR) ?_
        refine HK_passP 19 rfl (by kernel_rfl) (fun c l s h => hQp c l s h) ?_ (fun _ => hR) ?_
        ·exact wantF (j := 18) (b := true) (t := 144) (c := false) rfl rfl rfl rfl rfl
        refine HK_passP 20 rfl (by kernel_rfl) (fun c l s h => hQp c l s h) ?_ (fun _ => hR) ?_
        ·exact wantF (j := 18) (b := true) (t := 144) (c := false) rfl rfl rfl rfl rfl
        try dsimp only [putL, setL, evL, getL]
        refine HK_passP 21 rfl (by kernel_rfl) (fun c l s h => hQp c l s h) ?_ (fun _ => hR) ?_
        ·exact wantF (j := 18) (b := true) (t := 144) (c := false) rfl rfl rfl rfl rfl
        refine HK_passP 22 rfl (by kernel_rfl) (fun c l s h => hQp c l s h) ?_ (fun _ => hR) ?_
        ·exact wantF (j := 18) (b := true) (t := 144) (c := false) rfl rfl rfl rfl rfl
        refine HK_passP 23 rfl (by kernel_rfl) (fun c l s h => hQp c l s h) ?_ (fun _ => hR) ?_
        ·exact wantF (j := 18) (b := true) (t := 144) (c := false) rfl rfl rfl rfl rfl
        try dsimp only [putL, setL, evL, getL]
        refine HK_passP 24 rfl (by kernel_rfl) (fun c l s h => hQp c l s h) ?_ (fun _ => hR) ?_
        ·exact wantF (j := 18) (b := true) (t := 144) (c := false) rfl rfl rfl rfl rfl
        refine HK_passP 25 rfl (by kernel_rfl) (fun c l s h => hQp c l s h) ?_ (fun _ => hR) ?_
        ·exact wantF (j := 18) (b := true) (t := 144) (c := false) rfl rfl rfl rfl rfl
        refine HK_more [26] (by kernel_rfl) rfl (fun _ => hR) ⟨⟨_, rfl, Or.inr ⟨wantF (j := 18) (b := true) (t := 144) (c := false) rfl rfl rfl rfl rfl, ?_⟩⟩, trivial⟩
        try dsimp only [putL, setL, evL, getL]
        refine HK_free (by kernel_rfl) ?_
        refine HX_lim (R := fun _ => True) (k := 0) (fun s' => Gro s60 s') 30 ?_
        have hR := Gro.refl s60
        have hH0 := hH
        refine HK_readP 27 (v := .bool false) rfl (by kernel_rfl) hQp rfl (fun s' K hK => o_pickF rfl rfl hK) rfl rfl (fun _ => hR) ?_
        try dsimp only [putL, setL, evL, getL]
        refine HK_more [28] (by kernel_rfl) rfl (fun _ => hR) ⟨⟨_, rfl, Or.inl ⟨rfl, ?_⟩⟩, trivial⟩
        skip
        refine o_assign ?_
        refine HK_done (fun _ => hR) (by kernel_rfl) ?_
        refine hK61 _ _ ?_
        try dsimp only [putL, setL, evL, getL]
        refine HT_ret ?_
        exact hQr _ _ [.bool false] _ ⟨rfl, trivial⟩ H ⟨(cutA A0_1p c0_1p (Int.toNat 1) (Kd.sz KS138)), c0_1p - Int.toNat 1, rfl, hH.sel [2, 3] (by decide), D23⟩
      ·refine HT_skip (hK28 _ _ ?_)
       refine joinH H fun G72 hG72 H => ?_
       refine HT_joinK (fun l' s' => ∃ (x213 : List ((Int) × (Int) × (Int))) (A213 : Option Addr) (c213 : Nat), G72 (.go x213) = some r ∧ skim [] l' = ([], 187) ∧ Hp sb s F0 s' [Ck.ov bp0 [.pointer (some ⟨bp0_0, 0, none⟩), .slice A213 x213.length c213] 167, Ck.ov bp0_0 [.slice A0_0_0p p0_0_0.length c0_0_0p, .slice A0_0_1p p0_0_1.length c0_0_1p, .slice A0_0_2p p0_0_2.length c0_0_2p, .slice A0_0_3p p0_0_3.length c0_0_3p] 165] ∧ Rd KS138 sb A213 c213 x213) ?_ ?_
       ·intro K72 hK72
        refine HT_block ?_
        refine HT_loopK (fun kf l' s' => ∃ (x259 : Int) (x260 : List ((Int) × (Int) × (Int))) (A260 : Option Addr) (c260 : Nat), (impl_spanReader_take.l1 p0_0_0 p0_0_1 p0_0_2 p0_0_3 p3 self u26 kf x259 x260).bind G72 = some r ∧ skim [0, 1, 0, 7] l' = ([.pointer (some ⟨bp0, 0, none⟩), .int .i64 x259, .int .i64 p3, .slice A27 u26.length c27], 175) ∧ Hp sb s F0 s' [Ck.ov bp0 [.pointer (some ⟨bp0_0, 0, none⟩), .slice A260 x260.length c260] 167, Ck.ov bp0_0 [.slice A0_0_0p p0_0_0.length c0_0_0p, .slice A0_0_1p p0_0_1.length c0_0_1p, .slice A0_0_2p p0_0_2.length c0_0_2p, .slice A0_0_3p p0_0_3.length c0_0_3p] 165] ∧ Rd KS138 sb A260 c260 x260) (((p3) - (p2)).toNat + 2) ⟨p2, x23, (cutA A0_1p c0_1p (Int.toNat 1) (Kd.sz KS138)), c0_1p - Int.toNat 1, H, rfl, hH, D23⟩ ?_
        rintro kf l' s308 ⟨x259, x260, A260, c260, H, hl, hH, D260⟩ K308 hK308
        revert l'
        refine skA ?_
        dsimp only [Al, Sk]
        intros
        cases kf with
        | zero => simp [impl_spanReader_take.l1] at H
        | succ kf =>
         rw [impl_spanReader_take.l1] at H
         refine HT_seq_k fun K309 hK309 => sr fun K310 hK310 => mv (mv (bn rfl rfl rfl (HL_nil (hK310 _ _ ?_))))
         dsimp only [putL, setL, evL, getL]
         revert H
         refine ct rfl (fun hb311 H => ?_) (fun hb311 H => ?_)
         ·refine HT_skip (hK309 _ _ (HT_block (sr fun K312 hK312 => (mv ?_))))
          replace H := headE H
          obtain ⟨u313, hu313, H⟩ := H
          obtain ⟨F1, hA, hB⟩ := hH.take [0, 1] (by decide)
          dsimp only [addC, setC, rmC, selC, getC] at hA
          refine hc (o_call (args := #[.pointer (some ⟨bp0, 0, none⟩)]) Try.func204 rfl rfl rfl (impl_spanReader_first.ok sb s308 F1 bp0 bp0_0 A0_0_0p c0_0_0p p0_0_0 A0_0_1p c0_0_1p p0_0_1 A0_0_2p c0_0_2p p0_0_2 A0_0_3p c0_0_3p p0_0_3 A260 c260 x260 HRp0_0_0 HRp0_0_1 HRp0_0_2 HRp0_0_3 D260 hA _ hu313) ?_)
          rintro _ s313 ⟨rfl, hD⟩
          replace hH := hB _ _ _ (Up.refl _ _ _) hD
          clear hD hA hB
          refine mv ?_
          dsimp only [putL, setL, evL, getL]
          refine hc (o_extract rfl rfl (hc (o_extract rfl rfl (hc (o_allocH hH tI138 ?_)))))
          clear hH
          intro b314 s314 hH _
          try dsimp only [putL, setL, evL, getL]
          refine hc (o_stvH (vs := [.int .i64 u313.1, .int .i64 u313.2.1, .int .i64 u313.2.2.1]) (us' := [.int .i64 u313.1, .int .i64 u313.2.1, .int .i64 u313.2.2.1]) hH 4 rfl rfl rfl rfl rfl tI138 rfl (List.cons_ne_nil _ _) rfl rfl rfl ?_)
          clear hH
          intro s315 hH
          refine ag (HL_nil (hK312 _ _ ?_))
          dsimp only [putL, setL, evL, getL]
          refine HT_seq_k fun K335 hK335 => ?_
          refine joinH H fun G336 hG336 H => ?_
          refine HT_joinK (fun l' s' => ∃ (x343 : Bool) (x344 : List ((Int) × (Int) × (Int))) (A344 : Option Addr) (c344 : Nat), G336 (x343, x344) = some r ∧ skim [0, 2, 7, 4, 166] l' = ([.pointer (some ⟨bp0, 0, none⟩), .int .i64 p3, .slice A27 u26.length c27, .pointer (some ⟨b314, 0, none⟩), .bool x343], 3) ∧ Hp sb s F0 s' [Ck.ov bp0 [.pointer (some ⟨bp0_0, 0, none⟩), .slice A344 x344.length c344] 167, Ck.ov b314 [.int .i64 u313.1, .int .i64 u313.2.1, .int .i64 u313.2.2.1] 138, Ck.ov bp0_0 [.slice A0_0_0p p0_0_0.length c0_0_0p, .slice A0_0_1p p0_0_1.length c0_0_1p, .slice A0_0_2p p0_0_2.length c0_0_2p, .slice A0_0_3p p0_0_3.length c0_0_3p] 165] ∧ Rd KS138 sb A344 c344 x344) ?_ ?_
          ·intro K336 hK336
           refine HX_draw hMix ?_
           refine HX_lim (R := fun _ => True) (k := 0) (fun s' => Gro s315 s') 19 ?_
           have hR := Gro.refl s315
           have hH0 := hH
           refine HK_readP 0 (v := .bool u313.2.2.2) rfl (by kernel_rfl) hQp rfl (fun s' K hK => o_move hK) rfl rfl (fun _ => hR) ?_
           try dsimp only [putL, setL, evL, getL]
           refine HK_readP 1 (v := .bool (!u313.2.2.2)) rfl (by kernel_rfl) hQp rfl (fun s' K hK => o_not rfl hK) rfl rfl (fun _ => hR) ?_
           refine HK_readP 2 (v := .bool (!u313.2.2.2)) rfl (by kernel_rfl) hQp rfl (fun s' K hK => o_move hK) rfl rfl (fun _ => hR) ?_
           revert H
           refine it (fun hb345 H => ?_) (fun hb345 H => ?_)
           ·refine HK_passP 3 rfl (by kernel_rfl) (fun c l s h => hQp c l s h) ?_ (fun _ => hR) ?_
            ·exact wantF (j := 2) (b := false) (t := 164) (c := !u313.2.2.2) rfl rfl rfl rfl hb345
            try dsimp only [putL, setL, evL, getL]
            refine HK_passP 4 rfl (by kernel_rfl) (fun c l s h => hQp c l s h) ?_ (fun _ => hR) ?_
            ·exact wantF (j := 2) (b := false) (t := 164) (c := !u313.2.2.2) rfl rfl rfl rfl hb345
            refine HK_passP 5 rfl (by kernel_rfl) (fun c l s h => hQp c l s h) ?_ (fun _ => hR) ?_
            ·exact wantF (j := 2) (b := false) (t := 164) (c := !u313.2.2.2) rfl rfl rfl rfl hb345
            refine HK_passP 6 rfl (by kernel_rfl) (fun c l s h => hQp c l s h) ?_ (fun _ => hR) ?_
            ·exact wantF (j := 2) (b := false) (t := 164) (c := !u313.2.2.2) rfl rfl rfl rfl hb345
            try dsimp only [putL, setL, evL, getL]
            refine HK_passP 7 rfl (by kernel_rfl) (fun c l s h => hQp c l s h) ?_ (fun _ => hR) ?_
            ·exact wantF (j := 2) (b := false) (t := 164) (c := !u313.2.2.2) rfl rfl rfl rfl hb345
            refine HK_passP 8 rfl (by kernel_rfl) (fun c l s h => hQp c l s h) ?_ (fun _ => hR) ?_
            ·exact wantF (j := 2) (b := false) (t := 164) (c := !u313.2.2.2) rfl rfl rfl rfl hb345
            refine HK_passP 9 rfl (by kernel_rfl) (fun c l s h => hQp c l s h) ?_ (fun _ => hR) ?_
            ·exact wantF (j := 2) (b := false) (t := 164) (c := !u313.2.2.2) rfl rfl rfl rfl hb345
            try dsimp only [putL, setL, evL, getL]
            refine HK_readP 10 (v := .bool true) rfl (by kernel_rfl) hQp rfl (fun s' K hK => o_pickT rfl hb345 hK) rfl rfl (fun _ => hR) ?_
            refine HK_readP 11 (v := .bool true) rfl (by kernel_rfl) hQp rfl (fun s' K hK => o_move hK) rfl rfl (fun _ => hR) ?_
            refine HK_passP 12 rfl (by kernel_rfl) (fun c l s h => hQp c l s h) ?_ (fun _ => hR) ?_
            ·exact wantF (j := 11) (b := false) (t := 173) (c := true) rfl rfl rfl rfl rfl
            try dsimp only [putL, setL, evL, getL]
            refine HK_passP 13 rfl (by kernel_rfl) (fun c l s h => hQp c l s h) ?_ (fun _ => hR) ?_
            ·exact wantF (j := 11) (b := false) (t := 173) (c := true) rfl rfl rfl rfl rfl
            refine HK_passP 14 rfl (by kernel_rfl) (fun c l s h => hQp c l s h) ?_ (fun _ => hR) ?_
            ·exact wantF (j := 11) (b := false) (t := 173) (c := true) rfl rfl rfl rfl rfl
            refine HK_passP 15 rfl (by kernel_rfl) (fun c l s h => hQp c l s h) ?_ (fun _ => hR) ?_
            ·exact wantF (j := 11) (b := false) (t := 173) (c := true) rfl rfl rfl rfl rfl
            try dsimp only [putL, setL, evL, getL]
            refine HK_passP 16 rfl (by kernel_rfl) (fun c l s h => hQp c l s h) ?_ (fun _ => hR) ?_
            ·exact wantF (j := 11) (b := false) (t := 173) (c := true) rfl rfl rfl rfl rfl
            refine HK_passP 17 rfl (by kernel_rfl) (fun c l s h => hQp c l s h) ?_ (fun _ => hR) ?_
            ·exact wantF (j := 11) (b := false) (t := 173) (c := true) rfl rfl rfl rfl rfl
            refine HK_passP 18 rfl (by kernel_rfl) (fun c l s h => hQp c l s h) ?_ (fun _ => hR) ?_
            ·exact wantF (j := 11) (b := false) (t := 173) (c := true) rfl rfl rfl rfl rfl
            try dsimp only [putL, setL, evL, getL]
            refine HK_more [19] (by kernel_rfl) rfl (fun _ => hR) ⟨⟨_, rfl, Or.inr ⟨wantF (j := 11) (b := false) (t := 173) (c := true) rfl rfl rfl rfl rfl, ?_⟩⟩, trivial⟩
            refine HK_free (by kernel_rfl) ?_
            refine HX_passP 20 rfl (by kernel_rfl) (fun c l s h => hQp c l s h) ?_ ?_
            ·exact wantF (j := 11) (b := false) (t := 173) (c := true) rfl rfl rfl rfl rfl
            try dsimp only [putL, setL, evL, getL]
            refine HX_lim (R := fun _ => True) (k := 0) (fun s' => Gro s315 s') 23 ?_
            have hR := Gro.refl s315
            have hH0 := hH
            refine HK_readP 21 (v := .bool true) rfl (by kernel_rfl) hQp rfl (fun s' K hK => o_pickT rfl rfl hK) rfl rfl (fun _ => hR) ?_
            refine HK_done (fun _ => hR) (by kernel_rfl) ?_
            exact hK336 _ _ ⟨true, x260, A260, c260, H, rfl, hH.sel [2, 4, 3] (by decide), D260⟩
           ·refine HK_readP 3 (v := .pointer (some ⟨b314, 0 + 2, none⟩)) rfl (by kernel_rfl) hQp (wantT (j := 2) (b := false) (t := 164) (c := !u313.2.2.2) rfl rfl rfl rfl hb345) (fun s' K hK => o_faddr' (ft := 3) (off := 2) rfl Try.underlying138 rfl tI3 (by decide) hK) rfl rfl (fun _ => hR) ?_
            try dsimp only [putL, setL, evL, getL]
            refine HK_read 4 (v := .int .i64 u313.2.2.1) rfl (by kernel_rfl) hQp (wantT (j := 2) (b := false) (t := 164) (c := !u313.2.2.2) rfl rfl rfl rfl hb345) (fun s' hR' K hK => o_load' rfl Try.underlying3 rfl (has_gro hR' (hH0.hasv 4 rfl rfl)) hK) rfl rfl hR ?_
            refine HK_readP 5 (v := .int .i64 x259) rfl (by kernel_rfl) hQp (wantT (j := 2) (b := false) (t := 164) (c := !u313.2.2.2) rfl rfl rfl rfl hb345) (fun s' K hK => o_move hK) rfl rfl (fun _ => hR) ?_
            refine HK_readP 6 (v := .int .i64 (IntKind.i64.wrap (x259 + 1))) rfl (by kernel_rfl) hQp (wantT (j := 2) (b := false) (t := 164) (c := !u313.2.2.2) rfl rfl rfl rfl hb345) (fun s' K hK => o_bin rfl rfl rfl hK) rfl rfl (fun _ => hR) ?_
            try dsimp only [putL, setL, evL, getL]
            refine HK_readP 7 (v := .int .i64 p3) rfl (by kernel_rfl) hQp (wantT (j := 2) (b := false) (t := 164) (c := !u313.2.2.2) rfl rfl rfl rfl hb345) (fun s' K hK => o_move hK) rfl rfl (fun _ => hR) ?_
            refine HK_more [8] (by kernel_rfl) rfl (fun _ => hR) ⟨⟨_, rfl, Or.inl ⟨(wantT (j := 2) (b := false) (t := 164) (c := !u313.2.2.2) rfl rfl rfl rfl hb345), ?_⟩⟩, trivial⟩
            replace H := headE H
            obtain ⟨u346, hu346, H⟩ := H
            skip
            refine o_call (args := #[.int .i64 u313.2.2.1, .int .i64 (IntKind.i64.wrap (x259 + 1)), .int .i64 p3]) Try.func105 rfl rfl rfl (impl_inRange.ok sb s315 no u313.2.2.1 (IntKind.i64.wrap (x259 + 1)) p3 (Hp.own hH.bs) _ hu346) ?_
            rintro _ s346 ⟨rfl, hD⟩
            replace hR := hR.trans hD.gro
            replace hH := hH.back0 hD (Up.refl _ _ _)
            clear hD
            refine HK_readP 9 (v := .bool (!u346)) rfl (by kernel_rfl) hQp (wantT (j := 2) (b := false) (t := 164) (c := !u313.2.2.2) rfl rfl rfl rfl hb345) (fun s' K hK => o_not rfl hK) rfl rfl (fun _ => hR) ?_
            try dsimp only [putL, setL, evL, getL]
            refine HK_readP 10 (v := .bool (!u346)) rfl (by kernel_rfl) hQp rfl (fun s' K hK => o_pickF rfl hb345 hK) rfl rfl (fun _ => hR) ?_
            refine HK_readP 11 (v := .bool (!u346)) rfl (by kernel_rfl) hQp rfl (fun s' K hK => o_move hK) rfl rfl (fun _ => hR) ?_
            revert H
            refine it (fun hb347 H => ?_) (fun hb347 H => ?_)
            ·refine HK_passP 12 rfl (by kernel_rfl) (fun c l s h => hQp c l s h) ?_ (fun _ => hR) ?_
             ·exact wantF (j := 11) (b := false) (t := 173) (c := !u346) rfl rfl rfl rfl hb347
             try dsimp only [putL, setL, evL, getL]
             refine HK_passP 13 rfl (by kernel_rfl) (fun c l s h => hQp c l s h) ?_ (fun _ => hR) ?_
             ·exact wantF (j := 11) (b := false) (t := 173) (c := !u346) rfl rfl rfl rfl hb347
             refine HK_passP 14 rfl (by kernel_rfl) (fun c l s h => hQp c l s h) ?_ (fun _ => hR) ?_
             ·exact wantF (j := 11) (b := false) (t := 173) (c := !u346) rfl rfl rfl rfl hb347
             refine HK_passP 15 rfl (by kernel_rfl) (fun c l s h => hQp c l s h) ?_ (fun _ => hR) ?_
             ·exact wantF (j := 11) (b := false) (t := 173) (c := !u346) rfl rfl rfl rfl hb347
             try dsimp only [putL, setL, evL, getL]
             refine HK_passP 16 rfl (by kernel_rfl) (fun c l s h => hQp c l s h) ?_ (fun _ => hR) ?_
             ·exact wantF (j := 11) (b := false) (t := 173) (c := !u346) rfl rfl rfl rfl hb347
             refine HK_passP 17 rfl (by kernel_rfl) (fun c l s h => hQp c l s h) ?_ (fun _ => hR) ?_
             ·exact wantF (j := 11) (b := false) (t := 173) (c := !u346) rfl rfl rfl rfl hb347
             refine HK_passP 18 rfl (by kernel_rfl) (fun c l s h => hQp c l s h) ?_ (fun _ => hR) ?_
             ·exact wantF (j := 11) (b := false) (t := 173) (c := !u346) rfl rfl rfl rfl hb347
             try dsimp only [putL, setL, evL, getL]
             refine HK_more [19] (by kernel_rfl) rfl (fun _ => hR) ⟨⟨_, rfl, Or.inr ⟨wantF (j := 11) (b := false) (t := 173) (c := !u346) rfl rfl rfl rfl hb347, ?_⟩⟩, trivial⟩
             refine HK_free (by kernel_rfl) ?_
             refine HX_passP 20 rfl (by kernel_rfl) (fun c l s h => hQp c l s h) ?_ ?_
             ·exact wantF (j := 11) (b := false) (t := 173) (c := !u346) rfl rfl rfl rfl hb347
             try dsimp only [putL, setL, evL, getL]
             refine HX_lim (R := fun _ => True) (k := 0) (fun s' => Gro s346 s') 23 ?_
             have hR := Gro.refl s346
             have hH0 := hH
             refine HK_readP 21 (v := .bool true) rfl (by kernel_rfl) hQp rfl (fun s' K hK => o_pickT rfl hb347 hK) rfl rfl (fun _ => hR) ?_
             refine HK_done (fun _ => hR) (by kernel_rfl) ?_
             exact hK336 _ _ ⟨true, x260, A260, c260, H, rfl, hH.sel [2, 4, 3] (by decide), D260⟩
            ·refine HK_readP 12 (v := .pointer (some ⟨bp0, 0, none⟩)) rfl (by kernel_rfl) hQp (wantT (j := 11) (b := false) (t := 173) (c := !u346) rfl rfl rfl rfl hb347) (fun s' K hK => o_move hK) rfl rfl (fun _ => hR) ?_
             try dsimp only [putL, setL, evL, getL]
             refine HK_readP 13 (v := .slice A27 u26.length c27) rfl (by kernel_rfl) hQp (wantT (j := 11) (b := false) (t := 173) (c := !u346) rfl rfl rfl rfl hb347) (fun s' K hK => o_move hK) rfl rfl (fun _ => hR) ?_
             replace H := headE H
             obtain ⟨u348, hu348, H⟩ := H
             obtain ⟨b348, o348, cs348, hr348, hh348, hel348⟩ := Rd.elb D27 hu348
             obtain rfl := hr348
             refine HK_readP 14 (v := .pointer (some ⟨b348, o348, none⟩)) rfl (by kernel_rfl) hQp (wantT (j := 11) (b := false) (t := 173) (c := !u346) rfl rfl rfl rfl hb347) (fun s' K hK => hel348 s' rfl rfl Try.underlying24 tI3 hK) rfl rfl (fun _ => hR) ?_
             refine HK_read 15 (v := .int .i64 u348) rfl (by kernel_rfl) hQp (wantT (j := 11) (b := false) (t := 173) (c := !u346) rfl rfl rfl rfl hb347) (fun s' hR' K hK => o_load' rfl Try.underlying3 rfl ((hh348 (hH0.bs.mono.trans hR'.mono)) 0 _ rfl) hK) rfl rfl hR ?_
             try dsimp only [putL, setL, evL, getL]
             refine HK_readP 16 (v := .int .i64 x259) rfl (by kernel_rfl) hQp (wantT (j := 11) (b := false) (t := 173) (c := !u346) rfl rfl rfl rfl hb347) (fun s' K hK => o_move hK) rfl rfl (fun _ => hR) ?_
             refine HK_readP 17 (v := .pointer (some ⟨b314, 0 + 2, none⟩)) rfl (by kernel_rfl) hQp (wantT (j := 11) (b := false) (t := 173) (c := !u346) rfl rfl rfl rfl hb347) (fun s' K hK => o_faddr' (ft := 3) (off := 2) rfl Try.underlying138 rfl tI3 (by decide) hK) rfl rfl (fun _ => hR) ?_
             refine HK_read 18 (v := .int .i64 u313.2.2.1) rfl (by kernel_rfl) hQp (wantT (j := 11) (b := false) (t := 173) (c := !u346) rfl rfl rfl rfl hb347) (fun s' hR' K hK => o_load' rfl Try.underlying3 rfl (has_gro hR' (hH0.hasv 4 rfl rfl)) hK) rfl rfl hR ?_
             try dsimp only [putL, setL, evL, getL]
             refine HK_more [19] (by kernel_rfl) rfl (fun _ => hR) ⟨⟨_, rfl, Or.inl ⟨(wantT (j := 11) (b := false) (t := 173) (c := !u346) rfl rfl rfl rfl hb347), ?_⟩⟩, trivial⟩
             replace H := headE H
             obtain ⟨u349, hu349, H⟩ := H
             obtain ⟨F1, hA, hB⟩ := hH.take [2, 3] (by decide)
             dsimp only [addC, setC, rmC, selC, getC] at hA
             skip
             refine o_call (args := #[.pointer (some ⟨bp0, 0, none⟩), .int .i64 u348, .int .i64 x259, .int .i64 u313.2.2.1]) Try.func156 rfl rfl rfl (ih sb s346 F1 bp0 bp0_0 A0_0_0p c0_0_0p p0_0_0 A0_0_1p c0_0_1p p0_0_1 A0_0_2p c0_0_2p p0_0_2 A0_0_3p c0_0_3p p0_0_3 A260 c260 x260 u348 x259 u313.2.2.1 HRp0_0_0 HRp0_0_1 HRp0_0_2 HRp0_0_3 D260 hA _ hu349) ?_
             rintro _ s349 ⟨A350, c350, rfl, hD, D350⟩
             replace hH := hB _ _ _ (Up.refl _ _ _) hD
             clear hD hA hB
             refine HK_free (by kernel_rfl) ?_
             refine HX_lim (R := fun _ => True) (k := 0) (fun s' => Gro s349 s') 23 ?_
             have hR := Gro.refl s349
             have hH0 := hH
             try dsimp only [putL, setL, evL, getL]
             refine HK_readP 20 (v := .bool (!u349.1)) rfl (by kernel_rfl) hQp (wantT (j := 11) (b := false) (t := 173) (c := !u346) rfl rfl rfl rfl hb347) (fun s' K hK => o_not rfl hK) rfl rfl (fun _ => hR) ?_
             refine HK_readP 21 (v := .bool (!u349.1)) rfl (by kernel_rfl) hQp rfl (fun s' K hK => o_pickF rfl hb347 hK) rfl rfl (fun _ => hR) ?_
             refine HK_done (fun _ => hR) (by kernel_rfl) ?_
             exact hK336 _ _ ⟨!u349.1, u349.2, A350, c350, H, rfl, hH.sel [5, 4, 6] (by decide), D350⟩
          ·rintro l' s351 ⟨x343, x344, A344, c344, H, hl, hH, D344⟩
           revert l'
           refine skA ?_
           dsimp only [Al, Sk]
           intros
           replace H := hG336 _ H
           try dsimp only at H
           revert H
           refine ct rfl (fun hb352 H => ?_) (fun hb352 H => ?_)
           ·refine sr fun K353 hK353 => ?_
            try dsimp only [putL, setL, evL, getL]
            refine ag (HL_nil (hK353 _ _ ?_))
            dsimp only [putL, setL, evL, getL]
            refine HT_ret ?_
            replace H := escH (fun z hz => hG72 _ hz) H
            exact hQr _ _ [.bool false] _ ⟨rfl, trivial⟩ H ⟨A344, c344, rfl, hH.sel [0, 2] (by decide), D344⟩
           ·refine HT_skip (hK335 _ _ ?_)
            refine HT_region ?_
            refine hc (o_faddr' (ft := 3) (off := 2) rfl Try.underlying138 rfl tI3 (by decide) (hc (o_load' rfl Try.underlying3 rfl (hH.hasv 1 rfl rfl) (ag (HL_nil ?_)))))
            exact hK308 _ _ ⟨kf, Nat.lt_succ_self kf, u313.2.2.1, x344, A344, c344, H, rfl, hH.sel [0, 2] (by decide), D344⟩
         ·refine HT_exit ?_
          exact hK72 _ _ ⟨x260, A260, c260, H, rfl, hH, D260⟩
       ·rintro l' s354 ⟨x213, A213, c213, H, hl, hH, D213⟩
        revert l'
        refine skA ?_
        dsimp only [Al, Sk]
        intros
        replace H := hG72 _ H
        try dsimp only at H
        refine sr fun K355 hK355 => ?_
        try dsimp only [putL, setL, evL, getL]
        refine ag (HL_nil (hK355 _ _ ?_))
        dsimp only [putL, setL, evL, getL]
        refine HT_ret ?_
        exact hQr _ _ [.bool true] _ ⟨rfl, trivial⟩ H ⟨A213, c213, rfl, hH, D213⟩
theorem impl_spanReader_take.okr : ∀ (kr : Nat) (sb s : St) (F0 : Fp) (bp0 : Nat) (bp0_0 : Nat) (A0_0_0p : Option Addr) (c0_0_0p : Nat) (p0_0_0 : List ((Int) × (List (Int)))) (A0_0_1p : Option Addr) (c0_0_1p : Nat) (p0_0_1 : List (List (Int))) (A0_0_2p : Option Addr) (c0_0_2p : Nat) (p0_0_2 : List (Int)) (A0_0_3p : Option Addr) (c0_0_3p : Nat) (p0_0_3 : List (List (List (Bool)))) (A0_1p : Option Addr) (c0_1p : Nat) (p0_1 : List ((Int) × (Int) × (Int))) (p1 : Int) (p2 : Int) (p3 : Int) (HRp0_0_0 : Rd KS139 sb A0_0_0p c0_0_0p p0_0_0) (HRp0_0_1 : Rd (Kd.sl KI) sb A0_0_1p c0_0_1p p0_0_1) (HRp0_0_2 : Rd KI sb A0_0_2p c0_0_2p p0_0_2) (HRp0_0_3 : Rd (Kd.sl (Kd.sl Kd.bool)) sb A0_0_3p c0_0_3p p0_0_3) (HRp0_1 : Rd KS138 sb A0_1p c0_1p p0_1) (hH : Hp sb s F0 s [Ck.ov bp0 [.pointer (some ⟨bp0_0, 0, none⟩), .slice A0_1p p0_1.length c0_1p] 167, Ck.ov bp0_0 [.slice A0_0_0p p0_0_0.length c0_0_0p, .slice A0_0_1p p0_0_1.length c0_0_1p, .slice A0_0_2p p0_0_2.length c0_0_2p, .slice A0_0_3p p0_0_3.length c0_0_3p] 165]) (r : Bool × (List ((Int) × (Int) × (Int)))) (H : impl_spanReader_take.r kr p0_0_0 p0_0_1 p0_0_2 p0_0_3 p0_1 p1 p2 p3 = some r), GCall Try.prog 156 #[.pointer (some ⟨bp0, 0, none⟩), .int .i64 p1, .int .i64 p2, .int .i64 p3] s (impl_spanReader_take.post sb s F0 bp0 bp0_0 A0_0_0p c0_0_0p p0_0_0 A0_0_1p c0_0_1p p0_0_1 A0_0_2p c0_0_2p p0_0_2 A0_0_3p c0_0_3p p0_0_3 r)
 | 0, sb, s, F0, bp0, bp0_0, A0_0_0p, c0_0_0p, p0_0_0, A0_0_1p, c0_0_1p, p0_0_1, A0_0_2p, c0_0_2p, p0_0_2, A0_0_3p, c0_0_3p, p0_0_3, A0_1p, c0_1p, p0_1, p1, p2, p3, HRp0_0_0, HRp0_0_1, HRp0_0_2, HRp0_0_3, HRp0_1, hH, r, H => by cases H
 | kr + 1, sb, s, F0, bp0, bp0_0, A0_0_0p, c0_0_0p, p0_0_0, A0_0_1p, c0_0_1p, p0_0_1, A0_0_2p, c0_0_2p, p0_0_2, A0_0_3p, c0_0_3p, p0_0_3, A0_1p, c0_1p, p0_1, p1, p2, p3, HRp0_0_0, HRp0_0_1, HRp0_0_2, HRp0_0_3, HRp0_1, hH, r, H => impl_spanReader_take.okb (impl_spanReader_take.r kr) (impl_spanReader_take.okr kr) sb s F0 bp0 bp0_0 A0_0_0p c0_0_0p p0_0_0 A0_0_1p c0_0_1p p0_0_1 A0_0_2p c0_0_2p p0_0_2 A0_0_3p c0_0_3p p0_0_3 A0_1p c0_1p p0_1 p1 p2 p3 HRp0_0_0 HRp0_0_1 HRp0_0_2 HRp0_0_3 HRp0_1 hH r H
theorem impl_spanReader_take.ok (sb s : St) (F0 : Fp) (bp0 : Nat) (bp0_0 : Nat) (A0_0_0p : Option Addr) (c0_0_0p : Nat) (p0_0_0 : List ((Int) × (List (Int)))) (A0_0_1p : Option Addr) (c0_0_1p : Nat) (p0_0_1 : List (List (Int))) (A0_0_2p : Option Addr) (c0_0_2p : Nat) (p0_0_2 : List (Int)) (A0_0_3p : Option Addr) (c0_0_3p : Nat) (p0_0_3 : List (List (List (Bool)))) (A0_1p : Option Addr) (c0_1p : Nat) (p0_1 : List ((Int) × (Int) × (Int))) (p1 : Int) (p2 : Int) (p3 : Int) (HRp0_0_0 : Rd KS139 sb A0_0_0p c0_0_0p p0_0_0) (HRp0_0_1 : Rd (Kd.sl KI) sb A0_0_1p c0_0_1p p0_0_1) (HRp0_0_2 : Rd KI sb A0_0_2p c0_0_2p p0_0_2) (HRp0_0_3 : Rd (Kd.sl (Kd.sl Kd.bool)) sb A0_0_3p c0_0_3p p0_0_3) (HRp0_1 : Rd KS138 sb A0_1p c0_1p p0_1) (hH : Hp sb s F0 s [Ck.ov bp0 [.pointer (some ⟨bp0_0, 0, none⟩), .slice A0_1p p0_1.length c0_1p] 167, Ck.ov bp0_0 [.slice A0_0_0p p0_0_0.length c0_0_0p, .slice A0_0_1p p0_0_1.length c0_0_1p, .slice A0_0_2p p0_0_2.length c0_0_2p, .slice A0_0_3p p0_0_3.length c0_0_3p] 165]) (r : Bool × (List ((Int) × (Int) × (Int)))) (H : impl_spanReader_take.f p0_0_0 p0_0_1 p0_0_2 p0_0_3 p0_1 p1 p2 p3 = some r) : GCall Try.prog 156 #[.pointer (some ⟨bp0, 0, none⟩), .int .i64 p1, .int .i64 p2, .int .i64 p3] s (impl_spanReader_take.post sb s F0 bp0 bp0_0 A0_0_0p c0_0_0p p0_0_0 A0_0_1p c0_0_1p p0_0_1 A0_0_2p c0_0_2p p0_0_2 A0_0_3p c0_0_3p p0_0_3 r) := impl_spanReader_take.okr _ sb s F0 bp0 bp0_0 A0_0_0p c0_0_0p p0_0_0 A0_0_1p c0_0_1p p0_0_1 A0_0_2p c0_0_2p p0_0_2 A0_0_3p c0_0_3p p0_0_3 A0_1p c0_1p p0_1 p1 p2 p3 HRp0_0_0 HRp0_0_1 HRp0_0_2 HRp0_0_3 HRp0_1 hH r H
def impl_CheckParse.f (p0 : List ((Int) × (List (Int)))) (p1 : List (Int)) (p2 : List ((Int) × (Int) × (Int))) : Option (Bool × Bool) := ((impl_canParse.f p0 p1).bind fun u17 => if (!u17) = true then (some true) else (some (decide ((p2.length : Int) > 200)))).bind fun (o : Bool) => match o with | x16 => (if x16 = true then (some (false, false)) else ((impl_parts.f p0).bind fun u23 => (impl_spanReader_take.f p0 u23.1 p1 [] p2 (IntKind.i64.wrap ((p0.length : Int) - 1)) 0 (p1.length : Int)).bind fun u29 => if u29.1 = true then (some (((u29.2.length : Int) == 0), true)) else (some (false, true))))
def impl_CheckParse.post (sb s : St) (F0 : Fp) (r : Bool × Bool) : Value → St → Prop := fun v s' => v = .tuple #[.bool r.1, .bool r.2] ∧ Hp sb s F0 s' []
set_option maxRecDepth 100000 in
set_option maxHeartbeats 4000000 in
theorem impl_CheckParse.ok (sb s : St) (F0 : Fp) (A0p : Option Addr) (c0p : Nat) (p0 : List ((Int) × (List (Int)))) (A1p : Option Addr) (c1p : Nat) (p1 : List (Int)) (A2p : Option Addr) (c2p : Nat) (p2 : List ((Int) × (Int) × (Int))) (HRp0 : Rd KS139 sb A0p c0p p0) (HRp1 : Rd KI sb A1p c1p p1) (HRp2 : Rd KS138 sb A2p c2p p2) (hH : Hp sb s F0 s []) (r : Bool × Bool) (H : impl_CheckParse.f p0 p1 p2 = some r) : GCall Try.prog 65 #[.slice A0p p0.length c0p, .slice A1p p1.length c1p, .slice A2p p2.length c2p] s (impl_CheckParse.post sb s F0 r) := by
 refine GCall_ofr (impl_CheckParse.post sb s F0) [.tmp 6, .tmp 7] (ud [.slice A0p p0.length c0p, .slice A1p p1.length c1p, .slice A2p p2.length c2p] 45) Try.func65 rfl rfl rfl fun w Q hQr hQn hQp => ?_
 replace H := topE H
 unfold impl_CheckParse.f at H
 dsimp only [ud, un]
 refine sr fun K1 hK1 => ag (ag (HL_nil (hK1 _ _ ?_)))
 dsimp only [putL, setL, evL, getL]
 refine HT_seq_k fun K12 hK12 => ?_
 refine joinH H fun G13 hG13 H => ?_
 refine HT_joinK (fun l' s' => ∃ (x16 : Bool), G13 x16 = some r ∧ skim [0, 0, 0, 16] l' = ([.slice A0p p0.length c0p, .slice A1p p1.length c1p, .slice A2p p2.length c2p, .bool x16], 29) ∧ Hp sb s F0 s' []) ?_ ?_
 ·intro K13 hK13
  refine HT_region ?_
  refine mv (mv ?_)
  replace H := headE H
  obtain ⟨u17, hu17, H⟩ := H
  refine hc (o_call (args := #[.slice A0p p0.length c0p, .slice A1p p1.length c1p]) Try.func152 rfl rfl rfl (impl_canParse.ok sb s no A0p c0p p0 A1p c1p p1 HRp0 HRp1 (Hp.own hH.bs) _ hu17) ?_)
  rintro _ s17 ⟨rfl, hD⟩
  replace hH := hH.back0 hD (Up.refl _ _ _)
  clear hD
  try dsimp only [putL, setL, evL, getL]
  refine hc (o_not rfl (mv ?_))
  revert H
  refine it (fun hb18 H => ?_) (fun hb18 H => ?_)
  ·refine wf rfl rfl rfl rfl hb18 ?_
   dsimp only [putL, setL, evL, getL]
   refine wf rfl rfl rfl rfl hb18 (wf rfl rfl rfl rfl hb18 (hc (o_pickT rfl hb18 (HL_nil ?_))))
   exact hK13 _ _ ⟨true, H, rfl, hH⟩
  ·refine wt rfl rfl rfl rfl hb18 (o_move ?_)
   dsimp only [putL, setL, evL, getL]
   refine wt rfl rfl rfl rfl hb18 (o_len rfl Try.underlying54 (wt rfl rfl rfl rfl hb18 (o_bin rfl rfl rfl (hc (o_pickF rfl hb18 (HL_nil ?_))))))
   exact hK13 _ _ ⟨decide ((p2.length : Int) > 200), H, rfl, hH⟩
 ·rintro l' s19 ⟨x16, H, hl, hH⟩
  revert l'
  refine skA ?_
  dsimp only [Al, Sk]
  intros
  replace H := hG13 _ H
  try dsimp only at H
  revert H
  refine ct rfl (fun hb20 H => ?_) (fun hb20 H => ?_)
  ·refine sr fun K21 hK21 => ?_
   try dsimp only [putL, setL, evL, getL]
   refine ag (ag (HL_nil (hK21 _ _ ?_)))
   dsimp only [putL, setL, evL, getL]
   refine HT_ret ?_
   exact hQr _ _ [.bool false, .bool false] _ ⟨rfl, rfl, trivial⟩ H ⟨rfl, hH⟩
  ·refine HT_skip (hK12 _ _ (sr fun K22 hK22 => (mv ?_)))
   replace H := headE H
   obtain ⟨u23, hu23, H⟩ := H
   refine hc (o_call (args := #[.slice A0p p0.length c0p]) Try.func155 rfl rfl rfl (impl_parts.ok sb s19 no A0p c0p p0 HRp0 (Hp.own hH.bs) _ hu23) ?_)
   rintro _ s23 ⟨A24, c24, rfl, hD⟩
   replace hH := hH.back0 hD (Up.refl _ _ _)
   clear hD
   refine mv ?_
   dsimp only [putL, setL, evL, getL]
   refine hc (o_extract rfl rfl (hc (o_extract rfl rfl (ag ?_))))
   dsimp only [putL, setL, evL, getL]
   refine ag (HL_nil (hK22 _ _ ?_))
   dsimp only [putL, setL, evL, getL]
   refine sr fun K25 hK25 => mv (mv (mv ?_))
   dsimp only [putL, setL, evL, getL]
   refine hc (o_build (pl := [(0, 1), (1, 1), (2, 1), (3, 1)]) (cs := #[.slice A0p p0.length c0p, .slice A24 u23.1.length c24, .slice A1p p1.length c1p, .slice none 0 0]) Try.underlying165 tI165 (by kernel_rfl) (by kernel_rfl) rfl (hc (o_boxH hH rfl ?_)))
   clear hH
   intro b26 s26 hH _
   refine mv ?_
   dsimp only [putL, setL, evL, getL]
   refine hc (o_build (pl := [(0, 1), (1, 1)]) (cs := #[.pointer (some ⟨b26, 0, none⟩), .slice A2p p2.length c2p]) Try.underlying167 tI167 (by kernel_rfl) (by kernel_rfl) rfl (hc (o_boxH hH rfl ?_)))
   clear hH
   intro b27 s27 hH _
   refine ag (HL_nil (hK25 _ _ ?_))
   dsimp only [putL, setL, evL, getL]
   refine sr fun K28 hK28 => mv (mv (hc (o_len rfl Try.underlying57 ?_)))
   dsimp only [putL, setL, evL, getL]
   refine bn rfl rfl rfl (mv (hc (o_len rfl Try.underlying24 ?_)))
   replace H := headE H
   obtain ⟨u29, hu29, H⟩ := H
   obtain ⟨F1, sx, hx, hC, hA, hB⟩ := hH.takeT [2, 1] (by decide)
   dsimp only [addC, setC, rmC, selC, getC] at hA
   try dsimp only [putL, setL, evL, getL]
   refine hc (o_call (args := #[.pointer (some ⟨b27, 0, none⟩), .int .i64 (IntKind.i64.wrap ((p0.length : Int) - 1)), .int .i64 0, .int .i64 (p1.length : Int)]) Try.func156 rfl rfl rfl (impl_spanReader_take.ok sx s27 F1 b27 b26 A0p c0p p0 A24 c24 u23.1 A1p c1p p1 none 0 [] A2p c2p p2 (IntKind.i64.wrap ((p0.length : Int) - 1)) 0 (p1.length : Int) (HRp0.mono hx.mono) (Ck.rdT hx (hC 0 (by decide)) rfl) (HRp1.mono hx.mono) (Rd.nil _ _) (HRp2.mono hx.mono) hA _ hu29) ?_)
   rintro _ s29 ⟨A30, c30, rfl, hD, D30⟩
   replace hH := hB _ _ _ inferInstance hD
   clear hD hA hB hx hC
   refine mv ?_
   revert H
   refine it (fun hb31 H => ?_) (fun hb31 H => ?_)
   ·refine wt rfl rfl rfl rfl hb31 (o_move ?_)
    dsimp only [putL, setL, evL, getL]
    refine wt rfl rfl rfl rfl hb31 (o_nilck rfl (wt rfl rfl rfl rfl hb31 (o_faddr' (ft := 54) (off := 1) rfl Try.underlying167 rfl tI54 (by decide) (wt rfl rfl rfl rfl hb31 (o_load' rfl Try.underlying54 rfl (hH.hasv 3 rfl rfl) ?_)))))
    dsimp only [putL, setL, evL, getL]
    refine wt rfl rfl rfl rfl hb31 (o_len rfl Try.underlying54 (wt rfl rfl rfl rfl hb31 (o_bin rfl rfl rfl (hc (o_pickT rfl hb31 ?_)))))
    dsimp only [putL, setL, evL, getL]
    refine ag (ag (HL_nil (hK28 _ _ ?_)))
    dsimp only [putL, setL, evL, getL]
    refine HT_ret ?_
    exact hQr _ _ [.bool ((u29.2.length : Int) == 0), .bool true] _ ⟨rfl, rfl, trivial⟩ H ⟨rfl, hH.sel [] (by decide)⟩
   ·refine wf rfl rfl rfl rfl hb31 (wf rfl rfl rfl rfl hb31 (wf rfl rfl rfl rfl hb31 ?_))
    dsimp only [putL, setL, evL, getL]
    refine wf rfl rfl rfl rfl hb31 (wf rfl rfl rfl rfl hb31 (wf rfl rfl rfl rfl hb31 ?_))
    dsimp only [putL, setL, evL, getL]
    refine hc (o_pickF rfl hb31 (ag (ag (HL_nil (hK28 _ _ ?_)))))
    dsimp only [putL, setL, evL, getL]
    refine HT_ret ?_
    exact hQr _ _ [.bool false, .bool true] _ ⟨rfl, rfl, trivial⟩ H ⟨rfl, hH.sel [] (by decide)⟩
def laws_eqIntS.l1 (p0 : List (Int)) (p1 : List (Int)) : Nat → Int → Option (Lo Unit Bool)
 | 0, _ => none
 | kf + 1, x48 => if (decide (x48 < (p0.length : Int))) = true then ((rd? p0 x48).bind fun u65 => (rd? p1 x48).bind fun u66 => if (u65 != u66) = true then ((some false).bind fun z => some (Lo.ret z)) else (laws_eqIntS.l1 p0 p1 kf (IntKind.i64.wrap (x48 + 1)))) else (some (Lo.go ()))
def laws_eqIntS.f (p0 : List (Int)) (p1 : List (Int)) : Option Bool := if ((p0.length : Int) != (p1.length : Int)) = true then (some false) else ((laws_eqIntS.l1 p0 p1 ((((p0.length : Int)) - (0)).toNat + 2) 0).bind fun (o : Lo Unit Bool) => match o with | .go () => (some true) | .ret z => some z)
def laws_eqIntS.post (sb s : St) (F0 : Fp) (r : Bool) : Value → St → Prop := fun v s' => v = .bool r ∧ Hp sb s F0 s' []
set_option maxRecDepth 100000 in
set_option maxHeartbeats 4000000 in
theorem laws_eqIntS.ok (sb s : St) (F0 : Fp) (A0p : Option Addr) (c0p : Nat) (p0 : List (Int)) (A1p : Option Addr) (c1p : Nat) (p1 : List (Int)) (HRp0 : Rd KI sb A0p c0p p0) (HRp1 : Rd KI sb A1p c1p p1) (hH : Hp sb s F0 s []) (r : Bool) (H : laws_eqIntS.f p0 p1 = some r) : GCall Try.prog 63 #[.slice A0p p0.length c0p, .slice A1p p1.length c1p] s (laws_eqIntS.post sb s F0 r) := by
 refine GCall_ofr (laws_eqIntS.post sb s F0) [.tmp 4] (ud [.slice A0p p0.length c0p, .slice A1p p1.length c1p] 24) Try.func63 rfl rfl rfl fun w Q hQr hQn hQp => ?_
 replace H := topE H
 unfold laws_eqIntS.f at H
 dsimp only [ud, un]
 refine sr fun K1 hK1 => ag (HL_nil (hK1 _ _ ?_))
 dsimp only [putL, setL, evL, getL]
 refine HT_seq_k fun K2 hK2 => sr fun K3 hK3 => mv (hc (o_len rfl Try.underlying24 (mv ?_)))
 dsimp only [putL, setL, evL, getL]
 refine hc (o_len rfl Try.underlying24 (bn rfl rfl rfl (HL_nil (hK3 _ _ ?_))))
 dsimp only [putL, setL, evL, getL]
 revert H
 refine ct rfl (fun hb4 H => ?_) (fun hb4 H => ?_)
 ·refine sr fun K5 hK5 => ag (HL_nil (hK5 _ _ ?_))
  dsimp only [putL, setL, evL, getL]
  refine HT_ret ?_
  exact hQr _ _ [.bool false] _ ⟨rfl, trivial⟩ H ⟨rfl, hH⟩
 ·refine HT_skip (hK2 _ _ (HT_seq_k fun K6 hK6 => (sr fun K7 hK7 => (ag (HL_nil (hK7 _ _ ?_))))))
  dsimp only [putL, setL, evL, getL]
  refine joinH H fun G8 hG8 H => ?_
  refine HT_toK (fun l' s' => G8 (.go ()) = some r ∧ skim [] l' = ([], 27) ∧ Hp sb s F0 s' []) ?_ ?_
  ·intro K8 hK8
   refine HT_block ?_
   refine HT_loopK (fun kf l' s' => ∃ (x48 : Int), (laws_eqIntS.l1 p0 p1 kf x48).bind G8 = some r ∧ skim [0, 0, 3] l' = ([.slice A0p p0.length c0p, .slice A1p p1.length c1p, .int .i64 x48], 21) ∧ Hp sb s F0 s' []) ((((p0.length : Int)) - (0)).toNat + 2) ⟨0, H, rfl, hH⟩ ?_
   rintro kf l' s59 ⟨x48, H, hl, hH⟩ K59 hK59
   revert l'
   refine skA ?_
   dsimp only [Al, Sk]
   intros
   cases kf with
   | zero => simp [laws_eqIntS.l1] at H
   | succ kf =>
    rw [laws_eqIntS.l1] at H
    refine HT_seq_k fun K60 hK60 => sr fun K61 hK61 => mv (mv (hc (o_len rfl Try.underlying24 ?_)))
    dsimp only [putL, setL, evL, getL]
    refine bn rfl rfl rfl (HL_nil (hK61 _ _ ?_))
    dsimp only [putL, setL, evL, getL]
    revert H
    refine ct rfl (fun hb62 H => ?_) (fun hb62 H => ?_)
    ·refine HT_skip (hK60 _ _ (HT_seq_k fun K63 hK63 => (HT_block ?_)))
     refine sx hMix fun K64 hK64 => ?_
     refine HX_lim (R := fun _ => True) (k := 0) (fun s' => Gro s59 s') 10 ?_
     have hR := Gro.refl s59
     have hH0 := hH
     refine HK_readP 0 (v := .slice A0p p0.length c0p) rfl (by kernel_rfl) hQp rfl (fun s' K hK => o_move hK) rfl rfl (fun _ => hR) ?_
     refine HK_readP 1 (v := .int .i64 x48) rfl (by kernel_rfl) hQp rfl (fun s' K hK => o_move hK) rfl rfl (fun _ => hR) ?_
     replace H := headE H
     obtain ⟨u65, hu65, H⟩ := H
     obtain ⟨b65, o65, cs65, hr65, hh65, hel65⟩ := Rd.elb HRp0 hu65
     obtain rfl := hr65
     try dsimp only [putL, setL, evL, getL]
     refine HK_readP 2 (v := .pointer (some ⟨b65, o65, none⟩)) rfl (by kernel_rfl) hQp rfl (fun s' K hK => hel65 s' rfl rfl Try.underlying24 tI3 hK) rfl rfl (fun _ => hR) ?_
     refine HK_read 3 (v := .int .i64 u65) rfl (by kernel_rfl) hQp rfl (fun s' hR' K hK => o_load' rfl Try.underlying3 rfl ((hh65 (hH0.bs.mono.trans hR'.mono)) 0 _ rfl) hK) rfl rfl hR ?_
     refine HK_readP 4 (v := .slice A1p p1.length c1p) rfl (by kernel_rfl) hQp rfl (fun s' K hK => o_move hK) rfl rfl (fun _ => hR) ?_
     try dsimp only [putL, setL, evL, getL]
     refine HK_readP 5 (v := .int .i64 x48) rfl (by kernel_rfl) hQp rfl (fun s' K hK => o_move hK) rfl rfl (fun _ => hR) ?_
     replace H := headE H
     obtain ⟨u66, hu66, H⟩ := H
     obtain ⟨b66, o66, cs66, hr66, hh66, hel66⟩ := Rd.elb HRp1 hu66
     obtain rfl := hr66
     refine HK_readP 6 (v := .pointer (some ⟨b66, o66, none⟩)) rfl (by kernel_rfl) hQp rfl (fun s' K hK => hel66 s' rfl rfl Try.underlying24 tI3 hK) rfl rfl (fun _ => hR) ?_
     refine HK_read 7 (v := .int .i64 u66) rfl (by kernel_rfl) hQp rfl (fun s' hR' K hK => o_load' rfl Try.underlying3 rfl ((hh66 (hH0.bs.mono.trans hR'.mono)) 0 _ rfl) hK) rfl rfl hR ?_
     try dsimp only [putL, setL, evL, getL]
     refine HK_readP 8 (v := .bool (u65 != u66)) rfl (by kernel_rfl) hQp rfl (fun s' K hK => o_bin rfl rfl rfl hK) rfl rfl (fun _ => hR) ?_
     refine HK_done (fun _ => hR) (by kernel_rfl) ?_
     refine hK64 _ _ ?_
     try dsimp only [putL, setL, evL, getL]
     revert H
     refine ct rfl (fun hb67 H => ?_) (fun hb67 H => ?_)
     ·refine sr fun K68 hK68 => ag (HL_nil (hK68 _ _ ?_))
      dsimp only [putL, setL, evL, getL]
      refine HT_ret ?_
      replace H := escH (fun z hz => hG8 _ hz) H
      exact hQr _ _ [.bool false] _ ⟨rfl, trivial⟩ H ⟨rfl, hH⟩
     ·refine HT_skip (hK63 _ _ ?_)
      refine HT_region ?_
      refine mv (bn rfl rfl rfl (ag (HL_nil ?_)))
      exact hK59 _ _ ⟨kf, Nat.lt_succ_self kf, IntKind.i64.wrap (x48 + 1), H, rfl, hH⟩
    ·refine HT_exit ?_
     exact hK8 _ _ ⟨H, rfl, hH⟩
  ·rintro l' s69 ⟨H, hl, hH⟩
   revert l'
   refine skA ?_
   dsimp only [Al, Sk]
   intros
   replace H := hG8 _ H
   try dsimp only at H
   refine hK6 _ _ ?_
   refine sr fun K70 hK70 => ?_
   try dsimp only [putL, setL, evL, getL]
   refine ag (HL_nil (hK70 _ _ ?_))
   dsimp only [putL, setL, evL, getL]
   refine HT_ret ?_
   exact hQr _ _ [.bool true] _ ⟨rfl, trivial⟩ H ⟨rfl, hH⟩
end Go.Proofs.Ytkieinlcpkpcjaa
