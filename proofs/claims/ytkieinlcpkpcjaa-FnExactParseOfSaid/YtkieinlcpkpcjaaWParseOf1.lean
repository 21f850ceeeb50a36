/- The functions that the law reaches, as plain functions, each with its contract: printed by a program of the prover's. No conditions: lemmas. -/
import Derived.Test.YtkieinlcpkpcjaaWParseOf0
set_option linter.unusedVariables false
set_option linter.unusedSimpArgs false
namespace Go.Proofs.Ytkieinlcpkpcjaa
open Go Go.Proofs.GL
attribute [local irreducible] HL HT HX HK
def spec_l14Parse.l1 (p0 : List ((Int) × (List (Int)))) (p1 : List (List (Bool))) (p2 : Int) (p3 : Int) (p4 : Int) (p5 : Int) (self : (List ((Int) × (List (Int)))) → (List (List (Bool))) → Int → Int → Int → Int → Option (List ((Int) × (Int) × (Int)))) (u3368 : Int) : Nat → Int → Option (Lo Unit (Lo (List ((Int) × (Int) × (Int))) (List ((Int) × (Int) × (Int)))))
 | 0, _ => none
 | kf + 1, x3602 => if (decide (x3602 ≥ p4)) = true then (((rd? p1 u3368).bind fun u3702 => (rd? u3702 (IntKind.i64.wrap ((IntKind.i64.wrap (p4 * p2)) + x3602))).bind fun u3704 => if u3704 = true then ((rd? p1 (IntKind.i64.wrap (p3 - 1))).bind fun u3706 => (rd? u3706 (IntKind.i64.wrap ((IntKind.i64.wrap (x3602 * p2)) + p5))).bind fun u3708 => some u3708) else (some false)).bind fun (o : Bool) => match o with | x3701 => (if x3701 = true then ((self p0 p1 p2 u3368 p4 x3602).bind fun u3712 => (app? 5864062014805 [(p3, p4, p5)] u3712).bind fun x3714 => (self p0 p1 p2 (IntKind.i64.wrap (p3 - 1)) x3602 p5).bind fun u3716 => (app? 5864062014805 x3714 u3716).bind fun x3718 => ((some x3718).bind fun z => some (Lo.ret z)).bind fun z => some (Lo.ret z)) else (spec_l14Parse.l1 p0 p1 p2 p3 p4 p5 self u3368 kf (IntKind.i64.wrap (x3602 - 1))))) else (some (Lo.go ()))
def spec_l14Parse.l3 (p1 : List (List (Bool))) (p2 : Int) (p3 : Int) (p5 : Int) (x5695 : Int) : Nat → Int → Option Int
 | 0, _ => none
 | kf + 1, x6596 => ((rd? p1 (IntKind.i64.wrap (p3 - 1))).bind fun u6666 => (rd? u6666 (IntKind.i64.wrap ((IntKind.i64.wrap (x5695 * p2)) + x6596))).bind fun u6668 => if (!u6668) = true then (some true) else ((rd? p1 p3).bind fun u6670 => (rd? u6670 (IntKind.i64.wrap ((IntKind.i64.wrap (x6596 * p2)) + p5))).bind fun u6672 => some (!u6672))).bind fun (o : Bool) => match o with | x6665 => (if x6665 = true then (spec_l14Parse.l3 p1 p2 p3 p5 x5695 kf (IntKind.i64.wrap (x6596 - 1))) else (some x6596))
def spec_l14Parse.l2 (p0 : List ((Int) × (List (Int)))) (p1 : List (List (Bool))) (p2 : Int) (p3 : Int) (p5 : Int) (self : (List ((Int) × (List (Int)))) → (List (List (Bool))) → Int → Int → Int → Int → Option (List ((Int) × (Int) × (Int)))) : Nat → (List ((Int) × (Int) × (Int))) → Int → Option (List ((Int) × (Int) × (Int)))
 | 0, _, _ => none
 | kf + 1, x5694, x5695 => if (decide (x5695 < p5)) = true then (((spec_l14Parse.l3 p1 p2 p3 p5 x5695 (p5.toNat + 2) p5).bind fun (o : Int) => match o with | x6557 => ((self p0 p1 p2 (IntKind.i64.wrap (p3 - 1)) x5695 x6557).bind fun u6677 => (app? 5864062014805 x5694 u6677).bind fun x6679 => some (x6679, x6557))).bind fun (o : (List ((Int) × (Int) × (Int))) × Int) => match o with | (x6436, x6437) => (spec_l14Parse.l2 p0 p1 p2 p3 p5 self kf x6436 x6437)) else (some x5694)
def spec_l14Parse.b (self : (List ((Int) × (List (Int)))) → (List (List (Bool))) → Int → Int → Int → Int → Option (List ((Int) × (Int) × (Int)))) (p0 : List ((Int) × (List (Int)))) (p1 : List (List (Bool))) (p2 : Int) (p3 : Int) (p4 : Int) (p5 : Int) : Option (List ((Int) × (Int) × (Int))) := ((rd? p0 p3).bind fun u3345 => if (u3345.1 == 4) = true then ((spec_l5First.f p0 p3).bind fun u3350 => (rd? p1 u3350).bind fun u3353 => (rd? u3353 (IntKind.i64.wrap ((IntKind.i64.wrap (p4 * p2)) + p5))).bind fun u3355 => if u3355 = true then ((self p0 p1 p2 u3350 p4 p5).bind fun u3358 => (app? 5864062014805 [(p3, p4, p5)] u3358).bind fun x3360 => (some x3360).bind fun z => some (Lo.ret z)) else ((self p0 p1 p2 (IntKind.i64.wrap (p3 - 1)) p4 p5).bind fun u3362 => (app? 5864062014805 [(p3, p4, p5)] u3362).bind fun x3364 => (some x3364).bind fun z => some (Lo.ret z))) else (if (u3345.1 == 3) = true then ((spec_l5First.f p0 p3).bind fun u3368 => (spec_l14Parse.l1 p0 p1 p2 p3 p4 p5 self u3368 (((p5) - (p4)).toNat + 2) p5).bind fun (o : Lo Unit (Lo (List ((Int) × (Int) × (Int))) (List ((Int) × (Int) × (Int))))) => match o with | .go () => (some (Lo.go [(p3, p4, p5)])) | .ret z => some z) else (if (u3345.1 == 6) = true then ((spec_l14Parse.l2 p0 p1 p2 p3 p5 self (((p5) - (p4)).toNat + 2) [(p3, p4, p5)] p4).bind fun (o : (List ((Int) × (Int) × (Int)))) => match o with | x5202 => (some (Lo.go x5202))) else (some (Lo.go [(p3, p4, p5)]))))).bind fun (o : Lo (List ((Int) × (Int) × (Int))) (List ((Int) × (Int) × (Int)))) => match o with | .go x3343 => (some x3343) | .ret z => some z
def spec_l14Parse.r : Nat → (List ((Int) × (List (Int)))) → (List (List (Bool))) → Int → Int → Int → Int → Option (List ((Int) × (Int) × (Int)))
 | 0, _, _, _, _, _, _ => none
 | kr + 1, p0, p1, p2, p3, p4, p5 => spec_l14Parse.b (spec_l14Parse.r kr) p0 p1 p2 p3 p4 p5
def spec_l14Parse.f (p0 : List ((Int) × (List (Int)))) (p1 : List (List (Bool))) (p2 : Int) (p3 : Int) (p4 : Int) (p5 : Int) : Option (List ((Int) × (Int) × (Int))) := spec_l14Parse.r (p3.toNat + 2) p0 p1 p2 p3 p4 p5
def spec_l14Parse.post (sb s : St) (F0 : Fp) (r : (List ((Int) × (Int) × (Int)))) : Value → St → Prop := fun v s' => ∃ (A0 : Option Addr) (c0 : Nat), v = .slice A0 r.length c0 ∧ Hp sb s F0 s' [Ck.ol OS138 138 A0 c0 r]
set_option maxRecDepth 100000 in
set_option maxHeartbeats 4000000 in
theorem spec_l14Parse.okb (self : (List ((Int) × (List (Int)))) → (List (List (Bool))) → Int → Int → Int → Int → Option (List ((Int) × (Int) × (Int)))) (ih : ∀ (sb s : St) (F0 : Fp) (A0p : Option Addr) (c0p : Nat) (p0 : List ((Int) × (List (Int)))) (A1p : Option Addr) (c1p : Nat) (p1 : List (List (Bool))) (p2 : Int) (p3 : Int) (p4 : Int) (p5 : Int) (HRp0 : Rd KS139 sb A0p c0p p0) (HRp1 : Rd (Kd.sl Kd.bool) sb A1p c1p p1) (hH : Hp sb s F0 s []) (r : (List ((Int) × (Int) × (Int)))) (H : self p0 p1 p2 p3 p4 p5 = some r), GCall Try.prog 175 #[.slice A0p p0.length c0p, .slice A1p p1.length c1p, .int .i64 p2, .int .i64 p3, .int .i64 p4, .int .i64 p5] s (spec_l14Parse.post sb s F0 r)) (sb s : St) (F0 : Fp) (A0p : Option Addr) (c0p : Nat) (p0 : List ((Int) × (List (Int)))) (A1p : Option Addr) (c1p : Nat) (p1 : List (List (Bool))) (p2 : Int) (p3 : Int) (p4 : Int) (p5 : Int) (HRp0 : Rd KS139 sb A0p c0p p0) (HRp1 : Rd (Kd.sl Kd.bool) sb A1p c1p p1) (hH : Hp sb s F0 s []) (r : (List ((Int) × (Int) × (Int)))) (H : spec_l14Parse.b self p0 p1 p2 p3 p4 p5 = some r) : GCall Try.prog 175 #[.slice A0p p0.length c0p, .slice A1p p1.length c1p, .int .i64 p2, .int .i64 p3, .int .i64 p4, .int .i64 p5] s (spec_l14Parse.post sb s F0 r) := by
 refine GCall_ofr (spec_l14Parse.post sb s F0) [.tmp 12] (ud [.slice A0p p0.length c0p, .slice A1p p1.length c1p, .int .i64 p2, .int .i64 p3, .int .i64 p4, .int .i64 p5] 161) Try.func175 rfl rfl rfl fun w Q hQr hQn hQp => ?_
 replace H := topE H
 unfold spec_l14Parse.b at H
 dsimp only [ud, un]
 refine sr fun K1 hK1 => ag (HL_nil (hK1 _ _ ?_))
 dsimp only [putL, setL, evL, getL]
 refine sr fun K2 hK2 => mv (mv (mv ?_))
 dsimp only [putL, setL, evL, getL]
 refine hc (o_build (pl := [(0, 1), (1, 1), (2, 1)]) (cs := #[.int .i64 p3, .int .i64 p4, .int .i64 p5]) Try.underlying138 tI138 (by kernel_rfl) (by kernel_rfl) rfl (hc (o_litF (K := KS138) (O := OS138) (ca := #[.int .i64 p3, .int .i64 p4, .int .i64 p5]) [[.int .i64 p3, .int .i64 p4, .int .i64 p5]] [(p3, p4, p5)] hH Try.underlying54 tI138 rfl (by decide) rfl rfl (by kernel_rfl) rfl ⟨rfl, Ent.own (Ent.pair (v1 := [.int .i64 p3]) (v2 := [.int .i64 p4, .int .i64 p5]) (x1 := p3) (x2 := (p4, p5)) (Ent.flat rfl) (Ent.pair (v1 := [.int .i64 p4]) (v2 := [.int .i64 p5]) (x1 := p4) (x2 := p5) (Ent.flat rfl) (Ent.flat rfl))), trivial⟩ ?_)))
 clear hH
 intro A3 s3 hH _
 refine ag (HL_nil (hK2 _ _ ?_))
 dsimp only [putL, setL, evL, getL]
 refine joinH H fun G4 hG4 H => ?_
 refine HT_joinK (fun l' s' => ∃ (x3343 : List ((Int) × (Int) × (Int))) (A3343 : Option Addr) (c3343 : Nat), G4 (.go x3343) = some r ∧ skim [13] l' = ([.slice A3343 x3343.length c3343], 154) ∧ Hp sb s F0 s' [Ck.ol OS138 138 A3343 c3343 x3343]) ?_ ?_
 ·intro K4 hK4
  refine sr fun K3344 hK3344 => mv (mv ?_)
  replace H := headE H
  obtain ⟨u3345, hu3345, H⟩ := H
  obtain ⟨b3345, o3345, cs3345, hr3345, hh3345, hel3345⟩ := Rd.elb HRp0 hu3345
  obtain ⟨_, _, rfl, rfl, ⟨A3346, c3346, rfl, D3346⟩⟩ := hr3345
  refine hc (hel3345 s3 rfl rfl Try.underlying57 tI139 ?_)
  dsimp only [putL, setL, evL, getL]
  refine hc (o_faddr' (ft := 3) (off := 0) rfl Try.underlying139 rfl tI3 (by decide) (hc (o_load' rfl Try.underlying3 rfl ((hh3345 hH.bs.mono) 0 _ rfl) (HL_nil (hK3344 _ _ ?_)))))
  dsimp only [putL, setL, evL, getL]
  refine HT_block (sr fun K3347 hK3347 => (bn rfl rfl rfl (ag (HL_nil (hK3347 _ _ ?_)))))
  dsimp only [putL, setL, evL, getL]
  revert H
  refine ct rfl (fun hb3348 H => ?_) (fun hb3348 H => ?_)
  ·refine sr fun K3349 hK3349 => mv (mv ?_)
   replace H := headE H
   obtain ⟨u3350, hu3350, H⟩ := H
   refine hc (o_call (args := #[.slice A0p p0.length c0p, .int .i64 p3]) Try.func202 rfl rfl rfl (spec_l5First.ok sb s3 no A0p c0p p0 p3 HRp0 (Hp.own hH.bs) _ hu3350) ?_)
   rintro _ s3350 ⟨rfl, hD⟩
   replace hH := hH.back0 hD (Up.refl _ _ _)
   clear hD
   try dsimp only [putL, setL, evL, getL]
   refine ag (HL_nil (hK3349 _ _ ?_))
   dsimp only [putL, setL, evL, getL]
   refine HT_seq_k fun K3351 hK3351 => sr fun K3352 hK3352 => mv (mv ?_)
   replace H := headE H
   obtain ⟨u3353, hu3353, H⟩ := H
   obtain ⟨b3353, o3353, cs3353, hr3353, hh3353, hel3353⟩ := Rd.elb HRp1 hu3353
   obtain ⟨A3354, c3354, rfl, D3354⟩ := hr3353
   refine hc (hel3353 s3350 rfl rfl Try.underlying178 tI209 ?_)
   dsimp only [putL, setL, evL, getL]
   refine hc (o_load' rfl Try.underlying209 rfl ((hh3353 hH.bs.mono) 0 _ rfl) (mv (mv ?_)))
   dsimp only [putL, setL, evL, getL]
   refine bn rfl rfl rfl (mv (bn rfl rfl rfl ?_))
   replace H := headE H
   obtain ⟨u3355, hu3355, H⟩ := H
   obtain ⟨b3355, o3355, cs3355, hr3355, hh3355, hel3355⟩ := Rd.elb D3354 hu3355
   obtain rfl := hr3355
   try dsimp only [putL, setL, evL, getL]
   refine hc (hel3355 s3350 rfl rfl Try.underlying209 tI4 (hc (o_load' rfl Try.underlying4 rfl ((hh3355 hH.bs.mono) 0 _ rfl) (HL_nil (hK3352 _ _ ?_)))))
   dsimp only [putL, setL, evL, getL]
   revert H
   refine ct rfl (fun hb3356 H => ?_) (fun hb3356 H => ?_)
   ·refine sr fun K3357 hK3357 => mv (mv (mv ?_))
    dsimp only [putL, setL, evL, getL]
    refine mv (mv (mv ?_))
    dsimp only [putL, setL, evL, getL]
    refine mv ?_
    replace H := headE H
    obtain ⟨u3358, hu3358, H⟩ := H
    refine hc (o_call (args := #[.slice A0p p0.length c0p, .slice A1p p1.length c1p, .int .i64 p2, .int .i64 u3350, .int .i64 p4, .int .i64 p5]) Try.func175 rfl rfl rfl (ih sb s3350 no A0p c0p p0 A1p c1p p1 p2 u3350 p4 p5 HRp0 HRp1 (Hp.own hH.bs) _ hu3358) ?_)
    rintro _ s3358 ⟨A3359, c3359, rfl, hD⟩
    replace hH := hH.back0 hD (Up.refl _ _ _)
    clear hD
    replace H := headE H
    obtain ⟨x3360, hx3360, H⟩ := H
    refine hc (o_appF (K := KS138) (n := 5864062014805) (A := A3) (c := 1) (xs := [(p3, p4, p5)]) (ys := u3358) (B := A3359) (c2 := c3359) hH 0 rfl rfl rfl rfl Try.underlying54 tI138 rfl (by decide) (by decide) (by decide) (Src.flat (hH.rd 1 rfl)) hx3360 ?_)
    clear hH
    intro A3360 c3360 s3360 hH
    try dsimp only [putL, setL, evL, getL]
    refine ag (HL_nil (hK3357 _ _ ?_))
    dsimp only [putL, setL, evL, getL]
    refine HT_ret ?_
    replace H := escH (fun z hz => hG4 _ hz) H
    exact hQr _ _ [.slice A3360 x3360.length c3360] _ ⟨rfl, trivial⟩ H ⟨A3360, c3360, rfl, hH.sel [0] (by decide)⟩
   ·refine HT_skip (hK3351 _ _ (sr fun K3361 hK3361 => (mv (mv (mv ?_)))))
    dsimp only [putL, setL, evL, getL]
    refine mv (mv (bn rfl rfl rfl ?_))
    dsimp only [putL, setL, evL, getL]
    refine mv (mv ?_)
    replace H := headE H
    obtain ⟨u3362, hu3362, H⟩ := H
    refine hc (o_call (args := #[.slice A0p p0.length c0p, .slice A1p p1.length c1p, .int .i64 p2, .int .i64 (IntKind.i64.wrap (p3 - 1)), .int .i64 p4, .int .i64 p5]) Try.func175 rfl rfl rfl (ih sb s3350 no A0p c0p p0 A1p c1p p1 p2 (IntKind.i64.wrap (p3 - 1)) p4 p5 HRp0 HRp1 (Hp.own hH.bs) _ hu3362) ?_)
    rintro _ s3362 ⟨A3363, c3363, rfl, hD⟩
    replace hH := hH.back0 hD (Up.refl _ _ _)
    clear hD
    replace H := headE H
    obtain ⟨x3364, hx3364, H⟩ := H
    try dsimp only [putL, setL, evL, getL]
    refine hc (o_appF (K := KS138) (n := 5864062014805) (A := A3) (c := 1) (xs := [(p3, p4, p5)]) (ys := u3362) (B := A3363) (c2 := c3363) hH 0 rfl rfl rfl rfl Try.underlying54 tI138 rfl (by decide) (by decide) (by decide) (Src.flat (hH.rd 1 rfl)) hx3364 ?_)
    clear hH
    intro A3364 c3364 s3364 hH
    refine ag (HL_nil (hK3361 _ _ ?_))
    dsimp only [putL, setL, evL, getL]
    refine HT_ret ?_
    replace H := escH (fun z hz => hG4 _ hz) H
    exact hQr _ _ [.slice A3364 x3364.length c3364] _ ⟨rfl, trivial⟩ H ⟨A3364, c3364, rfl, hH.sel [0] (by decide)⟩
  ·refine sr fun K3365 hK3365 => bn rfl rfl rfl (ag (HL_nil (hK3365 _ _ ?_)))
   dsimp only [putL, setL, evL, getL]
   revert H
   refine ct rfl (fun hb3366 H => ?_) (fun hb3366 H => ?_)
   ·refine sr fun K3367 hK3367 => mv (mv ?_)
    replace H := headE H
    obtain ⟨u3368, hu3368, H⟩ := H
    refine hc (o_call (args := #[.slice A0p p0.length c0p, .int .i64 p3]) Try.func202 rfl rfl rfl (spec_l5First.ok sb s3 no A0p c0p p0 p3 HRp0 (Hp.own hH.bs) _ hu3368) ?_)
    rintro _ s3368 ⟨rfl, hD⟩
    replace hH := hH.back0 hD (Up.refl _ _ _)
    clear hD
    try dsimp only [putL, setL, evL, getL]
    refine ag (HL_nil (hK3367 _ _ ?_))
    dsimp only [putL, setL, evL, getL]
    refine sr fun K3369 hK3369 => mv (ag (HL_nil (hK3369 _ _ ?_)))
    dsimp only [putL, setL, evL, getL]
    refine joinH H fun G3370 hG3370 H => ?_
    refine HT_toK (fun l' s' => G3370 (.go ()) = some r ∧ skim [13] l' = ([.slice A3 [(p3, p4, p5)].length 1], 154) ∧ Hp sb s F0 s' [Ck.ol OS138 138 A3 1 [(p3, p4, p5)]]) ?_ ?_
    ·intro K3370 hK3370
     refine HT_block ?_
     refine HT_loopK (fun kf l' s' => ∃ (x3602 : Int), (spec_l14Parse.l1 p0 p1 p2 p3 p4 p5 self u3368 kf x3602).bind G3370 = some r ∧ skim [0, 0, 0, 0, 0, 0, 7, 1, 0] l' = ([.slice A0p p0.length c0p, .slice A1p p1.length c1p, .int .i64 p2, .int .i64 p3, .int .i64 p4, .int .i64 p5, .slice A3 [(p3, p4, p5)].length 1, .int .i64 u3368, .int .i64 x3602], 151) ∧ Hp sb s F0 s' [Ck.ol OS138 138 A3 1 [(p3, p4, p5)]]) (((p5) - (p4)).toNat + 2) ⟨p5, H, rfl, hH⟩ ?_
     rintro kf l' s3661 ⟨x3602, H, hl, hH⟩ K3661 hK3661
     revert l'
     refine skA ?_
     dsimp only [Al, Sk]
     intros
     cases kf with
     | zero => simp [spec_l14Parse.l1] at H
     | succ kf =>
      rw [spec_l14Parse.l1] at H
      refine HT_seq_k fun K3662 hK3662 => sr fun K3663 hK3663 => mv (mv (bn rfl rfl rfl (HL_nil (hK3663 _ _ ?_))))
      dsimp only [putL, setL, evL, getL]
      revert H
      refine ct rfl (fun hb3664 H => ?_) (fun hb3664 H => ?_)
      ·refine HT_skip (hK3662 _ _ (HT_seq_k fun K3692 hK3692 => (HT_block ?_)))
       refine joinH H fun G3693 hG3693 H => ?_
       refine HT_joinK (fun l' s' => ∃ (x3701 : Bool), G3693 x3701 = some r ∧ skim [0, 0, 0, 0, 0, 0, 7, 1, 0, 82] l' = ([.slice A0p p0.length c0p, .slice A1p p1.length c1p, .int .i64 p2, .int .i64 p3, .int .i64 p4, .int .i64 p5, .slice A3 [(p3, p4, p5)].length 1, .int .i64 u3368, .int .i64 x3602, .bool x3701], 68) ∧ Hp sb s F0 s' [Ck.ol OS138 138 A3 1 [(p3, p4, p5)]]) ?_ ?_
       ·intro K3693 hK3693
        refine HT_region ?_
        refine mv (mv ?_)
        replace H := headE H
        obtain ⟨u3702, hu3702, H⟩ := H
        obtain ⟨b3702, o3702, cs3702, hr3702, hh3702, hel3702⟩ := Rd.elb HRp1 hu3702
        obtain ⟨A3703, c3703, rfl, D3703⟩ := hr3702
        refine hc (hel3702 s3661 rfl rfl Try.underlying178 tI209 ?_)
        dsimp only [putL, setL, evL, getL]
        refine hc (o_load' rfl Try.underlying209 rfl ((hh3702 hH.bs.mono) 0 _ rfl) (mv (mv ?_)))
        dsimp only [putL, setL, evL, getL]
        refine bn rfl rfl rfl (mv (bn rfl rfl rfl ?_))
        replace H := headE H
        obtain ⟨u3704, hu3704, H⟩ := H
        obtain ⟨b3704, o3704, cs3704, hr3704, hh3704, hel3704⟩ := Rd.elb D3703 hu3704
        obtain rfl := hr3704
        try dsimp only [putL, setL, evL, getL]
        refine hc (hel3704 s3661 rfl rfl Try.underlying209 tI4 (hc (o_load' rfl Try.underlying4 rfl ((hh3704 hH.bs.mono) 0 _ rfl) (mv ?_))))
        revert H
        refine it (fun hb3705 H => ?_) (fun hb3705 H => ?_)
        ·refine wt rfl rfl rfl rfl hb3705 (o_move ?_)
         dsimp only [putL, setL, evL, getL]
         refine wt rfl rfl rfl rfl hb3705 (o_move (wt rfl rfl rfl rfl hb3705 (o_bin rfl rfl rfl ?_)))
         replace H := headE H
         obtain ⟨u3706, hu3706, H⟩ := H
         obtain ⟨b3706, o3706, cs3706, hr3706, hh3706, hel3706⟩ := Rd.elb HRp1 hu3706
         obtain ⟨A3707, c3707, rfl, D3707⟩ := hr3706
         refine wt rfl rfl rfl rfl hb3705 (hel3706 s3661 rfl rfl Try.underlying178 tI209 ?_)
         dsimp only [putL, setL, evL, getL]
         refine wt rfl rfl rfl rfl hb3705 (o_load' rfl Try.underlying209 rfl ((hh3706 hH.bs.mono) 0 _ rfl) (wt rfl rfl rfl rfl hb3705 (o_move (wt rfl rfl rfl rfl hb3705 (o_move ?_)))))
         dsimp only [putL, setL, evL, getL]
         refine wt rfl rfl rfl rfl hb3705 (o_bin rfl rfl rfl (wt rfl rfl rfl rfl hb3705 (o_move (wt rfl rfl rfl rfl hb3705 (o_bin rfl rfl rfl ?_)))))
         replace H := headE H
         obtain ⟨u3708, hu3708, H⟩ := H
         obtain ⟨b3708, o3708, cs3708, hr3708, hh3708, hel3708⟩ := Rd.elb D3707 hu3708
         obtain rfl := hr3708
         try dsimp only [putL, setL, evL, getL]
         refine wt rfl rfl rfl rfl hb3705 (hel3708 s3661 rfl rfl Try.underlying209 tI4 (wt rfl rfl rfl rfl hb3705 (o_load' rfl Try.underlying4 rfl ((hh3708 hH.bs.mono) 0 _ rfl) (hc (o_pickT rfl hb3705 (HL_nil ?_))))))
         exact hK3693 _ _ ⟨u3708, H, rfl, hH⟩
        ·refine wf rfl rfl rfl rfl hb3705 ?_
         dsimp only [putL, setL, evL, getL]
         refine wf rfl rfl rfl rfl hb3705 (wf rfl rfl rfl rfl hb3705 (wf rfl rfl rfl rfl hb3705 ?_))
         dsimp only [putL, setL, evL, getL]
         refine wf rfl rfl rfl rfl hb3705 (wf rfl rfl rfl rfl hb3705 (wf rfl rfl rfl rfl hb3705 ?_))
         dsimp only [putL, setL, evL, getL]
         refine wf rfl rfl rfl rfl hb3705 (wf rfl rfl rfl rfl hb3705 (wf rfl rfl rfl rfl hb3705 ?_))
         dsimp only [putL, setL, evL, getL]
         refine wf rfl rfl rfl rfl hb3705 (wf rfl rfl rfl rfl hb3705 (hc (o_pickF rfl hb3705 (HL_nil ?_))))
         exact hK3693 _ _ ⟨false, H, rfl, hH⟩
       ·rintro l' s3709 ⟨x3701, H, hl, hH⟩
        revert l'
        refine skA ?_
        dsimp only [Al, Sk]
        intros
        replace H := hG3693 _ H
        try dsimp only at H
        revert H
        refine ct rfl (fun hb3710 H => ?_) (fun hb3710 H => ?_)
        ·refine sr fun K3711 hK3711 => ?_
         try dsimp only [putL, setL, evL, getL]
         refine mv (mv (mv ?_))
         dsimp only [putL, setL, evL, getL]
         refine mv (mv (mv ?_))
         dsimp only [putL, setL, evL, getL]
         refine mv ?_
         replace H := headE H
         obtain ⟨u3712, hu3712, H⟩ := H
         refine hc (o_call (args := #[.slice A0p p0.length c0p, .slice A1p p1.length c1p, .int .i64 p2, .int .i64 u3368, .int .i64 p4, .int .i64 x3602]) Try.func175 rfl rfl rfl (ih sb s3709 no A0p c0p p0 A1p c1p p1 p2 u3368 p4 x3602 HRp0 HRp1 (Hp.own hH.bs) _ hu3712) ?_)
         rintro _ s3712 ⟨A3713, c3713, rfl, hD⟩
         replace hH := hH.back0 hD (Up.refl _ _ _)
         clear hD
         replace H := headE H
         obtain ⟨x3714, hx3714, H⟩ := H
         refine hc (o_appF (K := KS138) (n := 5864062014805) (A := A3) (c := 1) (xs := [(p3, p4, p5)]) (ys := u3712) (B := A3713) (c2 := c3713) hH 0 rfl rfl rfl rfl Try.underlying54 tI138 rfl (by decide) (by decide) (by decide) (Src.flat (hH.rd 1 rfl)) hx3714 ?_)
         clear hH
         intro A3714 c3714 s3714 hH
         try dsimp only [putL, setL, evL, getL]
         refine ag (HL_nil (hK3711 _ _ ?_))
         dsimp only [putL, setL, evL, getL]
         refine sr fun K3715 hK3715 => mv (mv (mv ?_))
         dsimp only [putL, setL, evL, getL]
         refine mv (mv (bn rfl rfl rfl ?_))
         dsimp only [putL, setL, evL, getL]
         refine mv (mv ?_)
         replace H := headE H
         obtain ⟨u3716, hu3716, H⟩ := H
         refine hc (o_call (args := #[.slice A0p p0.length c0p, .slice A1p p1.length c1p, .int .i64 p2, .int .i64 (IntKind.i64.wrap (p3 - 1)), .int .i64 x3602, .int .i64 p5]) Try.func175 rfl rfl rfl (ih sb s3714 no A0p c0p p0 A1p c1p p1 p2 (IntKind.i64.wrap (p3 - 1)) x3602 p5 HRp0 HRp1 (Hp.own hH.bs) _ hu3716) ?_)
         rintro _ s3716 ⟨A3717, c3717, rfl, hD⟩
         replace hH := hH.back0 hD (Up.refl _ _ _)
         clear hD
         replace H := headE H
         obtain ⟨x3718, hx3718, H⟩ := H
         try dsimp only [putL, setL, evL, getL]
         refine hc (o_appF (K := KS138) (n := 5864062014805) (A := A3714) (c := c3714) (xs := x3714) (ys := u3716) (B := A3717) (c2 := c3717) hH 0 rfl rfl rfl rfl Try.underlying54 tI138 rfl (by decide) (by decide) (by decide) (Src.flat (hH.rd 2 rfl)) hx3718 ?_)
         clear hH
         intro A3718 c3718 s3718 hH
         refine ag (HL_nil (hK3715 _ _ ?_))
         dsimp only [putL, setL, evL, getL]
         refine HT_ret ?_
         replace H := escH (fun z hz => hG3370 _ hz) H
         replace H := escH (fun z hz => hG4 _ hz) H
         exact hQr _ _ [.slice A3718 x3718.length c3718] _ ⟨rfl, trivial⟩ H ⟨A3718, c3718, rfl, hH.sel [0] (by decide)⟩
        ·refine HT_skip (hK3692 _ _ ?_)
         refine HT_region ?_
         refine mv (bn rfl rfl rfl (ag (HL_nil ?_)))
         exact hK3661 _ _ ⟨kf, Nat.lt_succ_self kf, IntKind.i64.wrap (x3602 - 1), H, rfl, hH⟩
      ·refine HT_exit ?_
       exact hK3370 _ _ ⟨H, rfl, hH⟩
    ·rintro l' s3719 ⟨H, hl, hH⟩
     revert l'
     refine skA ?_
     dsimp only [Al, Sk]
     intros
     replace H := hG3370 _ H
     try dsimp only at H
     exact hK4 _ _ ⟨[(p3, p4, p5)], A3, 1, H, rfl, hH⟩
   ·refine sr fun K3720 hK3720 => ?_
    try dsimp only [putL, setL, evL, getL]
    refine bn rfl rfl rfl (ag (HL_nil (hK3720 _ _ ?_)))
    dsimp only [putL, setL, evL, getL]
    revert H
    refine ct rfl (fun hb3721 H => ?_) (fun hb3721 H => ?_)
    ·refine sr fun K3722 hK3722 => mv (ag (HL_nil (hK3722 _ _ ?_)))
     dsimp only [putL, setL, evL, getL]
     refine joinH H fun G3723 hG3723 H => ?_
     refine HT_toK (fun l' s' => ∃ (x5202 : List ((Int) × (Int) × (Int))) (A5202 : Option Addr) (c5202 : Nat), G3723 x5202 = some r ∧ skim [13] l' = ([.slice A5202 x5202.length c5202], 154) ∧ Hp sb s F0 s' [Ck.ol OS138 138 A5202 c5202 x5202]) ?_ ?_
     ·intro K3723 hK3723
      refine HT_block ?_
      refine HT_loopK (fun kf l' s' => ∃ (x5694 : List ((Int) × (Int) × (Int))) (A5694 : Option Addr) (c5694 : Nat) (x5695 : Int), (spec_l14Parse.l2 p0 p1 p2 p3 p5 self kf x5694 x5695).bind G3723 = some r ∧ skim [0, 0, 0, 0, 1, 7, 3] l' = ([.slice A0p p0.length c0p, .slice A1p p1.length c1p, .int .i64 p2, .int .i64 p3, .int .i64 p5, .slice A5694 x5694.length c5694, .int .i64 x5695], 150) ∧ Hp sb s F0 s' [Ck.ol OS138 138 A5694 c5694 x5694]) (((p5) - (p4)).toNat + 2) ⟨[(p3, p4, p5)], A3, 1, p4, H, rfl, hH⟩ ?_
      rintro kf l' s6189 ⟨x5694, A5694, c5694, x5695, H, hl, hH⟩ K6189 hK6189
      revert l'
      refine skA ?_
      dsimp only [Al, Sk]
      intros
      cases kf with
      | zero => simp [spec_l14Parse.l2] at H
      | succ kf =>
       rw [spec_l14Parse.l2] at H
       refine HT_seq_k fun K6190 hK6190 => sr fun K6191 hK6191 => mv (mv (bn rfl rfl rfl (HL_nil (hK6191 _ _ ?_))))
       dsimp only [putL, setL, evL, getL]
       revert H
       refine ct rfl (fun hb6192 H => ?_) (fun hb6192 H => ?_)
       ·refine HT_skip (hK6190 _ _ ?_)
        refine joinH H fun G6193 hG6193 H => ?_
        refine HT_toK (fun l' s' => ∃ (x6436 : List ((Int) × (Int) × (Int))) (A6436 : Option Addr) (c6436 : Nat) (x6437 : Int), G6193 (x6436, x6437) = some r ∧ skim [0, 0, 0, 0, 1, 7, 3] l' = ([.slice A0p p0.length c0p, .slice A1p p1.length c1p, .int .i64 p2, .int .i64 p3, .int .i64 p5, .slice A6436 x6436.length c6436, .int .i64 x6437], 150) ∧ Hp sb s F0 s' [Ck.ol OS138 138 A6436 c6436 x6436]) ?_ ?_
        ·intro K6193 hK6193
         refine HT_block (sr fun K6438 hK6438 => (mv (ag (HL_nil (hK6438 _ _ ?_)))))
         dsimp only [putL, setL, evL, getL]
         refine joinH H fun G6439 hG6439 H => ?_
         refine HT_joinK (fun l' s' => ∃ (x6557 : Int), G6439 x6557 = some r ∧ skim [0, 0, 0, 0, 1, 7, 3, 0] l' = ([.slice A0p p0.length c0p, .slice A1p p1.length c1p, .int .i64 p2, .int .i64 p3, .int .i64 p5, .slice A5694 x5694.length c5694, .int .i64 x5695, .int .i64 x6557], 149) ∧ Hp sb s F0 s' [Ck.ol OS138 138 A5694 c5694 x5694]) ?_ ?_
         ·intro K6439 hK6439
          refine HT_block ?_
          refine HT_loopK (fun kf l' s' => ∃ (x6596 : Int), (spec_l14Parse.l3 p1 p2 p3 p5 x5695 kf x6596).bind G6439 = some r ∧ skim [0, 0, 0, 0, 1, 7, 3, 0] l' = ([.slice A0p p0.length c0p, .slice A1p p1.length c1p, .int .i64 p2, .int .i64 p3, .int .i64 p5, .slice A5694 x5694.length c5694, .int .i64 x5695, .int .i64 x6596], 149) ∧ Hp sb s F0 s' [Ck.ol OS138 138 A5694 c5694 x5694]) (p5.toNat + 2) ⟨p5, H, rfl, hH⟩ ?_
          rintro kf l' s6636 ⟨x6596, H, hl, hH⟩ K6636 hK6636
          revert l'
          refine skA ?_
          dsimp only [Al, Sk]
          intros
          cases kf with
          | zero => simp [spec_l14Parse.l3] at H
          | succ kf =>
           rw [spec_l14Parse.l3] at H
           refine HT_seq_k fun K6656 hK6656 => ?_
           refine joinH H fun G6657 hG6657 H => ?_
           refine HT_joinK (fun l' s' => ∃ (x6665 : Bool), G6657 x6665 = some r ∧ skim [0, 0, 0, 0, 1, 7, 3, 0, 133] l' = ([.slice A0p p0.length c0p, .slice A1p p1.length c1p, .int .i64 p2, .int .i64 p3, .int .i64 p5, .slice A5694 x5694.length c5694, .int .i64 x5695, .int .i64 x6596, .bool x6665], 15) ∧ Hp sb s F0 s' [Ck.ol OS138 138 A5694 c5694 x5694]) ?_ ?_
           ·intro K6657 hK6657
            refine HT_region ?_
            refine mv (mv (bn rfl rfl rfl ?_))
            replace H := headE H
            obtain ⟨u6666, hu6666, H⟩ := H
            obtain ⟨b6666, o6666, cs6666, hr6666, hh6666, hel6666⟩ := Rd.elb HRp1 hu6666
            obtain ⟨A6667, c6667, rfl, D6667⟩ := hr6666
            try dsimp only [putL, setL, evL, getL]
            refine hc (hel6666 s6636 rfl rfl Try.underlying178 tI209 (hc (o_load' rfl Try.underlying209 rfl ((hh6666 hH.bs.mono) 0 _ rfl) (mv ?_))))
            dsimp only [putL, setL, evL, getL]
            refine mv (bn rfl rfl rfl (mv ?_))
            dsimp only [putL, setL, evL, getL]
            refine bn rfl rfl rfl ?_
            replace H := headE H
            obtain ⟨u6668, hu6668, H⟩ := H
            obtain ⟨b6668, o6668, cs6668, hr6668, hh6668, hel6668⟩ := Rd.elb D6667 hu6668
            obtain rfl := hr6668
            refine hc (hel6668 s6636 rfl rfl Try.underlying209 tI4 (hc (o_load' rfl Try.underlying4 rfl ((hh6668 hH.bs.mono) 0 _ rfl) ?_)))
            dsimp only [putL, setL, evL, getL]
            refine hc (o_not rfl (mv ?_))
            revert H
            refine it (fun hb6669 H => ?_) (fun hb6669 H => ?_)
            ·refine wf rfl rfl rfl rfl hb6669 ?_
             dsimp only [putL, setL, evL, getL]
             refine wf rfl rfl rfl rfl hb6669 (wf rfl rfl rfl rfl hb6669 (wf rfl rfl rfl rfl hb6669 ?_))
             dsimp only [putL, setL, evL, getL]
             refine wf rfl rfl rfl rfl hb6669 (wf rfl rfl rfl rfl hb6669 (wf rfl rfl rfl rfl hb6669 ?_))
             dsimp only [putL, setL, evL, getL]
             refine wf rfl rfl rfl rfl hb6669 (wf rfl rfl rfl rfl hb6669 (wf rfl rfl rfl rfl hb6669 ?_))
             dsimp only [putL, setL, evL, getL]
             refine wf rfl rfl rfl rfl hb6669 (wf rfl rfl rfl rfl hb6669 (hc (o_pickT rfl hb6669 (HL_nil ?_))))
             exact hK6657 _ _ ⟨true, H, rfl, hH⟩
            ·refine wt rfl rfl rfl rfl hb6669 (o_move ?_)
             dsimp only [putL, setL, evL, getL]
             refine wt rfl rfl rfl rfl hb6669 (o_move ?_)
             replace H := headE H
             obtain ⟨u6670, hu6670, H⟩ := H
             obtain ⟨b6670, o6670, cs6670, hr6670, hh6670, hel6670⟩ := Rd.elb HRp1 hu6670
             obtain ⟨A6671, c6671, rfl, D6671⟩ := hr6670
             refine wt rfl rfl rfl rfl hb6669 (hel6670 s6636 rfl rfl Try.underlying178 tI209 (wt rfl rfl rfl rfl hb6669 (o_load' rfl Try.underlying209 rfl ((hh6670 hH.bs.mono) 0 _ rfl) ?_)))
             dsimp only [putL, setL, evL, getL]
             refine wt rfl rfl rfl rfl hb6669 (o_move (wt rfl rfl rfl rfl hb6669 (o_move (wt rfl rfl rfl rfl hb6669 (o_bin rfl rfl rfl ?_)))))
             dsimp only [putL, setL, evL, getL]
             refine wt rfl rfl rfl rfl hb6669 (o_move (wt rfl rfl rfl rfl hb6669 (o_bin rfl rfl rfl ?_)))
             replace H := headE H
             obtain ⟨u6672, hu6672, H⟩ := H
             obtain ⟨b6672, o6672, cs6672, hr6672, hh6672, hel6672⟩ := Rd.elb D6671 hu6672
             obtain rfl := hr6672
             refine wt rfl rfl rfl rfl hb6669 (hel6672 s6636 rfl rfl Try.underlying209 tI4 ?_)
             dsimp only [putL, setL, evL, getL]
             refine wt rfl rfl rfl rfl hb6669 (o_load' rfl Try.underlying4 rfl ((hh6672 hH.bs.mono) 0 _ rfl) (wt rfl rfl rfl rfl hb6669 (o_not rfl (hc (o_pickF rfl hb6669 (HL_nil ?_))))))
             exact hK6657 _ _ ⟨!u6672, H, rfl, hH⟩
           ·rintro l' s6673 ⟨x6665, H, hl, hH⟩
            revert l'
            refine skA ?_
            dsimp only [Al, Sk]
            intros
            replace H := hG6657 _ H
            try dsimp only at H
            revert H
            refine ct rfl (fun hb6674 H => ?_) (fun hb6674 H => ?_)
            ·refine HT_skip (hK6656 _ _ (HT_block ?_))
             refine HT_region ?_
             try dsimp only [putL, setL, evL, getL]
             refine mv (bn rfl rfl rfl (ag (HL_nil ?_)))
             exact hK6636 _ _ ⟨kf, Nat.lt_succ_self kf, IntKind.i64.wrap (x6596 - 1), H, rfl, hH⟩
            ·refine HT_exit ?_
             exact hK6439 _ _ ⟨x6596, H, rfl, hH⟩
         ·rintro l' s6675 ⟨x6557, H, hl, hH⟩
          revert l'
          refine skA ?_
          dsimp only [Al, Sk]
          intros
          replace H := hG6439 _ H
          try dsimp only at H
          refine sr fun K6676 hK6676 => ?_
          try dsimp only [putL, setL, evL, getL]
          refine mv (mv (mv ?_))
          dsimp only [putL, setL, evL, getL]
          refine mv (mv (bn rfl rfl rfl ?_))
          dsimp only [putL, setL, evL, getL]
          refine mv (mv ?_)
          replace H := headE H
          obtain ⟨u6677, hu6677, H⟩ := H
          refine hc (o_call (args := #[.slice A0p p0.length c0p, .slice A1p p1.length c1p, .int .i64 p2, .int .i64 (IntKind.i64.wrap (p3 - 1)), .int .i64 x5695, .int .i64 x6557]) Try.func175 rfl rfl rfl (ih sb s6675 no A0p c0p p0 A1p c1p p1 p2 (IntKind.i64.wrap (p3 - 1)) x5695 x6557 HRp0 HRp1 (Hp.own hH.bs) _ hu6677) ?_)
          rintro _ s6677 ⟨A6678, c6678, rfl, hD⟩
          replace hH := hH.back0 hD (Up.refl _ _ _)
          clear hD
          replace H := headE H
          obtain ⟨x6679, hx6679, H⟩ := H
          try dsimp only [putL, setL, evL, getL]
          refine hc (o_appF (K := KS138) (n := 5864062014805) (A := A5694) (c := c5694) (xs := x5694) (ys := u6677) (B := A6678) (c2 := c6678) hH 0 rfl rfl rfl rfl Try.underlying54 tI138 rfl (by decide) (by decide) (by decide) (Src.flat (hH.rd 1 rfl)) hx6679 ?_)
          clear hH
          intro A6679 c6679 s6679 hH
          refine ag (HL_nil (hK6676 _ _ ?_))
          dsimp only [putL, setL, evL, getL]
          refine HT_region ?_
          refine mv (ag (HL_nil ?_))
          exact hK6193 _ _ ⟨x6679, A6679, c6679, x6557, H, rfl, hH.sel [0] (by decide)⟩
        ·rintro l' s6680 ⟨x6436, A6436, c6436, x6437, H, hl, hH⟩
         revert l'
         refine skA ?_
         dsimp only [Al, Sk]
         intros
         replace H := hG6193 _ H
         try dsimp only at H
         exact hK6189 _ _ ⟨kf, Nat.lt_succ_self kf, x6436, A6436, c6436, x6437, H, rfl, hH⟩
       ·refine HT_exit ?_
        exact hK3723 _ _ ⟨x5694, A5694, c5694, H, rfl, hH⟩
     ·rintro l' s6681 ⟨x5202, A5202, c5202, H, hl, hH⟩
      revert l'
      refine skA ?_
      dsimp only [Al, Sk]
      intros
      replace H := hG3723 _ H
      try dsimp only at H
      exact hK4 _ _ ⟨x5202, A5202, c5202, H, rfl, hH⟩
    ·refine HT_skip ?_
     exact hK4 _ _ ⟨[(p3, p4, p5)], A3, 1, H, rfl, hH⟩
 ·rintro l' s6682 ⟨x3343, A3343, c3343, H, hl, hH⟩
  revert l'
  refine skA ?_
  dsimp only [Al, Sk]
  intros
  replace H := hG4 _ H
  try dsimp only at H
  refine sr fun K6683 hK6683 => mv ?_
  dsimp only [putL, setL, evL, getL]
  refine ag (HL_nil (hK6683 _ _ ?_))
  dsimp only [putL, setL, evL, getL]
  refine HT_ret ?_
  exact hQr _ _ [.slice A3343 x3343.length c3343] _ ⟨rfl, trivial⟩ H ⟨A3343, c3343, rfl, hH⟩
theorem spec_l14Parse.okr : ∀ (kr : Nat) (sb s : St) (F0 : Fp) (A0p : Option Addr) (c0p : Nat) (p0 : List ((Int) × (List (Int)))) (A1p : Option Addr) (c1p : Nat) (p1 : List (List (Bool))) (p2 : Int) (p3 : Int) (p4 : Int) (p5 : Int) (HRp0 : Rd KS139 sb A0p c0p p0) (HRp1 : Rd (Kd.sl Kd.bool) sb A1p c1p p1) (hH : Hp sb s F0 s []) (r : (List ((Int) × (Int) × (Int)))) (H : spec_l14Parse.r kr p0 p1 p2 p3 p4 p5 = some r), GCall Try.prog 175 #[.slice A0p p0.length c0p, .slice A1p p1.length c1p, .int .i64 p2, .int .i64 p3, .int .i64 p4, .int .i64 p5] s (spec_l14Parse.post sb s F0 r)
 | 0, sb, s, F0, A0p, c0p, p0, A1p, c1p, p1, p2, p3, p4, p5, HRp0, HRp1, hH, r, H => by cases H
 | kr + 1, sb, s, F0, A0p, c0p, p0, A1p, c1p, p1, p2, p3, p4, p5, HRp0, HRp1, hH, r, H => spec_l14Parse.okb (spec_l14Parse.r kr) (spec_l14Parse.okr kr) sb s F0 A0p c0p p0 A1p c1p p1 p2 p3 p4 p5 HRp0 HRp1 hH r H
theorem spec_l14Parse.ok (sb s : St) (F0 : Fp) (A0p : Option Addr) (c0p : Nat) (p0 : List ((Int) × (List (Int)))) (A1p : Option Addr) (c1p : Nat) (p1 : List (List (Bool))) (p2 : Int) (p3 : Int) (p4 : Int) (p5 : Int) (HRp0 : Rd KS139 sb A0p c0p p0) (HRp1 : Rd (Kd.sl Kd.bool) sb A1p c1p p1) (hH : Hp sb s F0 s []) (r : (List ((Int) × (Int) × (Int)))) (H : spec_l14Parse.f p0 p1 p2 p3 p4 p5 = some r) : GCall Try.prog 175 #[.slice A0p p0.length c0p, .slice A1p p1.length c1p, .int .i64 p2, .int .i64 p3, .int .i64 p4, .int .i64 p5] s (spec_l14Parse.post sb s F0 r) := spec_l14Parse.okr _ sb s F0 A0p c0p p0 A1p c1p p1 p2 p3 p4 p5 HRp0 HRp1 hH r H
def spec_ParseOf.f (p0 : List ((Int) × (List (Int)))) (p1 : List (Int)) : Option ((List ((Int) × (Int) × (Int))) × Bool) := ((spec_l14Asked.f p0 p1).bind fun u20 => if (!u20) = true then (some true) else ((spec_l5Matches.f p0 p1).bind fun u22 => some (!u22))).bind fun (o : Bool) => match o with | x19 => (if x19 = true then (some ([], false)) else ((spec_l5Table.f p0 p1).bind fun u27 => (spec_l14Parse.f p0 u27 (IntKind.i64.wrap ((p1.length : Int) + 1)) (IntKind.i64.wrap ((p0.length : Int) - 1)) 0 (p1.length : Int)).bind fun u29 => some (u29, true)))
def spec_ParseOf.post (sb s : St) (F0 : Fp) (r : (List ((Int) × (Int) × (Int))) × Bool) : Value → St → Prop := fun v s' => ∃ (A0 : Option Addr) (c0 : Nat), v = .tuple #[.slice A0 r.1.length c0, .bool r.2] ∧ Hp sb s F0 s' [Ck.ol OS138 138 A0 c0 r.1]
set_option maxRecDepth 100000 in
set_option maxHeartbeats 4000000 in
theorem spec_ParseOf.ok (sb s : St) (F0 : Fp) (A0p : Option Addr) (c0p : Nat) (p0 : List ((Int) × (List (Int)))) (A1p : Option Addr) (c1p : Nat) (p1 : List (Int)) (HRp0 : Rd KS139 sb A0p c0p p0) (HRp1 : Rd KI sb A1p c1p p1) (hH : Hp sb s F0 s []) (r : (List ((Int) × (Int) × (Int))) × Bool) (H : spec_ParseOf.f p0 p1 = some r) : GCall Try.prog 91 #[.slice A0p p0.length c0p, .slice A1p p1.length c1p] s (spec_ParseOf.post sb s F0 r) := by
 refine GCall_ofr (spec_ParseOf.post sb s F0) [.tmp 4, .tmp 5] (ud [.slice A0p p0.length c0p, .slice A1p p1.length c1p] 27) Try.func91 rfl rfl rfl fun w Q hQr hQn hQp => ?_
 replace H := topE H
 unfold spec_ParseOf.f at H
 dsimp only [ud, un]
 refine sr fun K1 hK1 => ag (ag (HL_nil (hK1 _ _ ?_)))
 dsimp only [putL, setL, evL, getL]
 refine HT_seq_k fun K14 hK14 => ?_
 refine joinH H fun G15 hG15 H => ?_
 refine HT_joinK (fun l' s' => ∃ (x19 : Bool), G15 x19 = some r ∧ skim [0, 0, 13] l' = ([.slice A0p p0.length c0p, .slice A1p p1.length c1p, .bool x19], 14) ∧ Hp sb s F0 s' []) ?_ ?_
 ·intro K15 hK15
  refine HT_region ?_
  refine mv (mv ?_)
  replace H := headE H
  obtain ⟨u20, hu20, H⟩ := H
  refine hc (o_call (args := #[.slice A0p p0.length c0p, .slice A1p p1.length c1p]) Try.func150 rfl rfl rfl (spec_l14Asked.ok sb s no A0p c0p p0 A1p c1p p1 HRp0 HRp1 (Hp.own hH.bs) _ hu20) ?_)
  rintro _ s20 ⟨rfl, hD⟩
  replace hH := hH.back0 hD (Up.refl _ _ _)
  clear hD
  try dsimp only [putL, setL, evL, getL]
  refine hc (o_not rfl (mv ?_))
  revert H
  refine it (fun hb21 H => ?_) (fun hb21 H => ?_)
  ·refine wf rfl rfl rfl rfl hb21 ?_
   dsimp only [putL, setL, evL, getL]
   refine wf rfl rfl rfl rfl hb21 (wf rfl rfl rfl rfl hb21 (wf rfl rfl rfl rfl hb21 ?_))
   dsimp only [putL, setL, evL, getL]
   refine hc (o_pickT rfl hb21 (HL_nil ?_))
   exact hK15 _ _ ⟨true, H, rfl, hH⟩
  ·refine wt rfl rfl rfl rfl hb21 (o_move (wt rfl rfl rfl rfl hb21 (o_move ?_)))
   replace H := headE H
   obtain ⟨u22, hu22, H⟩ := H
   try dsimp only [putL, setL, evL, getL]
   refine wt rfl rfl rfl rfl hb21 (o_call (args := #[.slice A0p p0.length c0p, .slice A1p p1.length c1p]) Try.func174 rfl rfl rfl (spec_l5Matches.ok sb s20 no A0p c0p p0 A1p c1p p1 HRp0 HRp1 (Hp.own hH.bs) _ hu22) ?_)
   rintro _ s22 ⟨rfl, hD⟩
   replace hH := hH.back0 hD (Up.refl _ _ _)
   clear hD
   refine wt rfl rfl rfl rfl hb21 (o_not rfl (hc (o_pickF rfl hb21 (HL_nil ?_))))
   exact hK15 _ _ ⟨!u22, H, rfl, hH⟩
 ·rintro l' s23 ⟨x19, H, hl, hH⟩
  revert l'
  refine skA ?_
  dsimp only [Al, Sk]
  intros
  replace H := hG15 _ H
  try dsimp only at H
  revert H
  refine ct rfl (fun hb24 H => ?_) (fun hb24 H => ?_)
  ·refine sr fun K25 hK25 => ?_
   try dsimp only [putL, setL, evL, getL]
   refine ag (ag (HL_nil (hK25 _ _ ?_)))
   dsimp only [putL, setL, evL, getL]
   refine HT_ret ?_
   exact hQr _ _ [.slice none 0 0, .bool false] _ ⟨rfl, rfl, trivial⟩ H ⟨none, 0, rfl, (hH.nil (K := KS138) OS138 138)⟩
  ·refine HT_skip (hK14 _ _ (sr fun K26 hK26 => (mv (mv (mv ?_)))))
   replace H := headE H
   obtain ⟨u27, hu27, H⟩ := H
   try dsimp only [putL, setL, evL, getL]
   refine hc (o_call (args := #[.slice A0p p0.length c0p, .slice A1p p1.length c1p]) Try.func176 rfl rfl rfl (spec_l5Table.ok sb s23 no A0p c0p p0 A1p c1p p1 HRp0 HRp1 (Hp.own hH.bs) _ hu27) ?_)
   rintro _ s27 ⟨A28, c28, rfl, hD⟩
   replace hH := hH.back0 hD (Up.refl _ _ _)
   clear hD
   refine mv (hc (o_len rfl Try.underlying24 ?_))
   dsimp only [putL, setL, evL, getL]
   refine bn rfl rfl rfl (mv (hc (o_len rfl Try.underlying57 ?_)))
   dsimp only [putL, setL, evL, getL]
   refine bn rfl rfl rfl (mv (hc (o_len rfl Try.underlying24 ?_)))
   replace H := headE H
   obtain ⟨u29, hu29, H⟩ := H
   try dsimp only [putL, setL, evL, getL]
   refine hc (o_call (args := #[.slice A0p p0.length c0p, .slice A28 u27.length c28, .int .i64 (IntKind.i64.wrap ((p1.length : Int) + 1)), .int .i64 (IntKind.i64.wrap ((p0.length : Int) - 1)), .int .i64 0, .int .i64 (p1.length : Int)]) Try.func175 rfl rfl rfl (spec_l14Parse.ok s27 s27 no A0p c0p p0 A28 c28 u27 (IntKind.i64.wrap ((p1.length : Int) + 1)) (IntKind.i64.wrap ((p0.length : Int) - 1)) 0 (p1.length : Int) (HRp0.mono hH.bs.mono) (hH.rd 0 rfl) (Hp.own (Bs.refl s27)) _ hu29) ?_)
   rintro _ s29 ⟨A30, c30, rfl, hD⟩
   replace hH := hH.back0T hD
   clear hD
   refine ag (ag (HL_nil (hK26 _ _ ?_)))
   dsimp only [putL, setL, evL, getL]
   refine HT_ret ?_
   exact hQr _ _ [.slice A30 u29.length c30, .bool true] _ ⟨rfl, rfl, trivial⟩ H ⟨A30, c30, rfl, hH.sel [1] (by decide)⟩
def impl_inRange.f (p0 : Int) (p1 : Int) (p2 : Int) : Option Bool := if (decide (p1 ≤ p0)) = true then (some (decide (p0 ≤ p2))) else (some false)
def impl_inRange.post (sb s : St) (F0 : Fp) (r : Bool) : Value → St → Prop := fun v s' => v = .bool r ∧ Hp sb s F0 s' []
set_option maxRecDepth 100000 in
set_option maxHeartbeats 4000000 in
theorem impl_inRange.ok (sb s : St) (F0 : Fp) (p0 : Int) (p1 : Int) (p2 : Int) (hH : Hp sb s F0 s []) (r : Bool) (H : impl_inRange.f p0 p1 p2 = some r) : GCall Try.prog 105 #[.int .i64 p0, .int .i64 p1, .int .i64 p2] s (impl_inRange.post sb s F0 r) := by
 refine GCall_ofr (impl_inRange.post sb s F0) [.tmp 6] (ud [.int .i64 p0, .int .i64 p1, .int .i64 p2] 12) Try.func105 rfl rfl rfl fun w Q hQr hQn hQp => ?_
 replace H := topE H
 unfold impl_inRange.f at H
 dsimp only [ud, un]
 refine sr fun K1 hK1 => ag (HL_nil (hK1 _ _ ?_))
 dsimp only [putL, setL, evL, getL]
 refine sr fun K2 hK2 => mv (mv (bn rfl rfl rfl ?_))
 dsimp only [putL, setL, evL, getL]
 refine mv ?_
 revert H
 refine it (fun hb3 H => ?_) (fun hb3 H => ?_)
 ·refine wt rfl rfl rfl rfl hb3 (o_move (wt rfl rfl rfl rfl hb3 (o_move ?_)))
  dsimp only [putL, setL, evL, getL]
  refine wt rfl rfl rfl rfl hb3 (o_bin rfl rfl rfl (hc (o_pickT rfl hb3 (ag (HL_nil (hK2 _ _ ?_))))))
  dsimp only [putL, setL, evL, getL]
  refine HT_ret ?_
  exact hQr _ _ [.bool (decide (p0 ≤ p2))] _ ⟨rfl, trivial⟩ H ⟨rfl, hH⟩
 ·refine wf rfl rfl rfl rfl hb3 (wf rfl rfl rfl rfl hb3 (wf rfl rfl rfl rfl hb3 ?_))
  dsimp only [putL, setL, evL, getL]
  refine hc (o_pickF rfl hb3 (ag (HL_nil (hK2 _ _ ?_))))
  dsimp only [putL, setL, evL, getL]
  refine HT_ret ?_
  exact hQr _ _ [.bool false] _ ⟨rfl, trivial⟩ H ⟨rfl, hH⟩
def impl_GoodSet.l1 (p0 : List (Int)) : Nat → Int → Option (Lo Unit Bool)
 | 0, _ => none
 | kf + 1, x300 => if (decide (x300 < (p0.length : Int))) = true then ((rd? p0 x300).bind fun u416 => ((if (decide (x300 > 0)) = true then ((rem? x300 2).bind fun u437 => some (u437 == 0)) else (some false)).bind fun (o : Bool) => match o with | x435 => (if x435 = true then ((rd? p0 (IntKind.i64.wrap (x300 - 1))).bind fun u440 => some (IntKind.i64.wrap (u440 + 2))) else (if (decide (x300 > 0)) = true then ((rd? p0 (IntKind.i64.wrap (x300 - 1))).bind fun u443 => some u443) else (some 0)))).bind fun (o : Int) => match o with | x431 => ((impl_inRange.f u416 x431 1114111).bind fun u446 => if (!u446) = true then ((some false).bind fun z => some (Lo.ret z)) else (impl_GoodSet.l1 p0 kf (IntKind.i64.wrap (x300 + 1))))) else (some (Lo.go ()))
def impl_GoodSet.f (p0 : List (Int)) : Option Bool := (impl_GoodSet.l1 p0 ((((p0.length : Int)) - (0)).toNat + 2) 0).bind fun (o : Lo Unit Bool) => match o with | .go () => ((rem? (p0.length : Int) 2).bind fun u451 => if (u451 == 0) = true then (some (decide ((p0.length : Int) ≤ 24))) else (some false)) | .ret z => some z
def impl_GoodSet.post (sb s : St) (F0 : Fp) (r : Bool) : Value → St → Prop := fun v s' => v = .bool r ∧ Hp sb s F0 s' []
set_option maxRecDepth 100000 in
set_option maxHeartbeats 4000000 in
theorem impl_GoodSet.ok (sb s : St) (F0 : Fp) (A0p : Option Addr) (c0p : Nat) (p0 : List (Int)) (HRp0 : Rd KI sb A0p c0p p0) (hH : Hp sb s F0 s []) (r : Bool) (H : impl_GoodSet.f p0 = some r) : GCall Try.prog 192 #[.slice A0p p0.length c0p] s (impl_GoodSet.post sb s F0 r) := by
 refine GCall_ofr (impl_GoodSet.post sb s F0) [.tmp 2] (ud [.slice A0p p0.length c0p] 48) Try.func192 rfl rfl rfl fun w Q hQr hQn hQp => ?_
 replace H := topE H
 unfold impl_GoodSet.f at H
 dsimp only [ud, un]
 refine sr fun K1 hK1 => ag (HL_nil (hK1 _ _ ?_))
 dsimp only [putL, setL, evL, getL]
 refine HT_seq_k fun K2 hK2 => sr fun K3 hK3 => mv (hc (o_len rfl Try.underlying24 (mv (HL_nil (hK3 _ _ ?_)))))
 dsimp only [putL, setL, evL, getL]
 refine joinH H fun G4 hG4 H => ?_
 refine HT_toK (fun l' s' => G4 (.go ()) = some r ∧ skim [0] l' = ([.slice A0p p0.length c0p], 49) ∧ Hp sb s F0 s' []) ?_ ?_
 ·intro K4 hK4
  refine HT_block ?_
  refine HT_loopK (fun kf l' s' => ∃ (x300 : Int), (impl_GoodSet.l1 p0 kf x300).bind G4 = some r ∧ skim [0, 5, 0, 0] l' = ([.slice A0p p0.length c0p, .slice A0p p0.length c0p, .int .i64 (p0.length : Int), .int .i64 x300], 41) ∧ Hp sb s F0 s' []) ((((p0.length : Int)) - (0)).toNat + 2) ⟨0, H, rfl, hH⟩ ?_
  rintro kf l' s375 ⟨x300, H, hl, hH⟩ K375 hK375
  revert l'
  refine skA ?_
  dsimp only [Al, Sk]
  intros
  cases kf with
  | zero => simp [impl_GoodSet.l1] at H
  | succ kf =>
   rw [impl_GoodSet.l1] at H
   refine sr fun K376 hK376 => bn rfl rfl rfl (HL_nil (hK376 _ _ ?_))
   dsimp only [putL, setL, evL, getL]
   refine HT_seq_k fun K377 hK377 => ?_
   revert H
   refine ct rfl (fun hb378 H => ?_) (fun hb378 H => ?_)
   ·refine HT_skip (hK377 _ _ (HT_seq_k fun K414 hK414 => (HT_block (sr fun K415 hK415 => (mv ?_)))))
    replace H := headE H
    obtain ⟨u416, hu416, H⟩ := H
    obtain ⟨b416, o416, cs416, hr416, hh416, hel416⟩ := Rd.elb HRp0 hu416
    obtain rfl := hr416
    refine hc (hel416 s375 rfl rfl Try.underlying24 tI3 (hc (o_load' rfl Try.underlying3 rfl ((hh416 hH.bs.mono) 0 _ rfl) ?_)))
    dsimp only [putL, setL, evL, getL]
    refine ag (ag (HL_nil (hK415 _ _ ?_)))
    dsimp only [putL, setL, evL, getL]
    refine sr fun K417 hK417 => ag (HL_nil (hK417 _ _ ?_))
    dsimp only [putL, setL, evL, getL]
    refine joinH H fun G418 hG418 H => ?_
    refine HT_joinK (fun l' s' => ∃ (x431 : Int), G418 x431 = some r ∧ skim [0, 3, 0, 0, 0, 0] l' = ([.slice A0p p0.length c0p, .int .i64 u416, .int .i64 x431, .slice A0p p0.length c0p, .int .i64 (p0.length : Int), .int .i64 x300], 41) ∧ Hp sb s F0 s' []) ?_ ?_
    ·intro K418 hK418
     refine HT_block ?_
     refine joinH H fun G432 hG432 H => ?_
     refine HT_joinK (fun l' s' => ∃ (x435 : Bool), G432 x435 = some r ∧ skim [0, 2, 0, 0, 0, 0, 0, 4] l' = ([.slice A0p p0.length c0p, .int .i64 x300, .int .i64 u416, .int .i64 0, .slice A0p p0.length c0p, .int .i64 (p0.length : Int), .int .i64 x300, .bool x435], 36) ∧ Hp sb s F0 s' []) ?_ ?_
     ·intro K432 hK432
      refine HT_region ?_
      refine mv (bn rfl rfl rfl (mv ?_))
      revert H
      refine it (fun hb436 H => ?_) (fun hb436 H => ?_)
      ·refine wt rfl rfl rfl rfl hb436 (o_move ?_)
       replace H := headE H
       obtain ⟨u437, hu437, H⟩ := H
       try dsimp only [putL, setL, evL, getL]
       refine wt rfl rfl rfl rfl hb436 (o_rem' rfl rfl hu437 (wt rfl rfl rfl rfl hb436 (o_bin rfl rfl rfl (hc (o_pickT rfl hb436 ?_)))))
       dsimp only [putL, setL, evL, getL]
       refine ag (HL_nil ?_)
       exact hK432 _ _ ⟨u437 == 0, H, rfl, hH⟩
      ·refine wf rfl rfl rfl rfl hb436 (wf rfl rfl rfl rfl hb436 ?_)
       dsimp only [putL, setL, evL, getL]
       refine wf rfl rfl rfl rfl hb436 (hc (o_pickF rfl hb436 (ag (HL_nil ?_))))
       exact hK432 _ _ ⟨false, H, rfl, hH⟩
     ·rintro l' s438 ⟨x435, H, hl, hH⟩
      revert l'
      refine skA ?_
      dsimp only [Al, Sk]
      intros
      replace H := hG432 _ H
      try dsimp only at H
      revert H
      refine ct rfl (fun hb439 H => ?_) (fun hb439 H => ?_)
      ·refine HT_region ?_
       try dsimp only [putL, setL, evL, getL]
       refine mv (mv (bn rfl rfl rfl ?_))
       replace H := headE H
       obtain ⟨u440, hu440, H⟩ := H
       obtain ⟨b440, o440, cs440, hr440, hh440, hel440⟩ := Rd.elb HRp0 hu440
       obtain rfl := hr440
       try dsimp only [putL, setL, evL, getL]
       refine hc (hel440 s438 rfl rfl Try.underlying24 tI3 (hc (o_load' rfl Try.underlying3 rfl ((hh440 hH.bs.mono) 0 _ rfl) (bn rfl rfl rfl ?_))))
       dsimp only [putL, setL, evL, getL]
       refine ag (HL_nil ?_)
       exact hK418 _ _ ⟨IntKind.i64.wrap (u440 + 2), H, rfl, hH⟩
      ·refine sr fun K441 hK441 => mv (bn rfl rfl rfl ?_)
       dsimp only [putL, setL, evL, getL]
       refine ag (HL_nil (hK441 _ _ ?_))
       dsimp only [putL, setL, evL, getL]
       revert H
       refine ct rfl (fun hb442 H => ?_) (fun hb442 H => ?_)
       ·refine HT_region ?_
        refine mv (mv (bn rfl rfl rfl ?_))
        replace H := headE H
        obtain ⟨u443, hu443, H⟩ := H
        obtain ⟨b443, o443, cs443, hr443, hh443, hel443⟩ := Rd.elb HRp0 hu443
        obtain rfl := hr443
        try dsimp only [putL, setL, evL, getL]
        refine hc (hel443 s438 rfl rfl Try.underlying24 tI3 (hc (o_load' rfl Try.underlying3 rfl ((hh443 hH.bs.mono) 0 _ rfl) (ag (HL_nil ?_)))))
        exact hK418 _ _ ⟨u443, H, rfl, hH⟩
       ·refine HT_skip ?_
        exact hK418 _ _ ⟨0, H, rfl, hH⟩
    ·rintro l' s444 ⟨x431, H, hl, hH⟩
     revert l'
     refine skA ?_
     dsimp only [Al, Sk]
     intros
     replace H := hG418 _ H
     try dsimp only at H
     refine sr fun K445 hK445 => ?_
     try dsimp only [putL, setL, evL, getL]
     refine mv (mv ?_)
     replace H := headE H
     obtain ⟨u446, hu446, H⟩ := H
     refine hc (o_call (args := #[.int .i64 u416, .int .i64 x431, .int .i64 1114111]) Try.func105 rfl rfl rfl (impl_inRange.ok sb s444 no u416 x431 1114111 (Hp.own hH.bs) _ hu446) ?_)
     rintro _ s446 ⟨rfl, hD⟩
     replace hH := hH.back0 hD (Up.refl _ _ _)
     clear hD
     try dsimp only [putL, setL, evL, getL]
     refine hc (o_not rfl (HL_nil (hK445 _ _ ?_)))
     dsimp only [putL, setL, evL, getL]
     revert H
     refine ct rfl (fun hb447 H => ?_) (fun hb447 H => ?_)
     ·refine sr fun K448 hK448 => ag (HL_nil (hK448 _ _ ?_))
      dsimp only [putL, setL, evL, getL]
      refine HT_ret ?_
      replace H := escH (fun z hz => hG4 _ hz) H
      exact hQr _ _ [.bool false] _ ⟨rfl, trivial⟩ H ⟨rfl, hH⟩
     ·refine HT_skip (hK414 _ _ ?_)
      refine HT_region ?_
      refine bn rfl rfl rfl (mv (HL_nil ?_))
      exact hK375 _ _ ⟨kf, Nat.lt_succ_self kf, IntKind.i64.wrap (x300 + 1), H, rfl, hH⟩
   ·refine HT_exit ?_
    exact hK4 _ _ ⟨H, rfl, hH⟩
 ·rintro l' s449 ⟨H, hl, hH⟩
  revert l'
  refine skA ?_
  dsimp only [Al, Sk]
  intros
  replace H := hG4 _ H
  try dsimp only at H
  refine hK2 _ _ ?_
  refine sr fun K450 hK450 => mv ?_
  dsimp only [putL, setL, evL, getL]
  refine hc (o_len rfl Try.underlying24 ?_)
  replace H := headE H
  obtain ⟨u451, hu451, H⟩ := H
  refine hc (o_rem' rfl rfl hu451 (bn rfl rfl rfl ?_))
  dsimp only [putL, setL, evL, getL]
  refine mv ?_
  revert H
  refine it (fun hb452 H => ?_) (fun hb452 H => ?_)
  ·refine wt rfl rfl rfl rfl hb452 (o_move (wt rfl rfl rfl rfl hb452 (o_len rfl Try.underlying24 ?_)))
   dsimp only [putL, setL, evL, getL]
   refine wt rfl rfl rfl rfl hb452 (o_bin rfl rfl rfl (hc (o_pickT rfl hb452 (ag (HL_nil (hK450 _ _ ?_))))))
   dsimp only [putL, setL, evL, getL]
   refine HT_ret ?_
   exact hQr _ _ [.bool (decide ((p0.length : Int) ≤ 24))] _ ⟨rfl, trivial⟩ H ⟨rfl, hH⟩
  ·refine wf rfl rfl rfl rfl hb452 (wf rfl rfl rfl rfl hb452 (wf rfl rfl rfl rfl hb452 ?_))
   dsimp only [putL, setL, evL, getL]
   refine hc (o_pickF rfl hb452 (ag (HL_nil (hK450 _ _ ?_))))
   dsimp only [putL, setL, evL, getL]
   refine HT_ret ?_
   exact hQr _ _ [.bool false] _ ⟨rfl, trivial⟩ H ⟨rfl, hH⟩
def impl_GoodRune.f (p0 : Int) : Option Bool := (impl_inRange.f p0 0 1114111).bind fun u3 => if u3 = true then ((impl_inRange.f p0 55296 57343).bind fun u5 => some (!u5)) else (some false)
def impl_GoodRune.post (sb s : St) (F0 : Fp) (r : Bool) : Value → St → Prop := fun v s' => v = .bool r ∧ Hp sb s F0 s' []
set_option maxRecDepth 100000 in
set_option maxHeartbeats 4000000 in
theorem impl_GoodRune.ok (sb s : St) (F0 : Fp) (p0 : Int) (hH : Hp sb s F0 s []) (r : Bool) (H : impl_GoodRune.f p0 = some r) : GCall Try.prog 146 #[.int .i64 p0] s (impl_GoodRune.post sb s F0 r) := by
 refine GCall_ofr (impl_GoodRune.post sb s F0) [.tmp 2] (ud [.int .i64 p0] 9) Try.func146 rfl rfl rfl fun w Q hQr hQn hQp => ?_
 replace H := topE H
 unfold impl_GoodRune.f at H
 dsimp only [ud, un]
 refine sr fun K1 hK1 => ag (HL_nil (hK1 _ _ ?_))
 dsimp only [putL, setL, evL, getL]
 refine sr fun K2 hK2 => mv ?_
 replace H := headE H
 obtain ⟨u3, hu3, H⟩ := H
 refine hc (o_call (args := #[.int .i64 p0, .int .i64 0, .int .i64 1114111]) Try.func105 rfl rfl rfl (impl_inRange.ok sb s no p0 0 1114111 (Hp.own hH.bs) _ hu3) ?_)
 rintro _ s3 ⟨rfl, hD⟩
 replace hH := hH.back0 hD (Up.refl _ _ _)
 clear hD
 refine mv ?_
 revert H
 refine it (fun hb4 H => ?_) (fun hb4 H => ?_)
 ·refine wt rfl rfl rfl rfl hb4 (o_move ?_)
  replace H := headE H
  obtain ⟨u5, hu5, H⟩ := H
  try dsimp only [putL, setL, evL, getL]
  refine wt rfl rfl rfl rfl hb4 (o_call (args := #[.int .i64 p0, .int .i64 55296, .int .i64 57343]) Try.func105 rfl rfl rfl (impl_inRange.ok sb s3 no p0 55296 57343 (Hp.own hH.bs) _ hu5) ?_)
  rintro _ s5 ⟨rfl, hD⟩
  replace hH := hH.back0 hD (Up.refl _ _ _)
  clear hD
  refine wt rfl rfl rfl rfl hb4 (o_not rfl (hc (o_pickT rfl hb4 ?_)))
  dsimp only [putL, setL, evL, getL]
  refine ag (HL_nil (hK2 _ _ ?_))
  dsimp only [putL, setL, evL, getL]
  refine HT_ret ?_
  exact hQr _ _ [.bool (!u5)] _ ⟨rfl, trivial⟩ H ⟨rfl, hH⟩
 ·refine wf rfl rfl rfl rfl hb4 (wf rfl rfl rfl rfl hb4 (wf rfl rfl rfl rfl hb4 ?_))
  dsimp only [putL, setL, evL, getL]
  refine hc (o_pickF rfl hb4 (ag (HL_nil (hK2 _ _ ?_))))
  dsimp only [putL, setL, evL, getL]
  refine HT_ret ?_
  exact hQr _ _ [.bool false] _ ⟨rfl, trivial⟩ H ⟨rfl, hH⟩
def impl_GoodRe_1_1.f (p0 : Int) : Option Bool := (impl_GoodRune.f p0).bind fun u3 => some (!u3)
def impl_GoodRe_1_1.post (sb s : St) (F0 : Fp) (r : Bool) : Value → St → Prop := fun v s' => v = .bool r ∧ Hp sb s F0 s' []
set_option maxRecDepth 100000 in
set_option maxHeartbeats 4000000 in
theorem impl_GoodRe_1_1.ok (sb s : St) (F0 : Fp) (p0 : Int) (hH : Hp sb s F0 s []) (r : Bool) (H : impl_GoodRe_1_1.f p0 = some r) : GCall Try.prog 193 #[.int .i64 p0] s (impl_GoodRe_1_1.post sb s F0 r) := by
 refine GCall_ofr (impl_GoodRe_1_1.post sb s F0) [.tmp 2] (ud [.int .i64 p0] 5) Try.func193 rfl rfl rfl fun w Q hQr hQn hQp => ?_
 replace H := topE H
 unfold impl_GoodRe_1_1.f at H
 dsimp only [ud, un]
 refine sr fun K1 hK1 => ag (HL_nil (hK1 _ _ ?_))
 dsimp only [putL, setL, evL, getL]
 refine sr fun K2 hK2 => mv ?_
 replace H := headE H
 obtain ⟨u3, hu3, H⟩ := H
 refine hc (o_call (args := #[.int .i64 p0]) Try.func146 rfl rfl rfl (impl_GoodRune.ok sb s no p0 (Hp.own hH.bs) _ hu3) ?_)
 rintro _ s3 ⟨rfl, hD⟩
 replace hH := hH.back0 hD (Up.refl _ _ _)
 clear hD
 refine hc (o_not rfl ?_)
 dsimp only [putL, setL, evL, getL]
 refine ag (HL_nil (hK2 _ _ ?_))
 dsimp only [putL, setL, evL, getL]
 refine HT_ret ?_
 exact hQr _ _ [.bool (!u3)] _ ⟨rfl, trivial⟩ H ⟨rfl, hH⟩
def slices_IndexFunc_int_int_impl_GoodRe_1_1.l1 (p0 : List (Int)) : Nat → Int → Option (Lo Unit Int)
 | 0, _ => none
 | kf + 1, x48 => if (decide (x48 < (p0.length : Int))) = true then ((rd? p0 x48).bind fun u67 => (impl_GoodRe_1_1.f u67).bind fun u68 => if u68 = true then ((some x48).bind fun z => some (Lo.ret z)) else (slices_IndexFunc_int_int_impl_GoodRe_1_1.l1 p0 kf (IntKind.i64.wrap (x48 + 1)))) else (some (Lo.go ()))
def slices_IndexFunc_int_int_impl_GoodRe_1_1.f (p0 : List (Int)) : Option Int := (slices_IndexFunc_int_int_impl_GoodRe_1_1.l1 p0 ((((p0.length : Int)) - (0)).toNat + 2) 0).bind fun (o : Lo Unit Int) => match o with | .go () => (some (-1)) | .ret z => some z
def slices_IndexFunc_int_int_impl_GoodRe_1_1.post (sb s : St) (F0 : Fp) (r : Int) : Value → St → Prop := fun v s' => v = .int .i64 r ∧ Hp sb s F0 s' []
set_option maxRecDepth 100000 in
set_option maxHeartbeats 4000000 in
theorem slices_IndexFunc_int_int_impl_GoodRe_1_1.ok (sb s : St) (F0 : Fp) (A0p : Option Addr) (c0p : Nat) (p0 : List (Int)) (HRp0 : Rd KI sb A0p c0p p0) (hH : Hp sb s F0 s []) (r : Int) (H : slices_IndexFunc_int_int_impl_GoodRe_1_1.f p0 = some r) : GCall Try.prog 184 #[.slice A0p p0.length c0p, .func (.func 193) #[] #[]] s (slices_IndexFunc_int_int_impl_GoodRe_1_1.post sb s F0 r) := by
 refine GCall_ofr (slices_IndexFunc_int_int_impl_GoodRe_1_1.post sb s F0) [.tmp 4] (ud [.slice A0p p0.length c0p, .func (.func 193) #[] #[]] 17) Try.func184 rfl rfl rfl fun w Q hQr hQn hQp => ?_
 replace H := topE H
 unfold slices_IndexFunc_int_int_impl_GoodRe_1_1.f at H
 dsimp only [ud, un]
 refine sr fun K1 hK1 => ag (HL_nil (hK1 _ _ ?_))
 dsimp only [putL, setL, evL, getL]
 refine HT_seq_k fun K2 hK2 => sr fun K3 hK3 => mv (hc (o_len rfl Try.underlying24 (mv (HL_nil (hK3 _ _ ?_)))))
 dsimp only [putL, setL, evL, getL]
 refine joinH H fun G4 hG4 H => ?_
 refine HT_toK (fun l' s' => G4 (.go ()) = some r ∧ skim [] l' = ([], 20) ∧ Hp sb s F0 s' []) ?_ ?_
 ·intro K4 hK4
  refine HT_block ?_
  refine HT_loopK (fun kf l' s' => ∃ (x48 : Int), (slices_IndexFunc_int_int_impl_GoodRe_1_1.l1 p0 kf x48).bind G4 = some r ∧ skim [0, 0, 5, 0] l' = ([.slice A0p p0.length c0p, .func (.func 193) #[] #[], .int .i64 (p0.length : Int), .int .i64 x48], 11) ∧ Hp sb s F0 s' []) ((((p0.length : Int)) - (0)).toNat + 2) ⟨0, H, rfl, hH⟩ ?_
  rintro kf l' s60 ⟨x48, H, hl, hH⟩ K60 hK60
  revert l'
  refine skA ?_
  dsimp only [Al, Sk]
  intros
  cases kf with
  | zero => simp [slices_IndexFunc_int_int_impl_GoodRe_1_1.l1] at H
  | succ kf =>
   rw [slices_IndexFunc_int_int_impl_GoodRe_1_1.l1] at H
   refine sr fun K61 hK61 => bn rfl rfl rfl (HL_nil (hK61 _ _ ?_))
   dsimp only [putL, setL, evL, getL]
   refine HT_seq_k fun K62 hK62 => ?_
   revert H
   refine ct rfl (fun hb63 H => ?_) (fun hb63 H => ?_)
   ·refine HT_skip (hK62 _ _ (HT_seq_k fun K64 hK64 => (HT_block (sr fun K65 hK65 => (mv (ag (HL_nil (hK65 _ _ ?_))))))))
    dsimp only [putL, setL, evL, getL]
    refine sr fun K66 hK66 => mv (mv (mv ?_))
    replace H := headE H
    obtain ⟨u67, hu67, H⟩ := H
    obtain ⟨b67, o67, cs67, hr67, hh67, hel67⟩ := Rd.elb HRp0 hu67
    obtain rfl := hr67
    try dsimp only [putL, setL, evL, getL]
    refine hc (hel67 s60 rfl rfl Try.underlying24 tI3 (hc (o_load' rfl Try.underlying3 rfl ((hh67 hH.bs.mono) 0 _ rfl) ?_)))
    replace H := headE H
    obtain ⟨u68, hu68, H⟩ := H
    refine hc (o_callv (first := #[]) (cap := #[]) (args := #[.int .i64 u67]) rfl Try.func193 rfl rfl [.int .i64 u67] rfl (by simp) (impl_GoodRe_1_1.ok sb s60 no u67 (Hp.own hH.bs) _ hu68) ?_)
    rintro _ s68 ⟨rfl, hD⟩
    replace hH := hH.back0 hD (Up.refl _ _ _)
    clear hD
    refine HL_nil (hK66 _ _ ?_)
    try dsimp only [putL, setL, evL, getL]
    revert H
    refine ct rfl (fun hb69 H => ?_) (fun hb69 H => ?_)
    ·refine sr fun K70 hK70 => mv (ag (HL_nil (hK70 _ _ ?_)))
     dsimp only [putL, setL, evL, getL]
     refine HT_ret ?_
     replace H := escH (fun z hz => hG4 _ hz) H
     exact hQr _ _ [.int .i64 x48] _ ⟨rfl, trivial⟩ H ⟨rfl, hH⟩
    ·refine HT_skip (hK64 _ _ ?_)
     refine HT_region ?_
     refine bn rfl rfl rfl (mv (HL_nil ?_))
     exact hK60 _ _ ⟨kf, Nat.lt_succ_self kf, IntKind.i64.wrap (x48 + 1), H, rfl, hH⟩
   ·refine HT_exit ?_
    exact hK4 _ _ ⟨H, rfl, hH⟩
 ·rintro l' s71 ⟨H, hl, hH⟩
  revert l'
  refine skA ?_
  dsimp only [Al, Sk]
  intros
  replace H := hG4 _ H
  try dsimp only at H
  refine hK2 _ _ ?_
  refine sr fun K72 hK72 => ag (HL_nil (hK72 _ _ ?_))
  dsimp only [putL, setL, evL, getL]
  refine HT_ret ?_
  exact hQr _ _ [.int .i64 (-1)] _ ⟨rfl, trivial⟩ H ⟨rfl, hH⟩
def slices_ContainsFunc_int_int_impl_GoodRe_1_1.f (p0 : List (Int)) : Option Bool := (slices_IndexFunc_int_int_impl_GoodRe_1_1.f p0).bind fun u3 => some (decide (u3 ≥ 0))
def slices_ContainsFunc_int_int_impl_GoodRe_1_1.post (sb s : St) (F0 : Fp) (r : Bool) : Value → St → Prop := fun v s' => v = .bool r ∧ Hp sb s F0 s' []
set_option maxRecDepth 100000 in
set_option maxHeartbeats 4000000 in
theorem slices_ContainsFunc_int_int_impl_GoodRe_1_1.ok (sb s : St) (F0 : Fp) (A0p : Option Addr) (c0p : Nat) (p0 : List (Int)) (HRp0 : Rd KI sb A0p c0p p0) (hH : Hp sb s F0 s []) (r : Bool) (H : slices_ContainsFunc_int_int_impl_GoodRe_1_1.f p0 = some r) : GCall Try.prog 114 #[.slice A0p p0.length c0p, .func (.func 193) #[] #[]] s (slices_ContainsFunc_int_int_impl_GoodRe_1_1.post sb s F0 r) := by
 refine GCall_ofr (slices_ContainsFunc_int_int_impl_GoodRe_1_1.post sb s F0) [.tmp 4] (ud [.slice A0p p0.length c0p, .func (.func 193) #[] #[]] 7) Try.func114 rfl rfl rfl fun w Q hQr hQn hQp => ?_
 replace H := topE H
 unfold slices_ContainsFunc_int_int_impl_GoodRe_1_1.f at H
 dsimp only [ud, un]
 refine sr fun K1 hK1 => ag (HL_nil (hK1 _ _ ?_))
 dsimp only [putL, setL, evL, getL]
 refine sr fun K2 hK2 => mv (mv ?_)
 replace H := headE H
 obtain ⟨u3, hu3, H⟩ := H
 refine hc (o_call (args := #[.slice A0p p0.length c0p, .func (.func 193) #[] #[]]) Try.func184 rfl rfl rfl (slices_IndexFunc_int_int_impl_GoodRe_1_1.ok sb s no A0p c0p p0 HRp0 (Hp.own hH.bs) _ hu3) ?_)
 rintro _ s3 ⟨rfl, hD⟩
 replace hH := hH.back0 hD (Up.refl _ _ _)
 clear hD
 try dsimp only [putL, setL, evL, getL]
 refine bn rfl rfl rfl (ag (HL_nil (hK2 _ _ ?_)))
 dsimp only [putL, setL, evL, getL]
 refine HT_ret ?_
 exact hQr _ _ [.bool (decide (u3 ≥ 0))] _ ⟨rfl, trivial⟩ H ⟨rfl, hH⟩
def impl_GoodRe_1.f (p0_0 : Int) (p0_1 : List (Int)) : Option Bool := (impl_GoodSet.f p0_1).bind fun u4 => if (!u4) = true then (some true) else ((slices_ContainsFunc_int_int_impl_GoodRe_1_1.f p0_1).bind fun u6 => if u6 = true then (some true) else (if (p0_0 != 2) = true then (some (decide ((p0_1.length : Int) > 0))) else (some false)))
def impl_GoodRe_1.post (sb s : St) (F0 : Fp) (r : Bool) : Value → St → Prop := fun v s' => v = .bool r ∧ Hp sb s F0 s' []
set_option maxRecDepth 100000 in
set_option maxHeartbeats 4000000 in
theorem impl_GoodRe_1.ok (sb s : St) (F0 : Fp) (p0_0 : Int) (A0_1p : Option Addr) (c0_1p : Nat) (p0_1 : List (Int)) (HRp0_1 : Rd KI sb A0_1p c0_1p p0_1) (hH : Hp sb s F0 s []) (r : Bool) (H : impl_GoodRe_1.f p0_0 p0_1 = some r) : GCall Try.prog 191 #[.agg #[.int .i64 p0_0, .slice A0_1p p0_1.length c0_1p]] s (impl_GoodRe_1.post sb s F0 r) := by
 refine GCall_ofr (impl_GoodRe_1.post sb s F0) [.tmp 2] (ud [.agg #[.int .i64 p0_0, .slice A0_1p p0_1.length c0_1p]] 22) Try.func191 rfl rfl rfl fun w Q hQr hQn hQp => ?_
 replace H := topE H
 unfold impl_GoodRe_1.f at H
 dsimp only [ud, un]
 refine sr fun K1 hK1 => hc (o_boxH hH rfl ?_)
 clear hH
 intro b2 s2 hH _
 refine ag (HL_nil (hK1 _ _ ?_))
 dsimp only [putL, setL, evL, getL]
 refine sr fun K3 hK3 => hc (o_faddr' (ft := 24) (off := 1) rfl Try.underlying139 rfl tI24 (by decide) (hc (o_load' rfl Try.underlying24 rfl (hH.hasv 0 rfl rfl) ?_)))
 replace H := headE H
 obtain ⟨u4, hu4, H⟩ := H
 refine hc (o_call (args := #[.slice A0_1p p0_1.length c0_1p]) Try.func192 rfl rfl rfl (impl_GoodSet.ok sb s2 no A0_1p c0_1p p0_1 HRp0_1 (Hp.own hH.bs) _ hu4) ?_)
 rintro _ s4 ⟨rfl, hD⟩
 replace hH := hH.back0 hD (Up.refl _ _ _)
 clear hD
 try dsimp only [putL, setL, evL, getL]
 refine hc (o_not rfl (mv ?_))
 revert H
 refine it (fun hb5 H => ?_) (fun hb5 H => ?_)
 ·refine wf rfl rfl rfl rfl hb5 ?_
  dsimp only [putL, setL, evL, getL]
  refine wf rfl rfl rfl rfl hb5 (wf rfl rfl rfl rfl hb5 (hc (o_pickT rfl hb5 ?_)))
  dsimp only [putL, setL, evL, getL]
  refine mv (wf rfl rfl rfl rfl rfl (wf rfl rfl rfl rfl rfl ?_))
  dsimp only [putL, setL, evL, getL]
  refine wf rfl rfl rfl rfl rfl (wf rfl rfl rfl rfl rfl (wu rfl rfl rfl rfl ?_))
  dsimp only [putL, setL, evL, getL]
  refine wu rfl rfl rfl rfl (wu rfl rfl rfl rfl (wu rfl rfl rfl rfl ?_))
  dsimp only [putL, setL, evL, getL]
  refine wf rfl rfl rfl rfl rfl (hc (o_pickT rfl rfl (ag (HL_nil (hK3 _ _ ?_)))))
  dsimp only [putL, setL, evL, getL]
  refine HT_ret ?_
  exact hQr _ _ [.bool true] _ ⟨rfl, trivial⟩ H ⟨rfl, hH.sel [] (by decide)⟩
 ·refine wt rfl rfl rfl rfl hb5 (o_faddr' (ft := 24) (off := 1) rfl Try.underlying139 rfl tI24 (by decide) (wt rfl rfl rfl rfl hb5 (o_load' rfl Try.underlying24 rfl (hH.hasv 0 rfl rfl) ?_)))
  replace H := headE H
  obtain ⟨u6, hu6, H⟩ := H
  refine wt rfl rfl rfl rfl hb5 (o_call (args := #[.slice A0_1p p0_1.length c0_1p, .func (.func 193) #[] #[]]) Try.func114 rfl rfl rfl (slices_ContainsFunc_int_int_impl_GoodRe_1_1.ok sb s4 no A0_1p c0_1p p0_1 HRp0_1 (Hp.own hH.bs) _ hu6) ?_)
  rintro _ s6 ⟨rfl, hD⟩
  replace hH := hH.back0 hD (Up.refl _ _ _)
  clear hD
  try dsimp only [putL, setL, evL, getL]
  refine hc (o_pickF rfl hb5 (mv ?_))
  revert H
  refine it (fun hb7 H => ?_) (fun hb7 H => ?_)
  ·refine wf rfl rfl rfl rfl hb7 ?_
   dsimp only [putL, setL, evL, getL]
   refine wf rfl rfl rfl rfl hb7 (wf rfl rfl rfl rfl hb7 (wf rfl rfl rfl rfl hb7 ?_))
   dsimp only [putL, setL, evL, getL]
   refine wu rfl rfl rfl rfl (wu rfl rfl rfl rfl (wu rfl rfl rfl rfl ?_))
   dsimp only [putL, setL, evL, getL]
   refine wu rfl rfl rfl rfl (wf rfl rfl rfl rfl hb7 (hc (o_pickT rfl hb7 ?_)))
   dsimp only [putL, setL, evL, getL]
   refine ag (HL_nil (hK3 _ _ ?_))
   dsimp only [putL, setL, evL, getL]
   refine HT_ret ?_
   exact hQr _ _ [.bool true] _ ⟨rfl, trivial⟩ H ⟨rfl, hH.sel [] (by decide)⟩
  ·refine wt rfl rfl rfl rfl hb7 (o_faddr' (ft := 3) (off := 0) rfl Try.underlying139 rfl tI3 (by decide) (wt rfl rfl rfl rfl hb7 (o_load' rfl Try.underlying3 rfl (hH.hasv 0 rfl rfl) (wt rfl rfl rfl rfl hb7 (o_bin rfl rfl rfl ?_)))))
   dsimp only [putL, setL, evL, getL]
   refine wt rfl rfl rfl rfl hb7 (o_move ?_)
   revert H
   refine it (fun hb8 H => ?_) (fun hb8 H => ?_)
   ·refine wt rfl rfl rfl rfl hb8 (o_faddr' (ft := 24) (off := 1) rfl Try.underlying139 rfl tI24 (by decide) (wt rfl rfl rfl rfl hb8 (o_load' rfl Try.underlying24 rfl (hH.hasv 0 rfl rfl) ?_)))
    dsimp only [putL, setL, evL, getL]
    refine wt rfl rfl rfl rfl hb8 (o_len rfl Try.underlying24 (wt rfl rfl rfl rfl hb8 (o_bin rfl rfl rfl (wt rfl rfl rfl rfl hb7 (o_pickT rfl hb8 ?_)))))
    dsimp only [putL, setL, evL, getL]
    refine hc (o_pickF rfl hb7 (ag (HL_nil (hK3 _ _ ?_))))
    dsimp only [putL, setL, evL, getL]
    refine HT_ret ?_
    exact hQr _ _ [.bool (decide ((p0_1.length : Int) > 0))] _ ⟨rfl, trivial⟩ H ⟨rfl, hH.sel [] (by decide)⟩
   ·refine wf rfl rfl rfl rfl hb8 (wf rfl rfl rfl rfl hb8 (wf rfl rfl rfl rfl hb8 ?_))
    dsimp only [putL, setL, evL, getL]
    refine wf rfl rfl rfl rfl hb8 (wt rfl rfl rfl rfl hb7 (o_pickF rfl hb8 (hc (o_pickF rfl hb7 ?_))))
    dsimp only [putL, setL, evL, getL]
    refine ag (HL_nil (hK3 _ _ ?_))
    dsimp only [putL, setL, evL, getL]
    refine HT_ret ?_
    exact hQr _ _ [.bool false] _ ⟨rfl, trivial⟩ H ⟨rfl, hH.sel [] (by decide)⟩
def slices_IndexFunc_impl_Re_impl_Re_impl_GoodRe_1.l1 (p0 : List ((Int) × (List (Int)))) : Nat → Int → Option (Lo Unit Int)
 | 0, _ => none
 | kf + 1, x52 => if (decide (x52 < (p0.length : Int))) = true then ((rd? p0 x52).bind fun u72 => (impl_GoodRe_1.f u72.1 u72.2).bind fun u74 => if u74 = true then ((some x52).bind fun z => some (Lo.ret z)) else (slices_IndexFunc_impl_Re_impl_Re_impl_GoodRe_1.l1 p0 kf (IntKind.i64.wrap (x52 + 1)))) else (some (Lo.go ()))
def slices_IndexFunc_impl_Re_impl_Re_impl_GoodRe_1.f (p0 : List ((Int) × (List (Int)))) : Option Int := (slices_IndexFunc_impl_Re_impl_Re_impl_GoodRe_1.l1 p0 ((((p0.length : Int)) - (0)).toNat + 2) 0).bind fun (o : Lo Unit Int) => match o with | .go () => (some (-1)) | .ret z => some z
def slices_IndexFunc_impl_Re_impl_Re_impl_GoodRe_1.post (sb s : St) (F0 : Fp) (r : Int) : Value → St → Prop := fun v s' => v = .int .i64 r ∧ Hp sb s F0 s' []
set_option maxRecDepth 100000 in
set_option maxHeartbeats 4000000 in
theorem slices_IndexFunc_impl_Re_impl_Re_impl_GoodRe_1.ok (sb s : St) (F0 : Fp) (A0p : Option Addr) (c0p : Nat) (p0 : List ((Int) × (List (Int)))) (HRp0 : Rd KS139 sb A0p c0p p0) (hH : Hp sb s F0 s []) (r : Int) (H : slices_IndexFunc_impl_Re_impl_Re_impl_GoodRe_1.f p0 = some r) : GCall Try.prog 221 #[.slice A0p p0.length c0p, .func (.func 191) #[] #[]] s (slices_IndexFunc_impl_Re_impl_Re_impl_GoodRe_1.post sb s F0 r) := by
 refine GCall_ofr (slices_IndexFunc_impl_Re_impl_Re_impl_GoodRe_1.post sb s F0) [.tmp 4] (ud [.slice A0p p0.length c0p, .func (.func 191) #[] #[]] 17) Try.func221 rfl rfl rfl fun w Q hQr hQn hQp => ?_
 replace H := topE H
 unfold slices_IndexFunc_impl_Re_impl_Re_impl_GoodRe_1.f at H
 dsimp only [ud, un]
 refine sr fun K1 hK1 => ag (HL_nil (hK1 _ _ ?_))
 dsimp only [putL, setL, evL, getL]
 refine HT_seq_k fun K2 hK2 => sr fun K3 hK3 => mv (hc (o_len rfl Try.underlying57 (mv (HL_nil (hK3 _ _ ?_)))))
 dsimp only [putL, setL, evL, getL]
 refine joinH H fun G4 hG4 H => ?_
 refine HT_toK (fun l' s' => G4 (.go ()) = some r ∧ skim [] l' = ([], 20) ∧ Hp sb s F0 s' []) ?_ ?_
 ·intro K4 hK4
  refine HT_block ?_
  refine HT_loopK (fun kf l' s' => ∃ (x52 : Int), (slices_IndexFunc_impl_Re_impl_Re_impl_GoodRe_1.l1 p0 kf x52).bind G4 = some r ∧ skim [0, 0, 5, 0] l' = ([.slice A0p p0.length c0p, .func (.func 191) #[] #[], .int .i64 (p0.length : Int), .int .i64 x52], 11) ∧ Hp sb s F0 s' []) ((((p0.length : Int)) - (0)).toNat + 2) ⟨0, H, rfl, hH⟩ ?_
  rintro kf l' s65 ⟨x52, H, hl, hH⟩ K65 hK65
  revert l'
  refine skA ?_
  dsimp only [Al, Sk]
  intros
  cases kf with
  | zero => simp [slices_IndexFunc_impl_Re_impl_Re_impl_GoodRe_1.l1] at H
  | succ kf =>
   rw [slices_IndexFunc_impl_Re_impl_Re_impl_GoodRe_1.l1] at H
   refine sr fun K66 hK66 => bn rfl rfl rfl (HL_nil (hK66 _ _ ?_))
   dsimp only [putL, setL, evL, getL]
   refine HT_seq_k fun K67 hK67 => ?_
   revert H
   refine ct rfl (fun hb68 H => ?_) (fun hb68 H => ?_)
   ·refine HT_skip (hK67 _ _ (HT_seq_k fun K69 hK69 => (HT_block (sr fun K70 hK70 => (mv (ag (HL_nil (hK70 _ _ ?_))))))))
    dsimp only [putL, setL, evL, getL]
    refine sr fun K71 hK71 => mv (mv (mv ?_))
    replace H := headE H
    obtain ⟨u72, hu72, H⟩ := H
    obtain ⟨b72, o72, cs72, hr72, hh72, hel72⟩ := Rd.elb HRp0 hu72
    obtain ⟨_, _, rfl, rfl, ⟨A73, c73, rfl, D73⟩⟩ := hr72
    try dsimp only [putL, setL, evL, getL]
    refine hc (hel72 s65 rfl rfl Try.underlying57 tI139 (hc (o_loads' [.int .i64 u72.1, .slice A73 u72.2.length c73] rfl Try.underlying139 rfl tI139 rfl (fun j v hj => (hh72 hH.bs.mono) j v hj) ?_)))
    replace H := headE H
    obtain ⟨u74, hu74, H⟩ := H
    refine hc (o_callv (first := #[]) (cap := #[]) (args := #[.agg #[.int .i64 u72.1, .slice A73 u72.2.length c73]]) rfl Try.func191 rfl rfl [.agg #[.int .i64 u72.1, .slice A73 u72.2.length c73]] rfl (by simp) (impl_GoodRe_1.ok sb s65 no u72.1 A73 c73 u72.2 D73 (Hp.own hH.bs) _ hu74) ?_)
    rintro _ s74 ⟨rfl, hD⟩
    replace hH := hH.back0 hD (Up.refl _ _ _)
    clear hD
    refine HL_nil (hK71 _ _ ?_)
    try dsimp only [putL, setL, evL, getL]
    revert H
    refine ct rfl (fun hb75 H => ?_) (fun hb75 H => ?_)
    ·refine sr fun K76 hK76 => mv (ag (HL_nil (hK76 _ _ ?_)))
     dsimp only [putL, setL, evL, getL]
     refine HT_ret ?_
     replace H := escH (fun z hz => hG4 _ hz) H
     exact hQr _ _ [.int .i64 x52] _ ⟨rfl, trivial⟩ H ⟨rfl, hH⟩
    ·refine HT_skip (hK69 _ _ ?_)
     refine HT_region ?_
     refine bn rfl rfl rfl (mv (HL_nil ?_))
     exact hK65 _ _ ⟨kf, Nat.lt_succ_self kf, IntKind.i64.wrap (x52 + 1), H, rfl, hH⟩
   ·refine HT_exit ?_
    exact hK4 _ _ ⟨H, rfl, hH⟩
 ·rintro l' s77 ⟨H, hl, hH⟩
  revert l'
  refine skA ?_
  dsimp only [Al, Sk]
  intros
  replace H := hG4 _ H
  try dsimp only at H
  refine hK2 _ _ ?_
  refine sr fun K78 hK78 => ag (HL_nil (hK78 _ _ ?_))
  dsimp only [putL, setL, evL, getL]
  refine HT_ret ?_
  exact hQr _ _ [.int .i64 (-1)] _ ⟨rfl, trivial⟩ H ⟨rfl, hH⟩
def slices_ContainsFunc_impl_Re_impl_Re_impl_GoodRe_1.f (p0 : List ((Int) × (List (Int)))) : Option Bool := (slices_IndexFunc_impl_Re_impl_Re_impl_GoodRe_1.f p0).bind fun u3 => some (decide (u3 ≥ 0))
def slices_ContainsFunc_impl_Re_impl_Re_impl_GoodRe_1.post (sb s : St) (F0 : Fp) (r : Bool) : Value → St → Prop := fun v s' => v = .bool r ∧ Hp sb s F0 s' []
set_option maxRecDepth 100000 in
set_option maxHeartbeats 4000000 in
theorem slices_ContainsFunc_impl_Re_impl_Re_impl_GoodRe_1.ok (sb s : St) (F0 : Fp) (A0p : Option Addr) (c0p : Nat) (p0 : List ((Int) × (List (Int)))) (HRp0 : Rd KS139 sb A0p c0p p0) (hH : Hp sb s F0 s []) (r : Bool) (H : slices_ContainsFunc_impl_Re_impl_Re_impl_GoodRe_1.f p0 = some r) : GCall Try.prog 190 #[.slice A0p p0.length c0p, .func (.func 191) #[] #[]] s (slices_ContainsFunc_impl_Re_impl_Re_impl_GoodRe_1.post sb s F0 r) := by
 refine GCall_ofr (slices_ContainsFunc_impl_Re_impl_Re_impl_GoodRe_1.post sb s F0) [.tmp 4] (ud [.slice A0p p0.length c0p, .func (.func 191) #[] #[]] 7) Try.func190 rfl rfl rfl fun w Q hQr hQn hQp => ?_
 replace H := topE H
 unfold slices_ContainsFunc_impl_Re_impl_Re_impl_GoodRe_1.f at H
 dsimp only [ud, un]
 refine sr fun K1 hK1 => ag (HL_nil (hK1 _ _ ?_))
 dsimp only [putL, setL, evL, getL]
 refine sr fun K2 hK2 => mv (mv ?_)
 replace H := headE H
 obtain ⟨u3, hu3, H⟩ := H
 refine hc (o_call (args := #[.slice A0p p0.length c0p, .func (.func 191) #[] #[]]) Try.func221 rfl rfl rfl (slices_IndexFunc_impl_Re_impl_Re_impl_GoodRe_1.ok sb s no A0p c0p p0 HRp0 (Hp.own hH.bs) _ hu3) ?_)
 rintro _ s3 ⟨rfl, hD⟩
 replace hH := hH.back0 hD (Up.refl _ _ _)
 clear hD
 try dsimp only [putL, setL, evL, getL]
 refine bn rfl rfl rfl (ag (HL_nil (hK2 _ _ ?_)))
 dsimp only [putL, setL, evL, getL]
 refine HT_ret ?_
 exact hQr _ _ [.bool (decide (u3 ≥ 0))] _ ⟨rfl, trivial⟩ H ⟨rfl, hH⟩
def impl_partsOf.f (p0 : Int) : Option Int := (if (p0 == 1) = true then (some (p0 == 1)) else (some (p0 == 2))).bind fun (o : Bool) => match o with | x40 => (if x40 = true then (some 0) else ((if (p0 == 6) = true then (some (p0 == 6)) else (some (p0 == 7))).bind fun (o : Bool) => match o with | x49 => (if x49 = true then (some 1) else ((if (p0 == 3) = true then (some (p0 == 3)) else (if (p0 == 4) = true then (some (p0 == 4)) else (some (p0 == 5)))).bind fun (o : Bool) => match o with | x60 => (if x60 = true then (some 2) else (some (-1)))))))
def impl_partsOf.post (sb s : St) (F0 : Fp) (r : Int) : Value → St → Prop := fun v s' => v = .int .i64 r ∧ Hp sb s F0 s' []
set_option maxRecDepth 100000 in
set_option maxHeartbeats 4000000 in
theorem impl_partsOf.ok (sb s : St) (F0 : Fp) (p0 : Int) (hH : Hp sb s F0 s []) (r : Int) (H : impl_partsOf.f p0 = some r) : GCall Try.prog 203 #[.int .i64 p0] s (impl_partsOf.post sb s F0 r) := by
 refine GCall_ofr (impl_partsOf.post sb s F0) [.tmp 2] (ud [.int .i64 p0] 13) Try.func203 rfl rfl rfl fun w Q hQr hQn hQp => ?_
 replace H := topE H
 unfold impl_partsOf.f at H
 dsimp only [ud, un]
 refine sr fun K1 hK1 => ag (HL_nil (hK1 _ _ ?_))
 dsimp only [putL, setL, evL, getL]
 refine HT_seq_k fun K35 hK35 => sr fun K36 hK36 => mv (HL_nil (hK36 _ _ ?_))
 dsimp only [putL, setL, evL, getL]
 refine HT_block ?_
 refine joinH H fun G37 hG37 H => ?_
 refine HT_joinK (fun l' s' => ∃ (x40 : Bool), G37 x40 = some r ∧ skim [3, 0] l' = ([.int .i64 p0, .bool x40], 10) ∧ Hp sb s F0 s' []) ?_ ?_
 ·intro K37 hK37
  refine sr fun K41 hK41 => bn rfl rfl rfl (ag (HL_nil (hK41 _ _ ?_)))
  dsimp only [putL, setL, evL, getL]
  revert H
  refine ct rfl (fun hb42 H => ?_) (fun hb42 H => ?_)
  ·refine HT_skip ?_
   exact hK37 _ _ ⟨p0 == 1, H, rfl, hH⟩
  ·refine HT_region ?_
   refine bn rfl rfl rfl (ag (HL_nil ?_))
   exact hK37 _ _ ⟨p0 == 2, H, rfl, hH⟩
 ·rintro l' s43 ⟨x40, H, hl, hH⟩
  revert l'
  refine skA ?_
  dsimp only [Al, Sk]
  intros
  replace H := hG37 _ H
  try dsimp only at H
  revert H
  refine ct rfl (fun hb44 H => ?_) (fun hb44 H => ?_)
  ·refine sr fun K45 hK45 => ag (HL_nil (hK45 _ _ ?_))
   dsimp only [putL, setL, evL, getL]
   refine HT_ret ?_
   exact hQr _ _ [.int .i64 0] _ ⟨rfl, trivial⟩ H ⟨rfl, hH⟩
  ·refine joinH H fun G46 hG46 H => ?_
   refine HT_joinK (fun l' s' => ∃ (x49 : Bool), G46 x49 = some r ∧ skim [3, 3] l' = ([.int .i64 p0, .bool x49], 7) ∧ Hp sb s F0 s' []) ?_ ?_
   ·intro K46 hK46
    refine sr fun K50 hK50 => bn rfl rfl rfl (ag (HL_nil (hK50 _ _ ?_)))
    dsimp only [putL, setL, evL, getL]
    revert H
    refine ct rfl (fun hb51 H => ?_) (fun hb51 H => ?_)
    ·refine HT_skip ?_
     exact hK46 _ _ ⟨p0 == 6, H, rfl, hH⟩
    ·refine HT_region ?_
     refine bn rfl rfl rfl (ag (HL_nil ?_))
     exact hK46 _ _ ⟨p0 == 7, H, rfl, hH⟩
   ·rintro l' s52 ⟨x49, H, hl, hH⟩
    revert l'
    refine skA ?_
    dsimp only [Al, Sk]
    intros
    replace H := hG46 _ H
    try dsimp only at H
    revert H
    refine ct rfl (fun hb53 H => ?_) (fun hb53 H => ?_)
    ·refine sr fun K54 hK54 => ag (HL_nil (hK54 _ _ ?_))
     dsimp only [putL, setL, evL, getL]
     refine HT_ret ?_
     exact hQr _ _ [.int .i64 1] _ ⟨rfl, trivial⟩ H ⟨rfl, hH⟩
    ·refine joinH H fun G55 hG55 H => ?_
     refine HT_joinK (fun l' s' => ∃ (x60 : Bool), G55 x60 = some r ∧ skim [10] l' = ([.bool x60], 4) ∧ Hp sb s F0 s' []) ?_ ?_
     ·intro K55 hK55
      refine sr fun K61 hK61 => bn rfl rfl rfl (ag (HL_nil (hK61 _ _ ?_)))
      dsimp only [putL, setL, evL, getL]
      revert H
      refine ct rfl (fun hb62 H => ?_) (fun hb62 H => ?_)
      ·refine HT_skip ?_
       exact hK55 _ _ ⟨p0 == 3, H, rfl, hH⟩
      ·refine sr fun K63 hK63 => bn rfl rfl rfl (ag (HL_nil (hK63 _ _ ?_)))
       dsimp only [putL, setL, evL, getL]
       revert H
       refine ct rfl (fun hb64 H => ?_) (fun hb64 H => ?_)
       ·refine HT_skip ?_
        exact hK55 _ _ ⟨p0 == 4, H, rfl, hH⟩
       ·refine HT_region ?_
        refine bn rfl rfl rfl (ag (HL_nil ?_))
        exact hK55 _ _ ⟨p0 == 5, H, rfl, hH⟩
     ·rintro l' s65 ⟨x60, H, hl, hH⟩
      revert l'
      refine skA ?_
      dsimp only [Al, Sk]
      intros
      replace H := hG55 _ H
      try dsimp only at H
      revert H
      refine ct rfl (fun hb66 H => ?_) (fun hb66 H => ?_)
      ·refine sr fun K67 hK67 => ag (HL_nil (hK67 _ _ ?_))
       dsimp only [putL, setL, evL, getL]
       refine HT_ret ?_
       exact hQr _ _ [.int .i64 2] _ ⟨rfl, trivial⟩ H ⟨rfl, hH⟩
      ·refine HT_skip (hK35 _ _ (sr fun K68 hK68 => (ag (HL_nil (hK68 _ _ ?_)))))
       dsimp only [putL, setL, evL, getL]
       refine HT_ret ?_
       exact hQr _ _ [.int .i64 (-1)] _ ⟨rfl, trivial⟩ H ⟨rfl, hH⟩
def slices_Clone_int_int.f (p0 : List (Int)) : Option (List (Int)) := app? 17592186044416 [] p0
def slices_Clone_int_int.post (sb s : St) (F0 : Fp) (r : List (Int)) : Value → St → Prop := fun v s' => ∃ (A0 : Option Addr) (c0 : Nat), v = .slice A0 r.length c0 ∧ Hp sb s F0 s' [Ck.ol OI 3 A0 c0 r]
set_option maxRecDepth 100000 in
set_option maxHeartbeats 4000000 in
theorem slices_Clone_int_int.ok (sb s : St) (F0 : Fp) (A0p : Option Addr) (c0p : Nat) (p0 : List (Int)) (HRp0 : Rd KI sb A0p c0p p0) (hH : Hp sb s F0 s []) (r : List (Int)) (H : slices_Clone_int_int.f p0 = some r) : GCall Try.prog 141 #[.slice A0p p0.length c0p] s (slices_Clone_int_int.post sb s F0 r) := by
 refine GCall_ofk [.tmp 2] [.slice A0p p0.length c0p, undef, undef, undef, undef, undef, undef, undef] Try.func141 rfl rfl rfl ?_
 intro w Q hQr hQn hQp
 unfold slices_Clone_int_int.f at H
 refine HT_seq_k ?_
 intro K1 hK1
 refine HT_region ?_
 refine HL_cons rfl ?_
 refine o_assign ?_
 refine HL_nil ?_
 refine hK1 _ _ ?_
 refine HT_seq_k ?_
 intro K2 hK2
 refine HT_seq_k ?_
 intro K3 hK3
 refine HT_region ?_
 refine HL_cons rfl ?_
 refine o_move ?_
 dsimp only [putL, setL, evL, getL]
 refine HL_cons rfl ?_
 refine o_eqN rfl rfl Try.underlying24 ?_
 dsimp only [putL, setL, evL, getL]
 refine HL_nil ?_
 refine hK3 _ _ ?_
 cases A0p with
 | none =>
  have hp : p0 = [] := by
   by_cases h : p0 = []
   ·exact h
   ·obtain ⟨b, o, hA, _⟩ := HRp0.2.2 h
    cases hA
  subst hp
  obtain ⟨_, rfl⟩ := app?_some H
  refine HT_true rfl ?_
  refine HT_seq_k ?_
  intro K4 hK4
  refine HT_region ?_
  refine HL_cons rfl ?_
  refine o_assign ?_
  dsimp only [putL, setL, evL, getL]
  refine HL_nil ?_
  refine hK4 _ _ ?_
  refine HT_ret ?_
  exact hQr _ _ [.slice none 0 0] ⟨rfl, trivial⟩ ⟨none, 0, rfl, hH.nil (K := KI) OI 3⟩
 | some a =>
  refine HT_false rfl ?_
  refine HT_skip ?_
  refine hK2 _ _ ?_
  refine HT_seq_k ?_
  intro K4 hK4
  refine HT_region ?_
  refine HL_cons rfl ?_
  refine o_lit0H (α := Int) (K := KI) (O := OI) hH Try.underlying24 tI3 ?_
  intro A1 s1 hH hG
  dsimp only [putL, setL, evL, getL]
  refine HL_cons rfl ?_
  refine o_move ?_
  dsimp only [putL, setL, evL, getL]
  refine HL_cons rfl ?_
  refine o_appF (n := 17592186044416) (A := A1) (c := 0) (xs := ([] : List (Int))) (ys := p0) (B := some a) (c2 := c0p) hH 0 rfl rfl rfl rfl Try.underlying24 tI3 rfl (by decide) (by decide) (by decide) (Src.flat (HRp0.mono hH.bs.mono)) H ?_
  intro A2 c2 s2 hH
  dsimp only [putL, setL, evL, getL]
  refine HL_cons rfl ?_
  refine o_assign ?_
  dsimp only [putL, setL, evL, getL]
  refine HL_nil ?_
  refine hK4 _ _ ?_
  refine HT_ret ?_
  exact hQr _ _ [.slice A2 r.length c2] ⟨rfl, trivial⟩ ⟨A2, c2, rfl, hH⟩
def impl_parts.l1 (p0 : List ((Int) × (List (Int)))) : Nat → (List (List (Int))) → (List (Int)) → Int → Option (Lo ((List (List (Int))) × (List (Int))) ((List (List (Int))) × Bool))
 | 0, _, _, _ => none
 | kf + 1, x301, x302, x303 => if (decide (x303 < (p0.length : Int))) = true then ((rd? p0 x303).bind fun u418 => (impl_partsOf.f u418.1).bind fun u423 => (if (decide (u423 < 0)) = true then (some true) else (some (decide (u423 > (x302.length : Int))))).bind fun (o : Bool) => match o with | x435 => (if x435 = true then ((some ([], false)).bind fun z => some (Lo.ret z)) else ((cut? x302 (IntKind.i64.wrap ((x302.length : Int) - u423)) (x302.length : Int)).bind fun x441 => (slices_Clone_int_int.f x441).bind fun u442 => (app? 5864062014805 x301 [u442]).bind fun x445 => (cut? x302 0 (IntKind.i64.wrap ((x302.length : Int) - u423))).bind fun x446 => (app? 17592186044416 x446 [x303]).bind fun x449 => impl_parts.l1 p0 kf x445 x449 (IntKind.i64.wrap (x303 + 1))))) else (some (Lo.go (x301, x302)))
def impl_parts.f (p0 : List ((Int) × (List (Int)))) : Option ((List (List (Int))) × Bool) := (impl_parts.l1 p0 ((((p0.length : Int)) - (0)).toNat + 2) ([] : List (List (Int))) ([] : List (Int)) 0).bind fun (o : Lo ((List (List (Int))) × (List (Int))) ((List (List (Int))) × Bool)) => match o with | .go (x228, x229) => (some (x228, ((x229.length : Int) == 1))) | .ret z => some z
def impl_parts.post (sb s : St) (F0 : Fp) (r : (List (List (Int))) × Bool) : Value → St → Prop := fun v s' => ∃ (A0 : Option Addr) (c0 : Nat), v = .tuple #[.slice A0 r.1.length c0, .bool r.2] ∧ Hp sb s F0 s' [Ck.ol (Ow.sl OI 3) 24 A0 c0 r.1]
set_option maxRecDepth 100000 in
set_option maxHeartbeats 4000000 in
theorem impl_parts.ok (sb s : St) (F0 : Fp) (A0p : Option Addr) (c0p : Nat) (p0 : List ((Int) × (List (Int)))) (HRp0 : Rd KS139 sb A0p c0p p0) (hH : Hp sb s F0 s []) (r : (List (List (Int))) × Bool) (H : impl_parts.f p0 = some r) : GCall Try.prog 155 #[.slice A0p p0.length c0p] s (impl_parts.post sb s F0 r) := by
 refine GCall_ofr (impl_parts.post sb s F0) [.tmp 2, .tmp 3] (ud [.slice A0p p0.length c0p] 52) Try.func155 rfl rfl rfl fun w Q hQr hQn hQp => ?_
 replace H := topE H
 unfold impl_parts.f at H
 dsimp only [ud, un]
 refine sr fun K1 hK1 => ag (ag (HL_nil (hK1 _ _ ?_)))
 dsimp only [putL, setL, evL, getL]
 refine sr fun K2 hK2 => hc (o_lit0H (α := List (Int)) (K := (Kd.sl KI)) (O := (Ow.sl OI 3)) hH Try.underlying105 tI24 ?_)
 clear hH
 intro A3 s3 hH _
 refine hc (o_lit0H (α := Int) (K := KI) (O := OI) hH Try.underlying24 tI3 ?_)
 clear hH
 intro A4 s4 hH _
 refine ag ?_
 dsimp only [putL, setL, evL, getL]
 refine ag (HL_nil (hK2 _ _ ?_))
 dsimp only [putL, setL, evL, getL]
 refine HT_seq_k fun K5 hK5 => sr fun K6 hK6 => mv (hc (o_len rfl Try.underlying57 (mv (HL_nil (hK6 _ _ ?_)))))
 dsimp only [putL, setL, evL, getL]
 refine joinH H fun G7 hG7 H => ?_
 refine HT_toK (fun l' s' => ∃ (x228 : List (List (Int))) (A228 : Option Addr) (c228 : Nat) (x229 : List (Int)) (A229 : Option Addr) (c229 : Nat), G7 (.go (x228, x229)) = some r ∧ skim [4, 0] l' = ([.slice A228 x228.length c228, .slice A229 x229.length c229], 48) ∧ Hp sb s F0 s' [Ck.ol (Ow.sl OI 3) 24 A228 c228 x228, Ck.ol OI 3 A229 c229 x229]) ?_ ?_
 ·intro K7 hK7
  refine HT_block ?_
  refine HT_loopK (fun kf l' s' => ∃ (x301 : List (List (Int))) (A301 : Option Addr) (c301 : Nat) (x302 : List (Int)) (A302 : Option Addr) (c302 : Nat) (x303 : Int), (impl_parts.l1 p0 kf x301 x302 x303).bind G7 = some r ∧ skim [4, 0, 5, 0, 0] l' = ([.slice A301 x301.length c301, .slice A302 x302.length c302, .slice A0p p0.length c0p, .int .i64 (p0.length : Int), .int .i64 x303], 40) ∧ Hp sb s F0 s' [Ck.ol (Ow.sl OI 3) 24 A301 c301 x301, Ck.ol OI 3 A302 c302 x302]) ((((p0.length : Int)) - (0)).toNat + 2) ⟨([] : List (List (Int))), A3, 0, ([] : List (Int)), A4, 0, 0, H, rfl, hH⟩ ?_
  rintro kf l' s378 ⟨x301, A301, c301, x302, A302, c302, x303, H, hl, hH⟩ K378 hK378
  revert l'
  refine skA ?_
  dsimp only [Al, Sk]
  intros
  cases kf with
  | zero => simp [impl_parts.l1] at H
  | succ kf =>
   rw [impl_parts.l1] at H
   refine sr fun K379 hK379 => bn rfl rfl rfl (HL_nil (hK379 _ _ ?_))
   dsimp only [putL, setL, evL, getL]
   refine HT_seq_k fun K380 hK380 => ?_
   revert H
   refine ct rfl (fun hb381 H => ?_) (fun hb381 H => ?_)
   ·refine HT_skip (hK380 _ _ (HT_seq_k fun K416 hK416 => (HT_block (sr fun K417 hK417 => (mv ?_)))))
    replace H := headE H
    obtain ⟨u418, hu418, H⟩ := H
    obtain ⟨b418, o418, cs418, hr418, hh418, hel418⟩ := Rd.elb HRp0 hu418
    obtain ⟨_, _, rfl, rfl, ⟨A419, c419, rfl, D419⟩⟩ := hr418
    refine hc (hel418 s378 rfl rfl Try.underlying57 tI139 (hc (o_loads' [.int .i64 u418.1, .slice A419 u418.2.length c419] rfl Try.underlying139 rfl tI139 rfl (fun j v hj => (hh418 hH.bs.mono) j v hj) ?_)))
    dsimp only [putL, setL, evL, getL]
    refine hc (o_allocH hH tI139 ?_)
    clear hH
    intro b420 s420 hH _
    refine ag (hc (o_stvH (vs := [.int .i64 u418.1, .slice A419 u418.2.length c419]) (us' := [.int .i64 u418.1, .slice A419 u418.2.length c419]) hH 2 rfl rfl rfl rfl rfl tI139 rfl (List.cons_ne_nil _ _) rfl rfl rfl ?_))
    clear hH
    intro s421 hH
    refine HL_nil (hK417 _ _ ?_)
    try dsimp only [putL, setL, evL, getL]
    refine sr fun K422 hK422 => hc (o_faddr' (ft := 3) (off := 0) rfl Try.underlying139 rfl tI3 (by decide) (hc (o_load' rfl Try.underlying3 rfl (hH.hasv 2 rfl rfl) ?_)))
    replace H := headE H
    obtain ⟨u423, hu423, H⟩ := H
    refine hc (o_call (args := #[.int .i64 u418.1]) Try.func203 rfl rfl rfl (impl_partsOf.ok sb s421 no u418.1 (Hp.own hH.bs) _ hu423) ?_)
    rintro _ s423 ⟨rfl, hD⟩
    replace hH := hH.back0 hD (Up.refl _ _ _)
    clear hD
    try dsimp only [putL, setL, evL, getL]
    refine ag (HL_nil (hK422 _ _ ?_))
    dsimp only [putL, setL, evL, getL]
    refine HT_seq_k fun K432 hK432 => ?_
    refine joinH H fun G433 hG433 H => ?_
    refine HT_joinK (fun l' s' => ∃ (x435 : Bool), G433 x435 = some r ∧ skim [4, 0, 0, 1, 2, 0, 0, 14] l' = ([.slice A301 x301.length c301, .slice A302 x302.length c302, .int .i64 x303, .int .i64 u423, .slice A0p p0.length c0p, .int .i64 (p0.length : Int), .int .i64 x303, .bool x435], 25) ∧ Hp sb s F0 s' [Ck.ol (Ow.sl OI 3) 24 A301 c301 x301, Ck.ol OI 3 A302 c302 x302]) ?_ ?_
    ·intro K433 hK433
     refine HT_region ?_
     refine mv (bn rfl rfl rfl (mv ?_))
     revert H
     refine it (fun hb436 H => ?_) (fun hb436 H => ?_)
     ·refine wf rfl rfl rfl rfl hb436 ?_
      dsimp only [putL, setL, evL, getL]
      refine wf rfl rfl rfl rfl hb436 (wf rfl rfl rfl rfl hb436 (wf rfl rfl rfl rfl hb436 ?_))
      dsimp only [putL, setL, evL, getL]
      refine hc (o_pickT rfl hb436 (HL_nil ?_))
      exact hK433 _ _ ⟨true, H, rfl, hH.sel [0, 1] (by decide)⟩
     ·refine wt rfl rfl rfl rfl hb436 (o_move (wt rfl rfl rfl rfl hb436 (o_move ?_)))
      dsimp only [putL, setL, evL, getL]
      refine wt rfl rfl rfl rfl hb436 (o_len rfl Try.underlying24 (wt rfl rfl rfl rfl hb436 (o_bin rfl rfl rfl (hc (o_pickF rfl hb436 (HL_nil ?_))))))
      exact hK433 _ _ ⟨decide (u423 > (x302.length : Int)), H, rfl, hH.sel [0, 1] (by decide)⟩
    ·rintro l' s437 ⟨x435, H, hl, hH⟩
     revert l'
     refine skA ?_
     dsimp only [Al, Sk]
     intros
     replace H := hG433 _ H
     try dsimp only at H
     revert H
     refine ct rfl (fun hb438 H => ?_) (fun hb438 H => ?_)
     ·refine sr fun K439 hK439 => ?_
      try dsimp only [putL, setL, evL, getL]
      refine ag (ag (HL_nil (hK439 _ _ ?_)))
      dsimp only [putL, setL, evL, getL]
      refine HT_ret ?_
      replace H := escH (fun z hz => hG7 _ hz) H
      exact hQr _ _ [.slice none 0 0, .bool false] _ ⟨rfl, rfl, trivial⟩ H ⟨none, 0, rfl, (hH.nil (K := (Kd.sl KI)) (Ow.sl OI 3) 24).sel [2] (by decide)⟩
     ·refine HT_skip (hK432 _ _ (sr fun K440 hK440 => (mv (mv (mv ?_)))))
      dsimp only [putL, setL, evL, getL]
      refine hc (o_len rfl Try.underlying24 (mv (bn rfl rfl rfl ?_)))
      replace H := headE H
      obtain ⟨x441, hx441, H⟩ := H
      try dsimp only [putL, setL, evL, getL]
      refine hc (o_cutA (xs := x302) (kl := .i64) (kh := .i64) (L := IntKind.i64.wrap ((x302.length : Int) - u423)) (H := (x302.length : Int)) rfl rfl rfl Try.underlying24 tI3 (hH.rd 1 rfl).1 hx441 ?_)
      have D441 := @Der.cut _ _ OI 3 A302 c302 _ _ _ _ hx441
      replace H := headE H
      obtain ⟨u442, hu442, H⟩ := H
      refine hc (o_call (args := #[.slice (cutA A302 c302 (Int.toNat (IntKind.i64.wrap ((x302.length : Int) - u423))) (Kd.sz KI)) x441.length (c302 - Int.toNat (IntKind.i64.wrap ((x302.length : Int) - u423)))]) Try.func141 rfl rfl rfl (slices_Clone_int_int.ok s437 s437 no (cutA A302 c302 (Int.toNat (IntKind.i64.wrap ((x302.length : Int) - u423))) (Kd.sz KI)) (c302 - Int.toNat (IntKind.i64.wrap ((x302.length : Int) - u423))) x441 (D441 _ _ hH.bs (hH.ckP 1)) (Hp.own (Bs.refl s437)) _ hu442) ?_)
      rintro _ s442 ⟨A443, c443, rfl, hD⟩
      replace hH := hH.back0T hD
      clear hD
      replace hH := hH.conv [2] (by decide) (d := Ck.el (Ow.sl OI 3) [.slice A443 u442.length c443] u442) Ent.sl
      refine hc (o_litD (K := (Kd.sl KI)) (O := (Ow.sl OI 3)) (ca := #[.slice A443 u442.length c443]) [[.slice A443 u442.length c443]] [u442] hH [3] (by decide) rfl Try.underlying105 tI24 rfl (by decide) rfl rfl rfl rfl (by kernel_rfl) rfl ?_)
      clear hH
      intro A444 s444 hH _
      replace H := headE H
      obtain ⟨x445, hx445, H⟩ := H
      try dsimp only [putL, setL, evL, getL]
      refine hc (o_appD (K := (Kd.sl KI)) (n := 5864062014805) (A := A301) (c := c301) (xs := x301) (ys := [u442]) (B := A444) (c2 := 1) hH 0 4 (by decide) rfl rfl rfl rfl rfl Try.underlying105 tI24 rfl (by decide) (by decide) (by decide) hx445 ?_)
      clear hH
      intro A445 c445 s445 hH
      refine ag (HL_nil (hK440 _ _ ?_))
      dsimp only [putL, setL, evL, getL]
      refine HT_region ?_
      refine mv (mv (hc (o_len rfl Try.underlying24 ?_)))
      dsimp only [putL, setL, evL, getL]
      refine mv (bn rfl rfl rfl ?_)
      replace H := headE H
      obtain ⟨x446, hx446, H⟩ := H
      refine hc (o_cutA (xs := x302) (kl := .i64) (kh := .i64) (L := 0) (H := IntKind.i64.wrap ((x302.length : Int) - u423)) rfl rfl rfl Try.underlying24 tI3 (hH.rd 1 rfl).1 hx446 ?_)
      have D446 := @Der.cut _ _ OI 3 A302 c302 _ _ _ _ hx446
      try dsimp only [putL, setL, evL, getL]
      refine mv (hc (o_litF (K := KI) (O := OI) (ca := #[.int .i64 x303]) [[.int .i64 x303]] [x303] hH Try.underlying24 tI3 rfl (by decide) rfl rfl (by kernel_rfl) rfl ⟨rfl, Ent.own (Ent.flat rfl), trivial⟩ ?_))
      clear hH
      intro A447 s447 hH _
      replace hH := hH.cut 1 rfl rfl hx446
      replace H := headE H
      obtain ⟨x449, hx449, H⟩ := H
      refine hc (o_appF (K := KI) (n := 17592186044416) (A := (cutA A302 c302 (Int.toNat 0) (Kd.sz KI))) (c := c302 - Int.toNat 0) (xs := x446) (ys := [x303]) (B := A447) (c2 := 1) hH 1 rfl rfl rfl rfl Try.underlying24 tI3 rfl (by decide) (by decide) (by decide) (Src.flat (hH.rd 5 rfl)) hx449 ?_)
      clear hH
      intro A449 c449 s449 hH
      try dsimp only [putL, setL, evL, getL]
      refine ag (HL_nil (hK416 _ _ ?_))
      dsimp only [putL, setL, evL, getL]
      refine HT_region ?_
      refine bn rfl rfl rfl (mv (HL_nil ?_))
      exact hK378 _ _ ⟨kf, Nat.lt_succ_self kf, x445, A445, c445, x449, A449, c449, IntKind.i64.wrap (x303 + 1), H, rfl, hH.sel [0, 1] (by decide)⟩
   ·refine HT_exit ?_
    exact hK7 _ _ ⟨x301, A301, c301, x302, A302, c302, H, rfl, hH⟩
 ·rintro l' s450 ⟨x228, A228, c228, x229, A229, c229, H, hl, hH⟩
  revert l'
  refine skA ?_
  dsimp only [Al, Sk]
  intros
  replace H := hG7 _ H
  try dsimp only at H
  refine hK5 _ _ ?_
  refine sr fun K451 hK451 => mv ?_
  dsimp only [putL, setL, evL, getL]
  refine mv (hc (o_len rfl Try.underlying24 (bn rfl rfl rfl ?_)))
  dsimp only [putL, setL, evL, getL]
  refine ag (ag (HL_nil (hK451 _ _ ?_)))
  dsimp only [putL, setL, evL, getL]
  refine HT_ret ?_
  exact hQr _ _ [.slice A228 x228.length c228, .bool ((x229.length : Int) == 1)] _ ⟨rfl, rfl, trivial⟩ H ⟨A228, c228, rfl, hH.sel [0] (by decide)⟩
def impl_GoodRe.f (p0 : List ((Int) × (List (Int)))) : Option Bool := ((impl_inRange.f (p0.length : Int) 1 40).bind fun u20 => if (!u20) = true then (some true) else ((slices_ContainsFunc_impl_Re_impl_Re_impl_GoodRe_1.f p0).bind fun u22 => some u22)).bind fun (o : Bool) => match o with | x19 => (if x19 = true then (some false) else ((impl_parts.f p0).bind fun u27 => some u27.2))
def impl_GoodRe.post (sb s : St) (F0 : Fp) (r : Bool) : Value → St → Prop := fun v s' => v = .bool r ∧ Hp sb s F0 s' []
set_option maxRecDepth 100000 in
set_option maxHeartbeats 4000000 in
theorem impl_GoodRe.ok (sb s : St) (F0 : Fp) (A0p : Option Addr) (c0p : Nat) (p0 : List ((Int) × (List (Int)))) (HRp0 : Rd KS139 sb A0p c0p p0) (hH : Hp sb s F0 s []) (r : Bool) (H : impl_GoodRe.f p0 = some r) : GCall Try.prog 131 #[.slice A0p p0.length c0p] s (impl_GoodRe.post sb s F0 r) := by
 refine GCall_ofr (impl_GoodRe.post sb s F0) [.tmp 2] (ud [.slice A0p p0.length c0p] 18) Try.func131 rfl rfl rfl fun w Q hQr hQn hQp => ?_
 replace H := topE H
 unfold impl_GoodRe.f at H
 dsimp only [ud, un]
 refine sr fun K1 hK1 => ag (HL_nil (hK1 _ _ ?_))
 dsimp only [putL, setL, evL, getL]
 refine HT_seq_k fun K14 hK14 => ?_
 refine joinH H fun G15 hG15 H => ?_
 refine HT_joinK (fun l' s' => ∃ (x19 : Bool), G15 x19 = some r ∧ skim [0, 11] l' = ([.slice A0p p0.length c0p, .bool x19], 7) ∧ Hp sb s F0 s' []) ?_ ?_
 ·intro K15 hK15
  refine HT_region ?_
  refine mv (hc (o_len rfl Try.underlying57 ?_))
  replace H := headE H
  obtain ⟨u20, hu20, H⟩ := H
  refine hc (o_call (args := #[.int .i64 (p0.length : Int), .int .i64 1, .int .i64 40]) Try.func105 rfl rfl rfl (impl_inRange.ok sb s no (p0.length : Int) 1 40 (Hp.own hH.bs) _ hu20) ?_)
  rintro _ s20 ⟨rfl, hD⟩
  replace hH := hH.back0 hD (Up.refl _ _ _)
  clear hD
  try dsimp only [putL, setL, evL, getL]
  refine hc (o_not rfl (mv ?_))
  revert H
  refine it (fun hb21 H => ?_) (fun hb21 H => ?_)
  ·refine wf rfl rfl rfl rfl hb21 ?_
   dsimp only [putL, setL, evL, getL]
   refine wf rfl rfl rfl rfl hb21 (hc (o_pickT rfl hb21 (HL_nil ?_)))
   exact hK15 _ _ ⟨true, H, rfl, hH⟩
  ·refine wt rfl rfl rfl rfl hb21 (o_move ?_)
   replace H := headE H
   obtain ⟨u22, hu22, H⟩ := H
   try dsimp only [putL, setL, evL, getL]
   refine wt rfl rfl rfl rfl hb21 (o_call (args := #[.slice A0p p0.length c0p, .func (.func 191) #[] #[]]) Try.func190 rfl rfl rfl (slices_ContainsFunc_impl_Re_impl_Re_impl_GoodRe_1.ok sb s20 no A0p c0p p0 HRp0 (Hp.own hH.bs) _ hu22) ?_)
   rintro _ s22 ⟨rfl, hD⟩
   replace hH := hH.back0 hD (Up.refl _ _ _)
   clear hD
   refine hc (o_pickF rfl hb21 (HL_nil ?_))
   exact hK15 _ _ ⟨u22, H, rfl, hH⟩
 ·rintro l' s23 ⟨x19, H, hl, hH⟩
  revert l'
  refine skA ?_
  dsimp only [Al, Sk]
  intros
  replace H := hG15 _ H
  try dsimp only at H
  revert H
  refine ct rfl (fun hb24 H => ?_) (fun hb24 H => ?_)
  ·refine sr fun K25 hK25 => ag (HL_nil (hK25 _ _ ?_))
   dsimp only [putL, setL, evL, getL]
   refine HT_ret ?_
   exact hQr _ _ [.bool false] _ ⟨rfl, trivial⟩ H ⟨rfl, hH⟩
  ·refine HT_skip (hK14 _ _ (sr fun K26 hK26 => (mv ?_)))
   replace H := headE H
   obtain ⟨u27, hu27, H⟩ := H
   refine hc (o_call (args := #[.slice A0p p0.length c0p]) Try.func155 rfl rfl rfl (impl_parts.ok sb s23 no A0p c0p p0 HRp0 (Hp.own hH.bs) _ hu27) ?_)
   rintro _ s27 ⟨A28, c28, rfl, hD⟩
   replace hH := hH.back0 hD (Up.refl _ _ _)
   clear hD
   refine mv ?_
   dsimp only [putL, setL, evL, getL]
   refine hc (o_extract rfl rfl (hc (o_extract rfl rfl (ag ?_))))
   dsimp only [putL, setL, evL, getL]
   refine ag (HL_nil (hK26 _ _ ?_))
   dsimp only [putL, setL, evL, getL]
   refine sr fun K29 hK29 => mv (ag (HL_nil (hK29 _ _ ?_)))
   dsimp only [putL, setL, evL, getL]
   refine HT_ret ?_
   exact hQr _ _ [.bool u27.2] _ ⟨rfl, trivial⟩ H ⟨rfl, hH.sel [] (by decide)⟩
def impl_isPlain_1.f (p0_0 : Int) (p0_1 : List (Int)) : Option Bool := if (p0_0 == 5) = true then (some true) else (some (p0_0 == 7))
def impl_isPlain_1.post (sb s : St) (F0 : Fp) (r : Bool) : Value → St → Prop := fun v s' => v = .bool r ∧ Hp sb s F0 s' []
set_option maxRecDepth 100000 in
set_option maxHeartbeats 4000000 in
theorem impl_isPlain_1.ok (sb s : St) (F0 : Fp) (p0_0 : Int) (A0_1p : Option Addr) (c0_1p : Nat) (p0_1 : List (Int)) (HRp0_1 : Rd KI sb A0_1p c0_1p p0_1) (hH : Hp sb s F0 s []) (r : Bool) (H : impl_isPlain_1.f p0_0 p0_1 = some r) : GCall Try.prog 194 #[.agg #[.int .i64 p0_0, .slice A0_1p p0_1.length c0_1p]] s (impl_isPlain_1.post sb s F0 r) := by
 refine GCall_ofr (impl_isPlain_1.post sb s F0) [.tmp 2] (ud [.agg #[.int .i64 p0_0, .slice A0_1p p0_1.length c0_1p]] 10) Try.func194 rfl rfl rfl fun w Q hQr hQn hQp => ?_
 replace H := topE H
 unfold impl_isPlain_1.f at H
 dsimp only [ud, un]
 refine sr fun K1 hK1 => hc (o_boxH hH rfl ?_)
 clear hH
 intro b2 s2 hH _
 refine ag (HL_nil (hK1 _ _ ?_))
 dsimp only [putL, setL, evL, getL]
 refine sr fun K3 hK3 => hc (o_faddr' (ft := 3) (off := 0) rfl Try.underlying139 rfl tI3 (by decide) (hc (o_load' rfl Try.underlying3 rfl (hH.hasv 0 rfl rfl) (bn rfl rfl rfl ?_))))
 dsimp only [putL, setL, evL, getL]
 refine mv ?_
 revert H
 refine it (fun hb4 H => ?_) (fun hb4 H => ?_)
 ·refine wf rfl rfl rfl rfl hb4 (wf rfl rfl rfl rfl hb4 ?_)
  dsimp only [putL, setL, evL, getL]
  refine wf rfl rfl rfl rfl hb4 (hc (o_pickT rfl hb4 (ag (HL_nil (hK3 _ _ ?_)))))
  dsimp only [putL, setL, evL, getL]
  refine HT_ret ?_
  exact hQr _ _ [.bool true] _ ⟨rfl, trivial⟩ H ⟨rfl, hH.sel [] (by decide)⟩
 ·refine wt rfl rfl rfl rfl hb4 (o_faddr' (ft := 3) (off := 0) rfl Try.underlying139 rfl tI3 (by decide) (wt rfl rfl rfl rfl hb4 (o_load' rfl Try.underlying3 rfl (hH.hasv 0 rfl rfl) (wt rfl rfl rfl rfl hb4 (o_bin rfl rfl rfl ?_)))))
  dsimp only [putL, setL, evL, getL]
  refine hc (o_pickF rfl hb4 (ag (HL_nil (hK3 _ _ ?_))))
  dsimp only [putL, setL, evL, getL]
  refine HT_ret ?_
  exact hQr _ _ [.bool (p0_0 == 7)] _ ⟨rfl, trivial⟩ H ⟨rfl, hH.sel [] (by decide)⟩
def slices_IndexFunc_impl_Re_impl_Re_impl_isPlain_1.l1 (p0 : List ((Int) × (List (Int)))) : Nat → Int → Option (Lo Unit Int)
 | 0, _ => none
 | kf + 1, x52 => if (decide (x52 < (p0.length : Int))) = true then ((rd? p0 x52).bind fun u72 => (impl_isPlain_1.f u72.1 u72.2).bind fun u74 => if u74 = true then ((some x52).bind fun z => some (Lo.ret z)) else (slices_IndexFunc_impl_Re_impl_Re_impl_isPlain_1.l1 p0 kf (IntKind.i64.wrap (x52 + 1)))) else (some (Lo.go ()))
def slices_IndexFunc_impl_Re_impl_Re_impl_isPlain_1.f (p0 : List ((Int) × (List (Int)))) : Option Int := (slices_IndexFunc_impl_Re_impl_Re_impl_isPlain_1.l1 p0 ((((p0.length : Int)) - (0)).toNat + 2) 0).bind fun (o : Lo Unit Int) => match o with | .go () => (some (-1)) | .ret z => some z
def slices_IndexFunc_impl_Re_impl_Re_impl_isPlain_1.post (sb s : St) (F0 : Fp) (r : Int) : Value → St → Prop := fun v s' => v = .int .i64 r ∧ Hp sb s F0 s' []
set_option maxRecDepth 100000 in
set_option maxHeartbeats 4000000 in
theorem slices_IndexFunc_impl_Re_impl_Re_impl_isPlain_1.ok (sb s : St) (F0 : Fp) (A0p : Option Addr) (c0p : Nat) (p0 : List ((Int) × (List (Int)))) (HRp0 : Rd KS139 sb A0p c0p p0) (hH : Hp sb s F0 s []) (r : Int) (H : slices_IndexFunc_impl_Re_impl_Re_impl_isPlain_1.f p0 = some r) : GCall Try.prog 221 #[.slice A0p p0.length c0p, .func (.func 194) #[] #[]] s (slices_IndexFunc_impl_Re_impl_Re_impl_isPlain_1.post sb s F0 r) := by
 refine GCall_ofr (slices_IndexFunc_impl_Re_impl_Re_impl_isPlain_1.post sb s F0) [.tmp 4] (ud [.slice A0p p0.length c0p, .func (.func 194) #[] #[]] 17) Try.func221 rfl rfl rfl fun w Q hQr hQn hQp => ?_
 replace H := topE H
 unfold slices_IndexFunc_impl_Re_impl_Re_impl_isPlain_1.f at H
 dsimp only [ud, un]
 refine sr fun K1 hK1 => ag (HL_nil (hK1 _ _ ?_))
 dsimp only [putL, setL, evL, getL]
 refine HT_seq_k fun K2 hK2 => sr fun K3 hK3 => mv (hc (o_len rfl Try.underlying57 (mv (HL_nil (hK3 _ _ ?_)))))
 dsimp only [putL, setL, evL, getL]
 refine joinH H fun G4 hG4 H => ?_
 refine HT_toK (fun l' s' => G4 (.go ()) = some r ∧ skim [] l' = ([], 20) ∧ Hp sb s F0 s' []) ?_ ?_
 ·intro K4 hK4
  refine HT_block ?_
  refine HT_loopK (fun kf l' s' => ∃ (x52 : Int), (slices_IndexFunc_impl_Re_impl_Re_impl_isPlain_1.l1 p0 kf x52).bind G4 = some r ∧ skim [0, 0, 5, 0] l' = ([.slice A0p p0.length c0p, .func (.func 194) #[] #[], .int .i64 (p0.length : Int), .int .i64 x52], 11) ∧ Hp sb s F0 s' []) ((((p0.length : Int)) - (0)).toNat + 2) ⟨0, H, rfl, hH⟩ ?_
  rintro kf l' s65 ⟨x52, H, hl, hH⟩ K65 hK65
  revert l'
  refine skA ?_
  dsimp only [Al, Sk]
  intros
  cases kf with
  | zero => simp [slices_IndexFunc_impl_Re_impl_Re_impl_isPlain_1.l1] at H
  | succ kf =>
   rw [slices_IndexFunc_impl_Re_impl_Re_impl_isPlain_1.l1] at H
   refine sr fun K66 hK66 => bn rfl rfl rfl (HL_nil (hK66 _ _ ?_))
   dsimp only [putL, setL, evL, getL]
   refine HT_seq_k fun K67 hK67 => ?_
   revert H
   refine ct rfl (fun hb68 H => ?_) (fun hb68 H => ?_)
   ·refine HT_skip (hK67 _ _ (HT_seq_k fun K69 hK69 => (HT_block (sr fun K70 hK70 => (mv (ag (HL_nil (hK70 _ _ ?_))))))))
    dsimp only [putL, setL, evL, getL]
    refine sr fun K71 hK71 => mv (mv (mv ?_))
    replace H := headE H
    obtain ⟨u72, hu72, H⟩ := H
    obtain ⟨b72, o72, cs72, hr72, hh72, hel72⟩ := Rd.elb HRp0 hu72
    obtain ⟨_, _, rfl, rfl, ⟨A73, c73, rfl, D73⟩⟩ := hr72
    try dsimp only [putL, setL, evL, getL]
    refine hc (hel72 s65 rfl rfl Try.underlying57 tI139 (hc (o_loads' [.int .i64 u72.1, .slice A73 u72.2.length c73] rfl Try.underlying139 rfl tI139 rfl (fun j v hj => (hh72 hH.bs.mono) j v hj) ?_)))
    replace H := headE H
    obtain ⟨u74, hu74, H⟩ := H
    refine hc (o_callv (first := #[]) (cap := #[]) (args := #[.agg #[.int .i64 u72.1, .slice A73 u72.2.length c73]]) rfl Try.func194 rfl rfl [.agg #[.int .i64 u72.1, .slice A73 u72.2.length c73]] rfl (by simp) (impl_isPlain_1.ok sb s65 no u72.1 A73 c73 u72.2 D73 (Hp.own hH.bs) _ hu74) ?_)
    rintro _ s74 ⟨rfl, hD⟩
    replace hH := hH.back0 hD (Up.refl _ _ _)
    clear hD
    refine HL_nil (hK71 _ _ ?_)
    try dsimp only [putL, setL, evL, getL]
    revert H
    refine ct rfl (fun hb75 H => ?_) (fun hb75 H => ?_)
    ·refine sr fun K76 hK76 => mv (ag (HL_nil (hK76 _ _ ?_)))
     dsimp only [putL, setL, evL, getL]
     refine HT_ret ?_
     replace H := escH (fun z hz => hG4 _ hz) H
     exact hQr _ _ [.int .i64 x52] _ ⟨rfl, trivial⟩ H ⟨rfl, hH⟩
    ·refine HT_skip (hK69 _ _ ?_)
     refine HT_region ?_
     refine bn rfl rfl rfl (mv (HL_nil ?_))
     exact hK65 _ _ ⟨kf, Nat.lt_succ_self kf, IntKind.i64.wrap (x52 + 1), H, rfl, hH⟩
   ·refine HT_exit ?_
    exact hK4 _ _ ⟨H, rfl, hH⟩
 ·rintro l' s77 ⟨H, hl, hH⟩
  revert l'
  refine skA ?_
  dsimp only [Al, Sk]
  intros
  replace H := hG4 _ H
  try dsimp only at H
  refine hK2 _ _ ?_
  refine sr fun K78 hK78 => ag (HL_nil (hK78 _ _ ?_))
  dsimp only [putL, setL, evL, getL]
  refine HT_ret ?_
  exact hQr _ _ [.int .i64 (-1)] _ ⟨rfl, trivial⟩ H ⟨rfl, hH⟩
def slices_ContainsFunc_impl_Re_impl_Re_impl_isPlain_1.f (p0 : List ((Int) × (List (Int)))) : Option Bool := (slices_IndexFunc_impl_Re_impl_Re_impl_isPlain_1.f p0).bind fun u3 => some (decide (u3 ≥ 0))
def slices_ContainsFunc_impl_Re_impl_Re_impl_isPlain_1.post (sb s : St) (F0 : Fp) (r : Bool) : Value → St → Prop := fun v s' => v = .bool r ∧ Hp sb s F0 s' []
set_option maxRecDepth 100000 in
set_option maxHeartbeats 4000000 in
theorem slices_ContainsFunc_impl_Re_impl_Re_impl_isPlain_1.ok (sb s : St) (F0 : Fp) (A0p : Option Addr) (c0p : Nat) (p0 : List ((Int) × (List (Int)))) (HRp0 : Rd KS139 sb A0p c0p p0) (hH : Hp sb s F0 s []) (r : Bool) (H : slices_ContainsFunc_impl_Re_impl_Re_impl_isPlain_1.f p0 = some r) : GCall Try.prog 190 #[.slice A0p p0.length c0p, .func (.func 194) #[] #[]] s (slices_ContainsFunc_impl_Re_impl_Re_impl_isPlain_1.post sb s F0 r) := by
 refine GCall_ofr (slices_ContainsFunc_impl_Re_impl_Re_impl_isPlain_1.post sb s F0) [.tmp 4] (ud [.slice A0p p0.length c0p, .func (.func 194) #[] #[]] 7) Try.func190 rfl rfl rfl fun w Q hQr hQn hQp => ?_
 replace H := topE H
 unfold slices_ContainsFunc_impl_Re_impl_Re_impl_isPlain_1.f at H
 dsimp only [ud, un]
 refine sr fun K1 hK1 => ag (HL_nil (hK1 _ _ ?_))
 dsimp only [putL, setL, evL, getL]
 refine sr fun K2 hK2 => mv (mv ?_)
 replace H := headE H
 obtain ⟨u3, hu3, H⟩ := H
 refine hc (o_call (args := #[.slice A0p p0.length c0p, .func (.func 194) #[] #[]]) Try.func221 rfl rfl rfl (slices_IndexFunc_impl_Re_impl_Re_impl_isPlain_1.ok sb s no A0p c0p p0 HRp0 (Hp.own hH.bs) _ hu3) ?_)
 rintro _ s3 ⟨rfl, hD⟩
 replace hH := hH.back0 hD (Up.refl _ _ _)
 clear hD
 try dsimp only [putL, setL, evL, getL]
 refine bn rfl rfl rfl (ag (HL_nil (hK2 _ _ ?_)))
 dsimp only [putL, setL, evL, getL]
 refine HT_ret ?_
 exact hQr _ _ [.bool (decide (u3 ≥ 0))] _ ⟨rfl, trivial⟩ H ⟨rfl, hH⟩
def impl_isPlain.f (p0 : List ((Int) × (List (Int)))) : Option Bool := (slices_ContainsFunc_impl_Re_impl_Re_impl_isPlain_1.f p0).bind fun u3 => some (!u3)
def impl_isPlain.post (sb s : St) (F0 : Fp) (r : Bool) : Value → St → Prop := fun v s' => v = .bool r ∧ Hp sb s F0 s' []
set_option maxRecDepth 100000 in
set_option maxHeartbeats 4000000 in
theorem impl_isPlain.ok (sb s : St) (F0 : Fp) (A0p : Option Addr) (c0p : Nat) (p0 : List ((Int) × (List (Int)))) (HRp0 : Rd KS139 sb A0p c0p p0) (hH : Hp sb s F0 s []) (r : Bool) (H : impl_isPlain.f p0 = some r) : GCall Try.prog 132 #[.slice A0p p0.length c0p] s (impl_isPlain.post sb s F0 r) := by
 refine GCall_ofr (impl_isPlain.post sb s F0) [.tmp 2] (ud [.slice A0p p0.length c0p] 5) Try.func132 rfl rfl rfl fun w Q hQr hQn hQp => ?_
 replace H := topE H
 unfold impl_isPlain.f at H
 dsimp only [ud, un]
 refine sr fun K1 hK1 => ag (HL_nil (hK1 _ _ ?_))
 dsimp only [putL, setL, evL, getL]
 refine sr fun K2 hK2 => mv ?_
 replace H := headE H
 obtain ⟨u3, hu3, H⟩ := H
 refine hc (o_call (args := #[.slice A0p p0.length c0p, .func (.func 194) #[] #[]]) Try.func190 rfl rfl rfl (slices_ContainsFunc_impl_Re_impl_Re_impl_isPlain_1.ok sb s no A0p c0p p0 HRp0 (Hp.own hH.bs) _ hu3) ?_)
 rintro _ s3 ⟨rfl, hD⟩
 replace hH := hH.back0 hD (Up.refl _ _ _)
 clear hD
 refine hc (o_not rfl ?_)
 dsimp only [putL, setL, evL, getL]
 refine ag (HL_nil (hK2 _ _ ?_))
 dsimp only [putL, setL, evL, getL]
 refine HT_ret ?_
 exact hQr _ _ [.bool (!u3)] _ ⟨rfl, trivial⟩ H ⟨rfl, hH⟩
def impl_areRunes_1.f (p0 : Int) : Option Bool := (impl_GoodRune.f p0).bind fun u3 => some (!u3)
def impl_areRunes_1.post (sb s : St) (F0 : Fp) (r : Bool) : Value → St → Prop := fun v s' => v = .bool r ∧ Hp sb s F0 s' []
set_option maxRecDepth 100000 in
set_option maxHeartbeats 4000000 in
theorem impl_areRunes_1.ok (sb s : St) (F0 : Fp) (p0 : Int) (hH : Hp sb s F0 s []) (r : Bool) (H : impl_areRunes_1.f p0 = some r) : GCall Try.prog 186 #[.int .i64 p0] s (impl_areRunes_1.post sb s F0 r) := by
 refine GCall_ofr (impl_areRunes_1.post sb s F0) [.tmp 2] (ud [.int .i64 p0] 5) Try.func186 rfl rfl rfl fun w Q hQr hQn hQp => ?_
 replace H := topE H
 unfold impl_areRunes_1.f at H
 dsimp only [ud, un]
 refine sr fun K1 hK1 => ag (HL_nil (hK1 _ _ ?_))
 dsimp only [putL, setL, evL, getL]
 refine sr fun K2 hK2 => mv ?_
 replace H := headE H
 obtain ⟨u3, hu3, H⟩ := H
 refine hc (o_call (args := #[.int .i64 p0]) Try.func146 rfl rfl rfl (impl_GoodRune.ok sb s no p0 (Hp.own hH.bs) _ hu3) ?_)
 rintro _ s3 ⟨rfl, hD⟩
 replace hH := hH.back0 hD (Up.refl _ _ _)
 clear hD
 refine hc (o_not rfl ?_)
 dsimp only [putL, setL, evL, getL]
 refine ag (HL_nil (hK2 _ _ ?_))
 dsimp only [putL, setL, evL, getL]
 refine HT_ret ?_
 exact hQr _ _ [.bool (!u3)] _ ⟨rfl, trivial⟩ H ⟨rfl, hH⟩
def slices_IndexFunc_int_int_impl_areRunes_1.l1 (p0 : List (Int)) : Nat → Int → Option (Lo Unit Int)
 | 0, _ => none
 | kf + 1, x48 => if (decide (x48 < (p0.length : Int))) = true then ((rd? p0 x48).bind fun u67 => (impl_areRunes_1.f u67).bind fun u68 => if u68 = true then ((some x48).bind fun z => some (Lo.ret z)) else (slices_IndexFunc_int_int_impl_areRunes_1.l1 p0 kf (IntKind.i64.wrap (x48 + 1)))) else (some (Lo.go ()))
def slices_IndexFunc_int_int_impl_areRunes_1.f (p0 : List (Int)) : Option Int := (slices_IndexFunc_int_int_impl_areRunes_1.l1 p0 ((((p0.length : Int)) - (0)).toNat + 2) 0).bind fun (o : Lo Unit Int) => match o with | .go () => (some (-1)) | .ret z => some z
def slices_IndexFunc_int_int_impl_areRunes_1.post (sb s : St) (F0 : Fp) (r : Int) : Value → St → Prop := fun v s' => v = .int .i64 r ∧ Hp sb s F0 s' []
set_option maxRecDepth 100000 in
set_option maxHeartbeats 4000000 in
theorem slices_IndexFunc_int_int_impl_areRunes_1.ok (sb s : St) (F0 : Fp) (A0p : Option Addr) (c0p : Nat) (p0 : List (Int)) (HRp0 : Rd KI sb A0p c0p p0) (hH : Hp sb s F0 s []) (r : Int) (H : slices_IndexFunc_int_int_impl_areRunes_1.f p0 = some r) : GCall Try.prog 184 #[.slice A0p p0.length c0p, .func (.func 186) #[] #[]] s (slices_IndexFunc_int_int_impl_areRunes_1.post sb s F0 r) := by
 refine GCall_ofr (slices_IndexFunc_int_int_impl_areRunes_1.post sb s F0) [.tmp 4] (ud [.slice A0p p0.length c0p, .func (.func 186) #[] #[]] 17) Try.func184 rfl rfl rfl fun w Q hQr hQn hQp => ?_
 replace H := topE H
 unfold slices_IndexFunc_int_int_impl_areRunes_1.f at H
 dsimp only [ud, un]
 refine sr fun K1 hK1 => ag (HL_nil (hK1 _ _ ?_))
 dsimp only [putL, setL, evL, getL]
 refine HT_seq_k fun K2 hK2 => sr fun K3 hK3 => mv (hc (o_len rfl Try.underlying24 (mv (HL_nil (hK3 _ _ ?_)))))
 dsimp only [putL, setL, evL, getL]
 refine joinH H fun G4 hG4 H => ?_
 refine HT_toK (fun l' s' => G4 (.go ()) = some r ∧ skim [] l' = ([], 20) ∧ Hp sb s F0 s' []) ?_ ?_
 ·intro K4 hK4
  refine HT_block ?_
  refine HT_loopK (fun kf l' s' => ∃ (x48 : Int), (slices_IndexFunc_int_int_impl_areRunes_1.l1 p0 kf x48).bind G4 = some r ∧ skim [0, 0, 5, 0] l' = ([.slice A0p p0.length c0p, .func (.func 186) #[] #[], .int .i64 (p0.length : Int), .int .i64 x48], 11) ∧ Hp sb s F0 s' []) ((((p0.length : Int)) - (0)).toNat + 2) ⟨0, H, rfl, hH⟩ ?_
  rintro kf l' s60 ⟨x48, H, hl, hH⟩ K60 hK60
  revert l'
  refine skA ?_
  dsimp only [Al, Sk]
  intros
  cases kf with
  | zero => simp [slices_IndexFunc_int_int_impl_areRunes_1.l1] at H
  | succ kf =>
   rw [slices_IndexFunc_int_int_impl_areRunes_1.l1] at H
   refine sr fun K61 hK61 => bn rfl rfl rfl (HL_nil (hK61 _ _ ?_))
   dsimp only [putL, setL, evL, getL]
   refine HT_seq_k fun K62 hK62 => ?_
   revert H
   refine ct rfl (fun hb63 H => ?_) (fun hb63 H => ?_)
   ·refine HT_skip (hK62 _ _ (HT_seq_k fun K64 hK64 => (HT_block (sr fun K65 hK65 => (mv (ag (HL_nil (hK65 _ _ ?_))))))))
    dsimp only [putL, setL, evL, getL]
    refine sr fun K66 hK66 => mv (mv (mv ?_))
    replace H := headE H
    obtain ⟨u67, hu67, H⟩ := H
    obtain ⟨b67, o67, cs67, hr67, hh67, hel67⟩ := Rd.elb HRp0 hu67
    obtain rfl := hr67
    try dsimp only [putL, setL, evL, getL]
    refine hc (hel67 s60 rfl rfl Try.underlying24 tI3 (hc (o_load' rfl Try.underlying3 rfl ((hh67 hH.bs.mono) 0 _ rfl) ?_)))
    replace H := headE H
    obtain ⟨u68, hu68, H⟩ := H
    refine hc (o_callv (first := #[]) (cap := #[]) (args := #[.int .i64 u67]) rfl Try.func186 rfl rfl [.int .i64 u67] rfl (by simp) (impl_areRunes_1.ok sb s60 no u67 (Hp.own hH.bs) _ hu68) ?_)
    rintro _ s68 ⟨rfl, hD⟩
    replace hH := hH.back0 hD (Up.refl _ _ _)
    clear hD
    refine HL_nil (hK66 _ _ ?_)
    try dsimp only [putL, setL, evL, getL]
    revert H
    refine ct rfl (fun hb69 H => ?_) (fun hb69 H => ?_)
    ·refine sr fun K70 hK70 => mv (ag (HL_nil (hK70 _ _ ?_)))
     dsimp only [putL, setL, evL, getL]
     refine HT_ret ?_
     replace H := escH (fun z hz => hG4 _ hz) H
     exact hQr _ _ [.int .i64 x48] _ ⟨rfl, trivial⟩ H ⟨rfl, hH⟩
    ·refine HT_skip (hK64 _ _ ?_)
     refine HT_region ?_
     refine bn rfl rfl rfl (mv (HL_nil ?_))
     exact hK60 _ _ ⟨kf, Nat.lt_succ_self kf, IntKind.i64.wrap (x48 + 1), H, rfl, hH⟩
   ·refine HT_exit ?_
    exact hK4 _ _ ⟨H, rfl, hH⟩
 ·rintro l' s71 ⟨H, hl, hH⟩
  revert l'
  refine skA ?_
  dsimp only [Al, Sk]
  intros
  replace H := hG4 _ H
  try dsimp only at H
  refine hK2 _ _ ?_
  refine sr fun K72 hK72 => ag (HL_nil (hK72 _ _ ?_))
  dsimp only [putL, setL, evL, getL]
  refine HT_ret ?_
  exact hQr _ _ [.int .i64 (-1)] _ ⟨rfl, trivial⟩ H ⟨rfl, hH⟩
def slices_ContainsFunc_int_int_impl_areRunes_1.f (p0 : List (Int)) : Option Bool := (slices_IndexFunc_int_int_impl_areRunes_1.f p0).bind fun u3 => some (decide (u3 ≥ 0))
def slices_ContainsFunc_int_int_impl_areRunes_1.post (sb s : St) (F0 : Fp) (r : Bool) : Value → St → Prop := fun v s' => v = .bool r ∧ Hp sb s F0 s' []
set_option maxRecDepth 100000 in
set_option maxHeartbeats 4000000 in
theorem slices_ContainsFunc_int_int_impl_areRunes_1.ok (sb s : St) (F0 : Fp) (A0p : Option Addr) (c0p : Nat) (p0 : List (Int)) (HRp0 : Rd KI sb A0p c0p p0) (hH : Hp sb s F0 s []) (r : Bool) (H : slices_ContainsFunc_int_int_impl_areRunes_1.f p0 = some r) : GCall Try.prog 114 #[.slice A0p p0.length c0p, .func (.func 186) #[] #[]] s (slices_ContainsFunc_int_int_impl_areRunes_1.post sb s F0 r) := by
 refine GCall_ofr (slices_ContainsFunc_int_int_impl_areRunes_1.post sb s F0) [.tmp 4] (ud [.slice A0p p0.length c0p, .func (.func 186) #[] #[]] 7) Try.func114 rfl rfl rfl fun w Q hQr hQn hQp => ?_
 replace H := topE H
 unfold slices_ContainsFunc_int_int_impl_areRunes_1.f at H
 dsimp only [ud, un]
 refine sr fun K1 hK1 => ag (HL_nil (hK1 _ _ ?_))
 dsimp only [putL, setL, evL, getL]
 refine sr fun K2 hK2 => mv (mv ?_)
 replace H := headE H
 obtain ⟨u3, hu3, H⟩ := H
 refine hc (o_call (args := #[.slice A0p p0.length c0p, .func (.func 186) #[] #[]]) Try.func184 rfl rfl rfl (slices_IndexFunc_int_int_impl_areRunes_1.ok sb s no A0p c0p p0 HRp0 (Hp.own hH.bs) _ hu3) ?_)
 rintro _ s3 ⟨rfl, hD⟩
 replace hH := hH.back0 hD (Up.refl _ _ _)
 clear hD
 try dsimp only [putL, setL, evL, getL]
 refine bn rfl rfl rfl (ag (HL_nil (hK2 _ _ ?_)))
 dsimp only [putL, setL, evL, getL]
 refine HT_ret ?_
 exact hQr _ _ [.bool (decide (u3 ≥ 0))] _ ⟨rfl, trivial⟩ H ⟨rfl, hH⟩
def impl_areRunes.f (p0 : List (Int)) (p1 : Int) : Option Bool := if (decide ((p0.length : Int) ≤ p1)) = true then ((slices_ContainsFunc_int_int_impl_areRunes_1.f p0).bind fun u4 => some (!u4)) else (some false)
def impl_areRunes.post (sb s : St) (F0 : Fp) (r : Bool) : Value → St → Prop := fun v s' => v = .bool r ∧ Hp sb s F0 s' []
set_option maxRecDepth 100000 in
set_option maxHeartbeats 4000000 in
theorem impl_areRunes.ok (sb s : St) (F0 : Fp) (A0p : Option Addr) (c0p : Nat) (p0 : List (Int)) (p1 : Int) (HRp0 : Rd KI sb A0p c0p p0) (hH : Hp sb s F0 s []) (r : Bool) (H : impl_areRunes.f p0 p1 = some r) : GCall Try.prog 118 #[.slice A0p p0.length c0p, .int .i64 p1] s (impl_areRunes.post sb s F0 r) := by
 refine GCall_ofr (impl_areRunes.post sb s F0) [.tmp 4] (ud [.slice A0p p0.length c0p, .int .i64 p1] 12) Try.func118 rfl rfl rfl fun w Q hQr hQn hQp => ?_
 replace H := topE H
 unfold impl_areRunes.f at H
 dsimp only [ud, un]
 refine sr fun K1 hK1 => ag (HL_nil (hK1 _ _ ?_))
 dsimp only [putL, setL, evL, getL]
 refine sr fun K2 hK2 => mv (hc (o_len rfl Try.underlying24 (mv ?_)))
 dsimp only [putL, setL, evL, getL]
 refine bn rfl rfl rfl (mv ?_)
 revert H
 refine it (fun hb3 H => ?_) (fun hb3 H => ?_)
 ·refine wt rfl rfl rfl rfl hb3 (o_move ?_)
  replace H := headE H
  obtain ⟨u4, hu4, H⟩ := H
  try dsimp only [putL, setL, evL, getL]
  refine wt rfl rfl rfl rfl hb3 (o_call (args := #[.slice A0p p0.length c0p, .func (.func 186) #[] #[]]) Try.func114 rfl rfl rfl (slices_ContainsFunc_int_int_impl_areRunes_1.ok sb s no A0p c0p p0 HRp0 (Hp.own hH.bs) _ hu4) ?_)
  rintro _ s4 ⟨rfl, hD⟩
  replace hH := hH.back0 hD (Up.refl _ _ _)
  clear hD
  refine wt rfl rfl rfl rfl hb3 (o_not rfl (hc (o_pickT rfl hb3 ?_)))
  dsimp only [putL, setL, evL, getL]
  refine ag (HL_nil (hK2 _ _ ?_))
  dsimp only [putL, setL, evL, getL]
  refine HT_ret ?_
  exact hQr _ _ [.bool (!u4)] _ ⟨rfl, trivial⟩ H ⟨rfl, hH⟩
 ·refine wf rfl rfl rfl rfl hb3 (wf rfl rfl rfl rfl hb3 (wf rfl rfl rfl rfl hb3 ?_))
  dsimp only [putL, setL, evL, getL]
  refine hc (o_pickF rfl hb3 (ag (HL_nil (hK2 _ _ ?_))))
  dsimp only [putL, setL, evL, getL]
  refine HT_ret ?_
  exact hQr _ _ [.bool false] _ ⟨rfl, trivial⟩ H ⟨rfl, hH⟩
def impl_canParse.f (p0 : List ((Int) × (List (Int)))) (p1 : List (Int)) : Option Bool := (impl_GoodRe.f p0).bind fun u3 => if u3 = true then ((impl_isPlain.f p0).bind fun u5 => if u5 = true then ((impl_areRunes.f p1 40).bind fun u7 => some u7) else (some false)) else (some false)
def impl_canParse.post (sb s : St) (F0 : Fp) (r : Bool) : Value → St → Prop := fun v s' => v = .bool r ∧ Hp sb s F0 s' []
set_option maxRecDepth 100000 in
set_option maxHeartbeats 4000000 in
theorem impl_canParse.ok (sb s : St) (F0 : Fp) (A0p : Option Addr) (c0p : Nat) (p0 : List ((Int) × (List (Int)))) (A1p : Option Addr) (c1p : Nat) (p1 : List (Int)) (HRp0 : Rd KS139 sb A0p c0p p0) (HRp1 : Rd KI sb A1p c1p p1) (hH : Hp sb s F0 s []) (r : Bool) (H : impl_canParse.f p0 p1 = some r) : GCall Try.prog 152 #[.slice A0p p0.length c0p, .slice A1p p1.length c1p] s (impl_canParse.post sb s F0 r) := by
 refine GCall_ofr (impl_canParse.post sb s F0) [.tmp 4] (ud [.slice A0p p0.length c0p, .slice A1p p1.length c1p] 13) Try.func152 rfl rfl rfl fun w Q hQr hQn hQp => ?_
 replace H := topE H
 unfold impl_canParse.f at H
 dsimp only [ud, un]
 refine sr fun K1 hK1 => ag (HL_nil (hK1 _ _ ?_))
 dsimp only [putL, setL, evL, getL]
 refine sr fun K2 hK2 => mv ?_
 replace H := headE H
 obtain ⟨u3, hu3, H⟩ := H
 refine hc (o_call (args := #[.slice A0p p0.length c0p]) Try.func131 rfl rfl rfl (impl_GoodRe.ok sb s no A0p c0p p0 HRp0 (Hp.own hH.bs) _ hu3) ?_)
 rintro _ s3 ⟨rfl, hD⟩
 replace hH := hH.back0 hD (Up.refl _ _ _)
 clear hD
 refine mv ?_
 revert H
 refine it (fun hb4 H => ?_) (fun hb4 H => ?_)
 ·refine wt rfl rfl rfl rfl hb4 (o_move ?_)
  replace H := headE H
  obtain ⟨u5, hu5, H⟩ := H
  try dsimp only [putL, setL, evL, getL]
  refine wt rfl rfl rfl rfl hb4 (o_call (args := #[.slice A0p p0.length c0p]) Try.func132 rfl rfl rfl (impl_isPlain.ok sb s3 no A0p c0p p0 HRp0 (Hp.own hH.bs) _ hu5) ?_)
  rintro _ s5 ⟨rfl, hD⟩
  replace hH := hH.back0 hD (Up.refl _ _ _)
  clear hD
  refine hc (o_pickT rfl hb4 (mv ?_))
  revert H
  refine it (fun hb6 H => ?_) (fun hb6 H => ?_)
  ·refine wt rfl rfl rfl rfl hb6 (o_move ?_)
   replace H := headE H
   obtain ⟨u7, hu7, H⟩ := H
   try dsimp only [putL, setL, evL, getL]
   refine wt rfl rfl rfl rfl hb6 (o_call (args := #[.slice A1p p1.length c1p, .int .i64 40]) Try.func118 rfl rfl rfl (impl_areRunes.ok sb s5 no A1p c1p p1 40 HRp1 (Hp.own hH.bs) _ hu7) ?_)
   rintro _ s7 ⟨rfl, hD⟩
   replace hH := hH.back0 hD (Up.refl _ _ _)
   clear hD
   refine hc (o_pickT rfl hb6 (ag (HL_nil (hK2 _ _ ?_))))
   dsimp only [putL, setL, evL, getL]
   refine HT_ret ?_
   exact hQr _ _ [.bool u7] _ ⟨rfl, trivial⟩ H ⟨rfl, hH⟩
  ·refine wf rfl rfl rfl rfl hb6 (wf rfl rfl rfl rfl hb6 (hc (o_pickF rfl hb6 ?_)))
   dsimp only [putL, setL, evL, getL]
   refine ag (HL_nil (hK2 _ _ ?_))
   dsimp only [putL, setL, evL, getL]
   refine HT_ret ?_
   exact hQr _ _ [.bool false] _ ⟨rfl, trivial⟩ H ⟨rfl, hH⟩
 ·refine wf rfl rfl rfl rfl hb4 (wf rfl rfl rfl rfl hb4 (hc (o_pickF rfl hb4 ?_)))
  dsimp only [putL, setL, evL, getL]
  refine mv (wf rfl rfl rfl rfl rfl (wf rfl rfl rfl rfl rfl ?_))
  dsimp only [putL, setL, evL, getL]
  refine hc (o_pickF rfl rfl (ag (HL_nil (hK2 _ _ ?_))))
  dsimp only [putL, setL, evL, getL]
  refine HT_ret ?_
  exact hQr _ _ [.bool false] _ ⟨rfl, trivial⟩ H ⟨rfl, hH⟩
def impl_spansOf.l1 (p0 : List (Int)) : Nat → (List ((Int) × (Int))) → Int → Option (List ((Int) × (Int)))
 | 0, _, _ => none
 | kf + 1, x45, x46 => if (decide ((IntKind.i64.wrap (x46 + 1)) < (p0.length : Int))) = true then ((rd? p0 x46).bind fun u62 => (rd? p0 (IntKind.i64.wrap (x46 + 1))).bind fun u63 => (app? 8796093022208 x45 [(u62, u63)]).bind fun x65 => impl_spansOf.l1 p0 kf x65 (IntKind.i64.wrap (x46 + 2))) else (some x45)
def impl_spansOf.f (p0 : List (Int)) : Option (List ((Int) × (Int))) := (impl_spansOf.l1 p0 ((((p0.length : Int)) - (IntKind.i64.wrap (0 + 1))).toNat + 2) ([] : List ((Int) × (Int))) 0).bind fun (o : (List ((Int) × (Int)))) => match o with | x36 => (some x36)
def impl_spansOf.post (sb s : St) (F0 : Fp) (r : (List ((Int) × (Int)))) : Value → St → Prop := fun v s' => ∃ (A0 : Option Addr) (c0 : Nat), v = .slice A0 r.length c0 ∧ Hp sb s F0 s' [Ck.ol OS219 219 A0 c0 r]
set_option maxRecDepth 100000 in
set_option maxHeartbeats 4000000 in
theorem impl_spansOf.ok (sb s : St) (F0 : Fp) (A0p : Option Addr) (c0p : Nat) (p0 : List (Int)) (HRp0 : Rd KI sb A0p c0p p0) (hH : Hp sb s F0 s []) (r : (List ((Int) × (Int)))) (H : impl_spansOf.f p0 = some r) : GCall Try.prog 225 #[.slice A0p p0.length c0p] s (impl_spansOf.post sb s F0 r) := by
 refine GCall_ofr (impl_spansOf.post sb s F0) [.tmp 2] (ud [.slice A0p p0.length c0p] 26) Try.func225 rfl rfl rfl fun w Q hQr hQn hQp => ?_
 replace H := topE H
 unfold impl_spansOf.f at H
 dsimp only [ud, un]
 refine sr fun K1 hK1 => ag (HL_nil (hK1 _ _ ?_))
 dsimp only [putL, setL, evL, getL]
 refine sr fun K2 hK2 => hc (o_lit0H (α := (Int) × (Int)) (K := KS219) (O := OS219) hH Try.underlying217 tI219 ?_)
 clear hH
 intro A3 s3 hH _
 refine ag (HL_nil (hK2 _ _ ?_))
 dsimp only [putL, setL, evL, getL]
 refine HT_seq_k fun K4 hK4 => sr fun K5 hK5 => ag (HL_nil (hK5 _ _ ?_))
 dsimp only [putL, setL, evL, getL]
 refine joinH H fun G6 hG6 H => ?_
 refine HT_toK (fun l' s' => ∃ (x36 : List ((Int) × (Int))) (A36 : Option Addr) (c36 : Nat), G6 x36 = some r ∧ skim [3] l' = ([.slice A36 x36.length c36], 24) ∧ Hp sb s F0 s' [Ck.ol OS219 219 A36 c36 x36]) ?_ ?_
 ·intro K6 hK6
  refine HT_block ?_
  refine HT_loopK (fun kf l' s' => ∃ (x45 : List ((Int) × (Int))) (A45 : Option Addr) (c45 : Nat) (x46 : Int), (impl_spansOf.l1 p0 kf x45 x46).bind G6 = some r ∧ skim [0, 2, 0] l' = ([.slice A0p p0.length c0p, .slice A45 x45.length c45, .int .i64 x46], 23) ∧ Hp sb s F0 s' [Ck.ol OS219 219 A45 c45 x45]) ((((p0.length : Int)) - (IntKind.i64.wrap (0 + 1))).toNat + 2) ⟨([] : List ((Int) × (Int))), A3, 0, 0, H, rfl, hH⟩ ?_
  rintro kf l' s57 ⟨x45, A45, c45, x46, H, hl, hH⟩ K57 hK57
  revert l'
  refine skA ?_
  dsimp only [Al, Sk]
  intros
  cases kf with
  | zero => simp [impl_spansOf.l1] at H
  | succ kf =>
   rw [impl_spansOf.l1] at H
   refine HT_seq_k fun K58 hK58 => sr fun K59 hK59 => mv (bn rfl rfl rfl (mv ?_))
   dsimp only [putL, setL, evL, getL]
   refine hc (o_len rfl Try.underlying24 (bn rfl rfl rfl (HL_nil (hK59 _ _ ?_))))
   dsimp only [putL, setL, evL, getL]
   revert H
   refine ct rfl (fun hb60 H => ?_) (fun hb60 H => ?_)
   ·refine HT_skip (hK58 _ _ (HT_seq_k fun K61 hK61 => (HT_block ?_)))
    refine HX_draw hMix ?_
    refine HX_lim (R := fun _ => True) (k := 0) (fun s' => Gro s57 s') 12 ?_
    have hR := Gro.refl s57
    have hH0 := hH
    refine HK_readP 0 (v := .slice A45 x45.length c45) rfl (by kernel_rfl) hQp rfl (fun s' K hK => o_move hK) rfl rfl (fun _ => hR) ?_
    try dsimp only [putL, setL, evL, getL]
    refine HK_readP 1 (v := .slice A0p p0.length c0p) rfl (by kernel_rfl) hQp rfl (fun s' K hK => o_move hK) rfl rfl (fun _ => hR) ?_
    refine HK_readP 2 (v := .int .i64 x46) rfl (by kernel_rfl) hQp rfl (fun s' K hK => o_move hK) rfl rfl (fun _ => hR) ?_
    replace H := headE H
    obtain ⟨u62, hu62, H⟩ := H
    obtain ⟨b62, o62, cs62, hr62, hh62, hel62⟩ := Rd.elb HRp0 hu62
    obtain rfl := hr62
    refine HK_readP 3 (v := .pointer (some ⟨b62, o62, none⟩)) rfl (by kernel_rfl) hQp rfl (fun s' K hK => hel62 s' rfl rfl Try.underlying24 tI3 hK) rfl rfl (fun _ => hR) ?_
    try dsimp only [putL, setL, evL, getL]
    refine HK_read 4 (v := .int .i64 u62) rfl (by kernel_rfl) hQp rfl (fun s' hR' K hK => o_load' rfl Try.underlying3 rfl ((hh62 (hH0.bs.mono.trans hR'.mono)) 0 _ rfl) hK) rfl rfl hR ?_
    refine HK_readP 5 (v := .slice A0p p0.length c0p) rfl (by kernel_rfl) hQp rfl (fun s' K hK => o_move hK) rfl rfl (fun _ => hR) ?_
    refine HK_readP 6 (v := .int .i64 x46) rfl (by kernel_rfl) hQp rfl (fun s' K hK => o_move hK) rfl rfl (fun _ => hR) ?_
    try dsimp only [putL, setL, evL, getL]
    refine HK_readP 7 (v := .int .i64 (IntKind.i64.wrap (x46 + 1))) rfl (by kernel_rfl) hQp rfl (fun s' K hK => o_bin rfl rfl rfl hK) rfl rfl (fun _ => hR) ?_
    replace H := headE H
    obtain ⟨u63, hu63, H⟩ := H
    obtain ⟨b63, o63, cs63, hr63, hh63, hel63⟩ := Rd.elb HRp0 hu63
    obtain rfl := hr63
    refine HK_readP 8 (v := .pointer (some ⟨b63, o63, none⟩)) rfl (by kernel_rfl) hQp rfl (fun s' K hK => hel63 s' rfl rfl Try.underlying24 tI3 hK) rfl rfl (fun _ => hR) ?_
    refine HK_read 9 (v := .int .i64 u63) rfl (by kernel_rfl) hQp rfl (fun s' hR' K hK => o_load' rfl Try.underlying3 rfl ((hh63 (hH0.bs.mono.trans hR'.mono)) 0 _ rfl) hK) rfl rfl hR ?_
    try dsimp only [putL, setL, evL, getL]
    refine HK_readP 10 (v := .agg #[.int .i64 u62, .int .i64 u63]) rfl (by kernel_rfl) hQp rfl (fun s' K hK => o_build (pl := [(0, 1), (1, 1)]) (cs := #[.int .i64 u62, .int .i64 u63]) Try.underlying219 tI219 (by kernel_rfl) (by kernel_rfl) rfl hK) rfl rfl (fun _ => hR) ?_
    refine HK_more [11] (by kernel_rfl) rfl (fun _ => hR) ⟨⟨_, rfl, Or.inl ⟨rfl, ?_⟩⟩, trivial⟩
    skip
    refine o_litF (K := KS219) (O := OS219) (ca := #[.int .i64 u62, .int .i64 u63]) [[.int .i64 u62, .int .i64 u63]] [(u62, u63)] hH Try.underlying217 tI219 rfl (by decide) rfl rfl (by kernel_rfl) rfl ⟨rfl, Ent.own (Ent.pair (v1 := [.int .i64 u62]) (v2 := [.int .i64 u63]) (x1 := u62) (x2 := u63) (Ent.flat rfl) (Ent.flat rfl)), trivial⟩ ?_
    clear hH
    intro A64 s64 hH hG
    replace hR := hR.trans hG
    refine HK_more [12] (by kernel_rfl) rfl (fun _ => hR) ⟨⟨_, rfl, Or.inl ⟨rfl, ?_⟩⟩, trivial⟩
    replace H := headE H
    obtain ⟨x65, hx65, H⟩ := H
    skip
    refine o_appF (K := KS219) (n := 8796093022208) (A := A45) (c := c45) (xs := x45) (ys := [(u62, u63)]) (B := A64) (c2 := 1) hH 0 rfl rfl rfl rfl Try.underlying217 tI219 rfl (by decide) (by decide) (by decide) (Src.flat (hH.rd 1 rfl)) hx65 ?_
    clear hH
    intro A65 c65 s65 hH
    try dsimp only [putL, setL, evL, getL]
    refine HK_free (by kernel_rfl) ?_
    refine HX_lim (R := fun _ => True) (k := 0) (fun s' => Gro s65 s') 15 ?_
    have hR := Gro.refl s65
    have hH0 := hH
    refine HK_more [13] (by kernel_rfl) rfl (fun _ => hR) ⟨⟨_, rfl, Or.inl ⟨rfl, ?_⟩⟩, trivial⟩
    skip
    refine o_assign ?_
    try dsimp only [putL, setL, evL, getL]
    refine HK_done (fun _ => hR) (by kernel_rfl) ?_
    refine hK61 _ _ ?_
    try dsimp only [putL, setL, evL, getL]
    refine HT_region ?_
    refine mv (bn rfl rfl rfl (ag (HL_nil ?_)))
    exact hK57 _ _ ⟨kf, Nat.lt_succ_self kf, x65, A65, c65, IntKind.i64.wrap (x46 + 2), H, rfl, hH.sel [0] (by decide)⟩
   ·refine HT_exit ?_
    exact hK6 _ _ ⟨x45, A45, c45, H, rfl, hH⟩
 ·rintro l' s66 ⟨x36, A36, c36, H, hl, hH⟩
  revert l'
  refine skA ?_
  dsimp only [Al, Sk]
  intros
  replace H := hG6 _ H
  try dsimp only at H
  refine hK4 _ _ ?_
  refine sr fun K67 hK67 => ?_
  try dsimp only [putL, setL, evL, getL]
  refine mv (ag (HL_nil (hK67 _ _ ?_)))
  dsimp only [putL, setL, evL, getL]
  refine HT_ret ?_
  exact hQr _ _ [.slice A36 x36.length c36] _ ⟨rfl, trivial⟩ H ⟨A36, c36, rfl, hH⟩
def impl_inSet_1.f (p0_0 : Int) (p0_1 : Int) (pf0_0 : Int) : Option Bool := (impl_inRange.f pf0_0 p0_0 p0_1).bind fun u4 => some u4
def impl_inSet_1.post (sb s : St) (F0 : Fp) (bpf0 : Nat) (pf0_0 : Int) (r : Bool) : Value → St → Prop := fun v s' => v = .bool r ∧ Hp sb s F0 s' [Ck.ov bpf0 [.int .i64 pf0_0] 3]
set_option maxRecDepth 100000 in
set_option maxHeartbeats 4000000 in
theorem impl_inSet_1.ok (sb s : St) (F0 : Fp) (p0_0 : Int) (p0_1 : Int) (bpf0 : Nat) (pf0_0 : Int) (hH : Hp sb s F0 s [Ck.ov bpf0 [.int .i64 pf0_0] 3]) (r : Bool) (H : impl_inSet_1.f p0_0 p0_1 pf0_0 = some r) : GCall Try.prog 226 #[.agg #[.int .i64 p0_0, .int .i64 p0_1], .pointer (some ⟨bpf0, 0, none⟩)] s (impl_inSet_1.post sb s F0 bpf0 pf0_0 r) := by
 refine GCall_ofr (impl_inSet_1.post sb s F0 bpf0 pf0_0) [.tmp 3] (ud [.agg #[.int .i64 p0_0, .int .i64 p0_1], .pointer (some ⟨bpf0, 0, none⟩)] 8) Try.func226 rfl rfl rfl fun w Q hQr hQn hQp => ?_
 replace H := topE H
 unfold impl_inSet_1.f at H
 dsimp only [ud, un]
 refine sr fun K1 hK1 => hc (o_boxH hH rfl ?_)
 clear hH
 intro b2 s2 hH _
 refine ag (HL_nil (hK1 _ _ ?_))
 dsimp only [putL, setL, evL, getL]
 refine sr fun K3 hK3 => hc (o_load' rfl Try.underlying3 rfl (hH.hasv 0 rfl rfl) (hc (o_faddr' (ft := 3) (off := 0) rfl Try.underlying219 rfl tI3 (by decide) (hc (o_load' rfl Try.underlying3 rfl (hH.hasv 1 rfl rfl) ?_)))))
 dsimp only [putL, setL, evL, getL]
 refine hc (o_faddr' (ft := 3) (off := 1) rfl Try.underlying219 rfl tI3 (by decide) (hc (o_load' rfl Try.underlying3 rfl (hH.hasv 1 rfl rfl) ?_)))
 replace H := headE H
 obtain ⟨u4, hu4, H⟩ := H
 refine hc (o_call (args := #[.int .i64 pf0_0, .int .i64 p0_0, .int .i64 p0_1]) Try.func105 rfl rfl rfl (impl_inRange.ok sb s2 no pf0_0 p0_0 p0_1 (Hp.own hH.bs) _ hu4) ?_)
 rintro _ s4 ⟨rfl, hD⟩
 replace hH := hH.back0 hD (Up.refl _ _ _)
 clear hD
 try dsimp only [putL, setL, evL, getL]
 refine ag (HL_nil (hK3 _ _ ?_))
 dsimp only [putL, setL, evL, getL]
 refine HT_ret ?_
 exact hQr _ _ [.bool u4] _ ⟨rfl, trivial⟩ H ⟨rfl, hH.sel [0] (by decide)⟩
def slices_IndexFunc_impl_span_impl_span_impl_inSet_1.l1 (p0 : List ((Int) × (Int))) (p1c0_0 : Int) : Nat → Int → Option (Lo Unit Int)
 | 0, _ => none
 | kf + 1, x48 => if (decide (x48 < (p0.length : Int))) = true then ((rd? p0 x48).bind fun u67 => (impl_inSet_1.f u67.1 u67.2 p1c0_0).bind fun u68 => if u68 = true then ((some x48).bind fun z => some (Lo.ret z)) else (slices_IndexFunc_impl_span_impl_span_impl_inSet_1.l1 p0 p1c0_0 kf (IntKind.i64.wrap (x48 + 1)))) else (some (Lo.go ()))
def slices_IndexFunc_impl_span_impl_span_impl_inSet_1.f (p0 : List ((Int) × (Int))) (p1c0_0 : Int) : Option Int := (slices_IndexFunc_impl_span_impl_span_impl_inSet_1.l1 p0 p1c0_0 ((((p0.length : Int)) - (0)).toNat + 2) 0).bind fun (o : Lo Unit Int) => match o with | .go () => (some (-1)) | .ret z => some z
def slices_IndexFunc_impl_span_impl_span_impl_inSet_1.post (sb s : St) (F0 : Fp) (bp1c0 : Nat) (p1c0_0 : Int) (r : Int) : Value → St → Prop := fun v s' => v = .int .i64 r ∧ Hp sb s F0 s' [Ck.ov bp1c0 [.int .i64 p1c0_0] 3]
set_option maxRecDepth 100000 in
set_option maxHeartbeats 4000000 in
theorem slices_IndexFunc_impl_span_impl_span_impl_inSet_1.ok (sb s : St) (F0 : Fp) (A0p : Option Addr) (c0p : Nat) (p0 : List ((Int) × (Int))) (bp1c0 : Nat) (p1c0_0 : Int) (HRp0 : Rd KS219 sb A0p c0p p0) (hH : Hp sb s F0 s [Ck.ov bp1c0 [.int .i64 p1c0_0] 3]) (r : Int) (H : slices_IndexFunc_impl_span_impl_span_impl_inSet_1.f p0 p1c0_0 = some r) : GCall Try.prog 237 #[.slice A0p p0.length c0p, .func (.func 226) #[] #[.pointer (some ⟨bp1c0, 0, none⟩)]] s (slices_IndexFunc_impl_span_impl_span_impl_inSet_1.post sb s F0 bp1c0 p1c0_0 r) := by
 refine GCall_ofr (slices_IndexFunc_impl_span_impl_span_impl_inSet_1.post sb s F0 bp1c0 p1c0_0) [.tmp 4] (ud [.slice A0p p0.length c0p, .func (.func 226) #[] #[.pointer (some ⟨bp1c0, 0, none⟩)]] 17) Try.func237 rfl rfl rfl fun w Q hQr hQn hQp => ?_
 replace H := topE H
 unfold slices_IndexFunc_impl_span_impl_span_impl_inSet_1.f at H
 dsimp only [ud, un]
 refine sr fun K1 hK1 => ag (HL_nil (hK1 _ _ ?_))
 dsimp only [putL, setL, evL, getL]
 refine HT_seq_k fun K2 hK2 => sr fun K3 hK3 => mv (hc (o_len rfl Try.underlying217 (mv (HL_nil (hK3 _ _ ?_)))))
 dsimp only [putL, setL, evL, getL]
 refine joinH H fun G4 hG4 H => ?_
 refine HT_toK (fun l' s' => G4 (.go ()) = some r ∧ skim [] l' = ([], 20) ∧ Hp sb s F0 s' [Ck.ov bp1c0 [.int .i64 p1c0_0] 3]) ?_ ?_
 ·intro K4 hK4
  refine HT_block ?_
  refine HT_loopK (fun kf l' s' => ∃ (x48 : Int), (slices_IndexFunc_impl_span_impl_span_impl_inSet_1.l1 p0 p1c0_0 kf x48).bind G4 = some r ∧ skim [0, 0, 5, 0] l' = ([.slice A0p p0.length c0p, .func (.func 226) #[] #[.pointer (some ⟨bp1c0, 0, none⟩)], .int .i64 (p0.length : Int), .int .i64 x48], 11) ∧ Hp sb s F0 s' [Ck.ov bp1c0 [.int .i64 p1c0_0] 3]) ((((p0.length : Int)) - (0)).toNat + 2) ⟨0, H, rfl, hH⟩ ?_
  rintro kf l' s60 ⟨x48, H, hl, hH⟩ K60 hK60
  revert l'
  refine skA ?_
  dsimp only [Al, Sk]
  intros
  cases kf with
  | zero => simp [slices_IndexFunc_impl_span_impl_span_impl_inSet_1.l1] at H
  | succ kf =>
   rw [slices_IndexFunc_impl_span_impl_span_impl_inSet_1.l1] at H
   refine sr fun K61 hK61 => bn rfl rfl rfl (HL_nil (hK61 _ _ ?_))
   dsimp only [putL, setL, evL, getL]
   refine HT_seq_k fun K62 hK62 => ?_
   revert H
   refine ct rfl (fun hb63 H => ?_) (fun hb63 H => ?_)
   ·refine HT_skip (hK62 _ _ (HT_seq_k fun K64 hK64 => (HT_block (sr fun K65 hK65 => (mv (ag (HL_nil (hK65 _ _ ?_))))))))
    dsimp only [putL, setL, evL, getL]
    refine sr fun K66 hK66 => mv (mv (mv ?_))
    replace H := headE H
    obtain ⟨u67, hu67, H⟩ := H
    obtain ⟨b67, o67, cs67, hr67, hh67, hel67⟩ := Rd.elb HRp0 hu67
    obtain ⟨_, _, rfl, rfl, rfl⟩ := hr67
    try dsimp only [putL, setL, evL, getL]
    refine hc (hel67 s60 rfl rfl Try.underlying217 tI219 (hc (o_loads' [.int .i64 u67.1, .int .i64 u67.2] rfl Try.underlying219 rfl tI219 rfl (fun j v hj => (hh67 hH.bs.mono) j v hj) ?_)))
    replace H := headE H
    obtain ⟨u68, hu68, H⟩ := H
    obtain ⟨F1, hA, hB⟩ := hH.take [0] (by decide)
    dsimp only [addC, setC, rmC, selC, getC] at hA
    refine hc (o_callv (first := #[]) (cap := #[.pointer (some ⟨bp1c0, 0, none⟩)]) (args := #[.agg #[.int .i64 u67.1, .int .i64 u67.2], .pointer (some ⟨bp1c0, 0, none⟩)]) rfl Try.func226 rfl rfl [.agg #[.int .i64 u67.1, .int .i64 u67.2]] rfl (by simp) (impl_inSet_1.ok sb s60 F1 u67.1 u67.2 bp1c0 p1c0_0 hA _ hu68) ?_)
    rintro _ s68 ⟨rfl, hD⟩
    replace hH := hB _ _ _ (Up.refl _ _ _) hD
    clear hD hA hB
    refine HL_nil (hK66 _ _ ?_)
    try dsimp only [putL, setL, evL, getL]
    revert H
    refine ct rfl (fun hb69 H => ?_) (fun hb69 H => ?_)
    ·refine sr fun K70 hK70 => mv (ag (HL_nil (hK70 _ _ ?_)))
     dsimp only [putL, setL, evL, getL]
     refine HT_ret ?_
     replace H := escH (fun z hz => hG4 _ hz) H
     exact hQr _ _ [.int .i64 x48] _ ⟨rfl, trivial⟩ H ⟨rfl, hH.sel [1] (by decide)⟩
    ·refine HT_skip (hK64 _ _ ?_)
     refine HT_region ?_
     refine bn rfl rfl rfl (mv (HL_nil ?_))
     exact hK60 _ _ ⟨kf, Nat.lt_succ_self kf, IntKind.i64.wrap (x48 + 1), H, rfl, hH.sel [1] (by decide)⟩
   ·refine HT_exit ?_
    exact hK4 _ _ ⟨H, rfl, hH⟩
 ·rintro l' s71 ⟨H, hl, hH⟩
  revert l'
  refine skA ?_
  dsimp only [Al, Sk]
  intros
  replace H := hG4 _ H
  try dsimp only at H
  refine hK2 _ _ ?_
  refine sr fun K72 hK72 => ag (HL_nil (hK72 _ _ ?_))
  dsimp only [putL, setL, evL, getL]
  refine HT_ret ?_
  exact hQr _ _ [.int .i64 (-1)] _ ⟨rfl, trivial⟩ H ⟨rfl, hH⟩
def slices_ContainsFunc_impl_span_impl_span_impl_inSet_1.f (p0 : List ((Int) × (Int))) (p1c0_0 : Int) : Option Bool := (slices_IndexFunc_impl_span_impl_span_impl_inSet_1.f p0 p1c0_0).bind fun u3 => some (decide (u3 ≥ 0))
def slices_ContainsFunc_impl_span_impl_span_impl_inSet_1.post (sb s : St) (F0 : Fp) (bp1c0 : Nat) (p1c0_0 : Int) (r : Bool) : Value → St → Prop := fun v s' => v = .bool r ∧ Hp sb s F0 s' [Ck.ov bp1c0 [.int .i64 p1c0_0] 3]
set_option maxRecDepth 100000 in
set_option maxHeartbeats 4000000 in
theorem slices_ContainsFunc_impl_span_impl_span_impl_inSet_1.ok (sb s : St) (F0 : Fp) (A0p : Option Addr) (c0p : Nat) (p0 : List ((Int) × (Int))) (bp1c0 : Nat) (p1c0_0 : Int) (HRp0 : Rd KS219 sb A0p c0p p0) (hH : Hp sb s F0 s [Ck.ov bp1c0 [.int .i64 p1c0_0] 3]) (r : Bool) (H : slices_ContainsFunc_impl_span_impl_span_impl_inSet_1.f p0 p1c0_0 = some r) : GCall Try.prog 224 #[.slice A0p p0.length c0p, .func (.func 226) #[] #[.pointer (some ⟨bp1c0, 0, none⟩)]] s (slices_ContainsFunc_impl_span_impl_span_impl_inSet_1.post sb s F0 bp1c0 p1c0_0 r) := by
 refine GCall_ofr (slices_ContainsFunc_impl_span_impl_span_impl_inSet_1.post sb s F0 bp1c0 p1c0_0) [.tmp 4] (ud [.slice A0p p0.length c0p, .func (.func 226) #[] #[.pointer (some ⟨bp1c0, 0, none⟩)]] 7) Try.func224 rfl rfl rfl fun w Q hQr hQn hQp => ?_
 replace H := topE H
 unfold slices_ContainsFunc_impl_span_impl_span_impl_inSet_1.f at H
 dsimp only [ud, un]
 refine sr fun K1 hK1 => ag (HL_nil (hK1 _ _ ?_))
 dsimp only [putL, setL, evL, getL]
 refine sr fun K2 hK2 => mv (mv ?_)
 replace H := headE H
 obtain ⟨u3, hu3, H⟩ := H
 obtain ⟨F1, hA, hB⟩ := hH.take [0] (by decide)
 dsimp only [addC, setC, rmC, selC, getC] at hA
 refine hc (o_call (args := #[.slice A0p p0.length c0p, .func (.func 226) #[] #[.pointer (some ⟨bp1c0, 0, none⟩)]]) Try.func237 rfl rfl rfl (slices_IndexFunc_impl_span_impl_span_impl_inSet_1.ok sb s F1 A0p c0p p0 bp1c0 p1c0_0 HRp0 hA _ hu3) ?_)
 rintro _ s3 ⟨rfl, hD⟩
 replace hH := hB _ _ _ (Up.refl _ _ _) hD
 clear hD hA hB
 try dsimp only [putL, setL, evL, getL]
 refine bn rfl rfl rfl (ag (HL_nil (hK2 _ _ ?_)))
 dsimp only [putL, setL, evL, getL]
 refine HT_ret ?_
 exact hQr _ _ [.bool (decide (u3 ≥ 0))] _ ⟨rfl, trivial⟩ H ⟨rfl, hH.sel [1] (by decide)⟩
def impl_inSet.f (p0 : List (Int)) (p1 : Int) : Option Bool := (impl_spansOf.f p0).bind fun u4 => (slices_ContainsFunc_impl_span_impl_span_impl_inSet_1.f u4 p1).bind fun u6 => some u6
def impl_inSet.post (sb s : St) (F0 : Fp) (r : Bool) : Value → St → Prop := fun v s' => v = .bool r ∧ Hp sb s F0 s' []
set_option maxRecDepth 100000 in
set_option maxHeartbeats 4000000 in
theorem impl_inSet.ok (sb s : St) (F0 : Fp) (A0p : Option Addr) (c0p : Nat) (p0 : List (Int)) (p1 : Int) (HRp0 : Rd KI sb A0p c0p p0) (hH : Hp sb s F0 s []) (r : Bool) (H : impl_inSet.f p0 p1 = some r) : GCall Try.prog 205 #[.slice A0p p0.length c0p, .int .i64 p1] s (impl_inSet.post sb s F0 r) := by
 refine GCall_ofr (impl_inSet.post sb s F0) [.tmp 4] (ud [.slice A0p p0.length c0p, .int .i64 p1] 7) Try.func205 rfl rfl rfl fun w Q hQr hQn hQp => ?_
 replace H := topE H
 unfold impl_inSet.f at H
 dsimp only [ud, un]
 refine sr fun K1 hK1 => hc (o_box1H hH rfl rfl ?_)
 clear hH
 intro b2 s2 hH _
 refine ag (HL_nil (hK1 _ _ ?_))
 dsimp only [putL, setL, evL, getL]
 refine sr fun K3 hK3 => mv ?_
 replace H := headE H
 obtain ⟨u4, hu4, H⟩ := H
 refine hc (o_call (args := #[.slice A0p p0.length c0p]) Try.func225 rfl rfl rfl (impl_spansOf.ok sb s2 no A0p c0p p0 HRp0 (Hp.own hH.bs) _ hu4) ?_)
 rintro _ s4 ⟨A5, c5, rfl, hD⟩
 replace hH := hH.back0 hD (Up.refl _ _ _)
 clear hD
 refine hc (o_func rfl rfl ?_)
 replace H := headE H
 obtain ⟨u6, hu6, H⟩ := H
 obtain ⟨F1, sx, hx, hC, hA, hB⟩ := hH.takeT [0] (by decide)
 dsimp only [addC, setC, rmC, selC, getC] at hA
 try dsimp only [putL, setL, evL, getL]
 refine hc (o_call (args := #[.slice A5 u4.length c5, .func (.func 226) #[] #[.pointer (some ⟨b2, 0, none⟩)]]) Try.func224 rfl rfl rfl (slices_ContainsFunc_impl_span_impl_span_impl_inSet_1.ok sx s4 F1 A5 c5 u4 b2 p1 (Ck.rdT hx (hC 1 (by decide)) rfl) hA _ hu6) ?_)
 rintro _ s6 ⟨rfl, hD⟩
 replace hH := hB _ _ _ inferInstance hD
 clear hD hA hB hx hC
 refine ag (HL_nil (hK3 _ _ ?_))
 dsimp only [putL, setL, evL, getL]
 refine HT_ret ?_
 exact hQr _ _ [.bool u6] _ ⟨rfl, trivial⟩ H ⟨rfl, hH.sel [] (by decide)⟩
def impl_matcher_has.f (p0_0 : List ((Int) × (List (Int)))) (p0_1 : List (List (Int))) (p0_2 : List (Int)) (p0_3 : List (List (List (Bool)))) (p1 : Int) (p2 : Int) (p3 : Int) : Option Bool := (rd? p0_3 p1).bind fun u3 => (rd? u3 p2).bind fun u5 => (rd? u5 p3).bind fun u7 => some u7
def impl_matcher_has.post (sb s : St) (F0 : Fp) (bp0 : Nat) (A0_0p : Option Addr) (c0_0p : Nat) (p0_0 : List ((Int) × (List (Int)))) (A0_1p : Option Addr) (c0_1p : Nat) (p0_1 : List (List (Int))) (A0_2p : Option Addr) (c0_2p : Nat) (p0_2 : List (Int)) (A0_3p : Option Addr) (c0_3p : Nat) (p0_3 : List (List (List (Bool)))) (r : Bool) : Value → St → Prop := fun v s' => v = .bool r ∧ Hp sb s F0 s' [Ck.ov bp0 [.slice A0_0p p0_0.length c0_0p, .slice A0_1p p0_1.length c0_1p, .slice A0_2p p0_2.length c0_2p, .slice A0_3p p0_3.length c0_3p] 165]
set_option maxRecDepth 100000 in
set_option maxHeartbeats 4000000 in
theorem impl_matcher_has.ok (sb s : St) (F0 : Fp) (bp0 : Nat) (A0_0p : Option Addr) (c0_0p : Nat) (p0_0 : List ((Int) × (List (Int)))) (A0_1p : Option Addr) (c0_1p : Nat) (p0_1 : List (List (Int))) (A0_2p : Option Addr) (c0_2p : Nat) (p0_2 : List (Int)) (A0_3p : Option Addr) (c0_3p : Nat) (p0_3 : List (List (List (Bool)))) (p1 : Int) (p2 : Int) (p3 : Int) (HRp0_0 : Rd KS139 sb A0_0p c0_0p p0_0) (HRp0_1 : Rd (Kd.sl KI) sb A0_1p c0_1p p0_1) (HRp0_2 : Rd KI sb A0_2p c0_2p p0_2) (HRp0_3 : Rd (Kd.sl (Kd.sl Kd.bool)) sb A0_3p c0_3p p0_3) (hH : Hp sb s F0 s [Ck.ov bp0 [.slice A0_0p p0_0.length c0_0p, .slice A0_1p p0_1.length c0_1p, .slice A0_2p p0_2.length c0_2p, .slice A0_3p p0_3.length c0_3p] 165]) (r : Bool) (H : impl_matcher_has.f p0_0 p0_1 p0_2 p0_3 p1 p2 p3 = some r) : GCall Try.prog 178 #[.pointer (some ⟨bp0, 0, none⟩), .int .i64 p1, .int .i64 p2, .int .i64 p3] s (impl_matcher_has.post sb s F0 bp0 A0_0p c0_0p p0_0 A0_1p c0_1p p0_1 A0_2p c0_2p p0_2 A0_3p c0_3p p0_3 r) := by
 refine GCall_ofr (impl_matcher_has.post sb s F0 bp0 A0_0p c0_0p p0_0 A0_1p c0_1p p0_1 A0_2p c0_2p p0_2 A0_3p c0_3p p0_3) [.tmp 8] (ud [.pointer (some ⟨bp0, 0, none⟩), .int .i64 p1, .int .i64 p2, .int .i64 p3] 18) Try.func178 rfl rfl rfl fun w Q hQr hQn hQp => ?_
 replace H := topE H
 unfold impl_matcher_has.f at H
 dsimp only [ud, un]
 refine sr fun K1 hK1 => ag (HL_nil (hK1 _ _ ?_))
 dsimp only [putL, setL, evL, getL]
 refine sr fun K2 hK2 => mv (hc (o_nilck rfl (hc (o_faddr' (ft := 163) (off := 3) rfl Try.underlying165 rfl tI163 (by decide) ?_))))
 dsimp only [putL, setL, evL, getL]
 refine hc (o_load' rfl Try.underlying163 rfl (hH.hasv 0 rfl rfl) (mv ?_))
 replace H := headE H
 obtain ⟨u3, hu3, H⟩ := H
 obtain ⟨b3, o3, cs3, hr3, hh3, hel3⟩ := Rd.elb HRp0_3 hu3
 obtain ⟨A4, c4, rfl, D4⟩ := hr3
 refine hc (hel3 s rfl rfl Try.underlying163 tI178 ?_)
 dsimp only [putL, setL, evL, getL]
 refine hc (o_load' rfl Try.underlying178 rfl ((hh3 hH.bs.mono) 0 _ rfl) (mv ?_))
 replace H := headE H
 obtain ⟨u5, hu5, H⟩ := H
 obtain ⟨b5, o5, cs5, hr5, hh5, hel5⟩ := Rd.elb D4 hu5
 obtain ⟨A6, c6, rfl, D6⟩ := hr5
 refine hc (hel5 s rfl rfl Try.underlying178 tI209 ?_)
 dsimp only [putL, setL, evL, getL]
 refine hc (o_load' rfl Try.underlying209 rfl ((hh5 hH.bs.mono) 0 _ rfl) (mv ?_))
 replace H := headE H
 obtain ⟨u7, hu7, H⟩ := H
 obtain ⟨b7, o7, cs7, hr7, hh7, hel7⟩ := Rd.elb D6 hu7
 obtain rfl := hr7
 refine hc (hel7 s rfl rfl Try.underlying209 tI4 ?_)
 dsimp only [putL, setL, evL, getL]
 refine hc (o_load' rfl Try.underlying4 rfl ((hh7 hH.bs.mono) 0 _ rfl) (ag (HL_nil (hK2 _ _ ?_))))
 dsimp only [putL, setL, evL, getL]
 refine HT_ret ?_
 exact hQr _ _ [.bool u7] _ ⟨rfl, trivial⟩ H ⟨rfl, hH⟩
def impl_matcher_look.l1 (p0_0 : List ((Int) × (List (Int)))) (p0_1 : List (List (Int))) (p0_2 : List (Int)) (p0_3 : List (List (List (Bool)))) (p1 : Int) (p2 : Int) (p3 : Int) (u3 : List (Int)) : Nat → Int → Option (Lo Unit (Lo Unit Bool))
 | 0, _ => none
 | kf + 1, x413 => if (decide (x413 ≤ p3)) = true then (((rd? u3 0).bind fun u471 => (impl_matcher_has.f p0_0 p0_1 p0_2 p0_3 u471 p2 x413).bind fun u472 => if u472 = true then ((impl_matcher_has.f p0_0 p0_1 p0_2 p0_3 p1 x413 p3).bind fun u474 => some u474) else (some false)).bind fun (o : Bool) => match o with | x470 => (if x470 = true then (((some true).bind fun z => some (Lo.ret z)).bind fun z => some (Lo.ret z)) else (impl_matcher_look.l1 p0_0 p0_1 p0_2 p0_3 p1 p2 p3 u3 kf (IntKind.i64.wrap (x413 + 1))))) else (some (Lo.go ()))
def impl_matcher_look.l2 (p0_0 : List ((Int) × (List (Int)))) (p0_1 : List (List (Int))) (p0_2 : List (Int)) (p0_3 : List (List (List (Bool)))) (p2 : Int) (p3 : Int) (u3 : List (Int)) : Nat → Int → Option (Lo Unit Bool)
 | 0, _ => none
 | kf + 1, x627 => if (decide (x627 ≤ p3)) = true then (((rd? u3 0).bind fun u692 => (impl_matcher_has.f p0_0 p0_1 p0_2 p0_3 u692 p2 x627).bind fun u693 => if u693 = true then ((rd? u3 1).bind fun u695 => (impl_matcher_has.f p0_0 p0_1 p0_2 p0_3 u695 x627 p3).bind fun u696 => some u696) else (some false)).bind fun (o : Bool) => match o with | x691 => (if x691 = true then ((some true).bind fun z => some (Lo.ret z)) else (impl_matcher_look.l2 p0_0 p0_1 p0_2 p0_3 p2 p3 u3 kf (IntKind.i64.wrap (x627 + 1))))) else (some (Lo.go ()))
def impl_matcher_look.f (p0_0 : List ((Int) × (List (Int)))) (p0_1 : List (List (Int))) (p0_2 : List (Int)) (p0_3 : List (List (List (Bool)))) (p1 : Int) (p2 : Int) (p3 : Int) : Option Bool := (rd? p0_1 p1).bind fun u3 => (rd? p0_0 p1).bind fun u7 => (if (u7.1 == 1) = true then ((some (p2 == p3)).bind fun z => some (Lo.ret z)) else (if (u7.1 == 2) = true then (if (p3 == (IntKind.i64.wrap (p2 + 1))) = true then ((rd? p0_0 p1).bind fun u252 => (rd? p0_2 p2).bind fun u254 => (impl_inSet.f u252.2 u254).bind fun u255 => (some u255).bind fun z => some (Lo.ret z)) else ((some false).bind fun z => some (Lo.ret z))) else (if (u7.1 == 4) = true then ((rd? u3 0).bind fun u259 => (impl_matcher_has.f p0_0 p0_1 p0_2 p0_3 u259 p2 p3).bind fun u260 => if u260 = true then ((some true).bind fun z => some (Lo.ret z)) else ((rd? u3 1).bind fun u262 => (impl_matcher_has.f p0_0 p0_1 p0_2 p0_3 u262 p2 p3).bind fun u263 => (some u263).bind fun z => some (Lo.ret z))) else (if (u7.1 == 5) = true then ((rd? u3 0).bind fun u267 => (impl_matcher_has.f p0_0 p0_1 p0_2 p0_3 u267 p2 p3).bind fun u268 => if u268 = true then ((rd? u3 1).bind fun u270 => (impl_matcher_has.f p0_0 p0_1 p0_2 p0_3 u270 p2 p3).bind fun u271 => (some u271).bind fun z => some (Lo.ret z)) else ((some false).bind fun z => some (Lo.ret z))) else (if (u7.1 == 7) = true then ((rd? u3 0).bind fun u275 => (impl_matcher_has.f p0_0 p0_1 p0_2 p0_3 u275 p2 p3).bind fun u276 => (some (!u276)).bind fun z => some (Lo.ret z)) else (if (u7.1 == 6) = true then (if (p2 == p3) = true then ((some true).bind fun z => some (Lo.ret z)) else ((impl_matcher_look.l1 p0_0 p0_1 p0_2 p0_3 p1 p2 p3 u3 (((p3) - (IntKind.i64.wrap (p2 + 1))).toNat + 2) (IntKind.i64.wrap (p2 + 1))).bind fun (o : Lo Unit (Lo Unit Bool)) => match o with | .go () => ((some false).bind fun z => some (Lo.ret z)) | .ret z => some z)) else (some (Lo.go ())))))))).bind fun (o : Lo Unit Bool) => match o with | .go () => ((impl_matcher_look.l2 p0_0 p0_1 p0_2 p0_3 p2 p3 u3 (((p3) - (p2)).toNat + 2) p2).bind fun (o : Lo Unit Bool) => match o with | .go () => (some false) | .ret z => some z) | .ret z => some z
def impl_matcher_look.post (sb s : St) (F0 : Fp) (bp0 : Nat) (A0_0p : Option Addr) (c0_0p : Nat) (p0_0 : List ((Int) × (List (Int)))) (A0_1p : Option Addr) (c0_1p : Nat) (p0_1 : List (List (Int))) (A0_2p : Option Addr) (c0_2p : Nat) (p0_2 : List (Int)) (A0_3p : Option Addr) (c0_3p : Nat) (p0_3 : List (List (List (Bool)))) (r : Bool) : Value → St → Prop := fun v s' => v = .bool r ∧ Hp sb s F0 s' [Ck.ov bp0 [.slice A0_0p p0_0.length c0_0p, .slice A0_1p p0_1.length c0_1p, .slice A0_2p p0_2.length c0_2p, .slice A0_3p p0_3.length c0_3p] 165]
set_option maxRecDepth 100000 in
set_option maxHeartbeats 4000000 in
theorem impl_matcher_look.ok (sb s : St) (F0 : Fp) (bp0 : Nat) (A0_0p : Option Addr) (c0_0p : Nat) (p0_0 : List ((Int) × (List (Int)))) (A0_1p : Option Addr) (c0_1p : Nat) (p0_1 : List (List (Int))) (A0_2p : Option Addr) (c0_2p : Nat) (p0_2 : List (Int)) (A0_3p : Option Addr) (c0_3p : Nat) (p0_3 : List (List (List (Bool)))) (p1 : Int) (p2 : Int) (p3 : Int) (HRp0_0 : Rd KS139 sb A0_0p c0_0p p0_0) (HRp0_1 : Rd (Kd.sl KI) sb A0_1p c0_1p p0_1) (HRp0_2 : Rd KI sb A0_2p c0_2p p0_2) (HRp0_3 : Rd (Kd.sl (Kd.sl Kd.bool)) sb A0_3p c0_3p p0_3) (hH : Hp sb s F0 s [Ck.ov bp0 [.slice A0_0p p0_0.length c0_0p, .slice A0_1p p0_1.length c0_1p, .slice A0_2p p0_2.length c0_2p, .slice A0_3p p0_3.length c0_3p] 165]) (r : Bool) (H : impl_matcher_look.f p0_0 p0_1 p0_2 p0_3 p1 p2 p3 = some r) : GCall Try.prog 217 #[.pointer (some ⟨bp0, 0, none⟩), .int .i64 p1, .int .i64 p2, .int .i64 p3] s (impl_matcher_look.post sb s F0 bp0 A0_0p c0_0p p0_0 A0_1p c0_1p p0_1 A0_2p c0_2p p0_2 A0_3p c0_3p p0_3 r) := by
 refine GCall_ofr (impl_matcher_look.post sb s F0 bp0 A0_0p c0_0p p0_0 A0_1p c0_1p p0_1 A0_2p c0_2p p0_2 A0_3p c0_3p p0_3) [.tmp 8] (ud [.pointer (some ⟨bp0, 0, none⟩), .int .i64 p1, .int .i64 p2, .int .i64 p3] 146) Try.func217 rfl rfl rfl fun w Q hQr hQn hQp => ?_
 replace H := topE H
 unfold impl_matcher_look.f at H
 dsimp only [ud, un]
 refine sr fun K1 hK1 => ag (HL_nil (hK1 _ _ ?_))
 dsimp only [putL, setL, evL, getL]
 refine sr fun K2 hK2 => mv (hc (o_nilck rfl (hc (o_faddr' (ft := 105) (off := 1) rfl Try.underlying165 rfl tI105 (by decide) ?_))))
 dsimp only [putL, setL, evL, getL]
 refine hc (o_load' rfl Try.underlying105 rfl (hH.hasv 0 rfl rfl) (mv ?_))
 replace H := headE H
 obtain ⟨u3, hu3, H⟩ := H
 obtain ⟨b3, o3, cs3, hr3, hh3, hel3⟩ := Rd.elb HRp0_1 hu3
 obtain ⟨A4, c4, rfl, D4⟩ := hr3
 refine hc (hel3 s rfl rfl Try.underlying105 tI24 ?_)
 dsimp only [putL, setL, evL, getL]
 refine hc (o_load' rfl Try.underlying24 rfl ((hh3 hH.bs.mono) 0 _ rfl) (ag (HL_nil (hK2 _ _ ?_))))
 dsimp only [putL, setL, evL, getL]
 refine HT_seq_k fun K5 hK5 => sr fun K6 hK6 => mv (hc (o_nilck rfl (hc (o_faddr' (ft := 57) (off := 0) rfl Try.underlying165 rfl tI57 (by decide) ?_))))
 dsimp only [putL, setL, evL, getL]
 refine hc (o_load' rfl Try.underlying57 rfl (hH.hasv 0 rfl rfl) (mv ?_))
 replace H := headE H
 obtain ⟨u7, hu7, H⟩ := H
 obtain ⟨b7, o7, cs7, hr7, hh7, hel7⟩ := Rd.elb HRp0_0 hu7
 obtain ⟨_, _, rfl, rfl, ⟨A8, c8, rfl, D8⟩⟩ := hr7
 refine hc (hel7 s rfl rfl Try.underlying57 tI139 ?_)
 dsimp only [putL, setL, evL, getL]
 refine hc (o_faddr' (ft := 3) (off := 0) rfl Try.underlying139 rfl tI3 (by decide) (hc (o_load' rfl Try.underlying3 rfl ((hh7 hH.bs.mono) 0 _ rfl) (HL_nil (hK6 _ _ ?_)))))
 dsimp only [putL, setL, evL, getL]
 refine joinH H fun G9 hG9 H => ?_
 refine HT_toK (fun l' s' => G9 (.go ()) = some r ∧ skim [0, 1, 0, 5] l' = ([.pointer (some ⟨bp0, 0, none⟩), .int .i64 p2, .int .i64 p3, .slice A4 u3.length c4], 141) ∧ Hp sb s F0 s' [Ck.ov bp0 [.slice A0_0p p0_0.length c0_0p, .slice A0_1p p0_1.length c0_1p, .slice A0_2p p0_2.length c0_2p, .slice A0_3p p0_3.length c0_3p] 165]) ?_ ?_
 ·intro K9 hK9
  refine HT_block (sr fun K245 hK245 => (bn rfl rfl rfl (ag (HL_nil (hK245 _ _ ?_)))))
  dsimp only [putL, setL, evL, getL]
  revert H
  refine ct rfl (fun hb246 H => ?_) (fun hb246 H => ?_)
  ·refine sr fun K247 hK247 => mv (mv (bn rfl rfl rfl ?_))
   dsimp only [putL, setL, evL, getL]
   refine ag (HL_nil (hK247 _ _ ?_))
   dsimp only [putL, setL, evL, getL]
   refine HT_ret ?_
   replace H := escH (fun z hz => hG9 _ hz) H
   exact hQr _ _ [.bool (p2 == p3)] _ ⟨rfl, trivial⟩ H ⟨rfl, hH⟩
  ·refine sr fun K248 hK248 => bn rfl rfl rfl (ag (HL_nil (hK248 _ _ ?_)))
   dsimp only [putL, setL, evL, getL]
   revert H
   refine ct rfl (fun hb249 H => ?_) (fun hb249 H => ?_)
   ·refine sx hMix fun K250 hK250 => ?_
    refine HX_lim (R := fun _ => True) (k := 0) (fun s' => Gro s s') 24 ?_
    have hR := Gro.refl s
    have hH0 := hH
    refine HK_readP 0 (v := .int .i64 p3) rfl (by kernel_rfl) hQp rfl (fun s' K hK => o_move hK) rfl rfl (fun _ => hR) ?_
    refine HK_readP 1 (v := .int .i64 p2) rfl (by kernel_rfl) hQp rfl (fun s' K hK => o_move hK) rfl rfl (fun _ => hR) ?_
    try dsimp only [putL, setL, evL, getL]
    refine HK_readP 2 (v := .int .i64 (IntKind.i64.wrap (p2 + 1))) rfl (by kernel_rfl) hQp rfl (fun s' K hK => o_bin rfl rfl rfl hK) rfl rfl (fun _ => hR) ?_
    refine HK_readP 3 (v := .bool (p3 == (IntKind.i64.wrap (p2 + 1)))) rfl (by kernel_rfl) hQp rfl (fun s' K hK => o_bin rfl rfl rfl hK) rfl rfl (fun _ => hR) ?_
    refine HK_readP 4 (v := .bool (p3 == (IntKind.i64.wrap (p2 + 1)))) rfl (by kernel_rfl) hQp rfl (fun s' K hK => o_move hK) rfl rfl (fun _ => hR) ?_
    revert H
    refine it (fun hb251 H => ?_) (fun hb251 H => ?_)
    ·refine HK_readP 5 (v := .pointer (some ⟨bp0, 0, none⟩)) rfl (by kernel_rfl) hQp (wantT (j := 4) (b := true) (t := 38) (c := p3 == (IntKind.i64.wrap (p2 + 1))) rfl rfl rfl rfl hb251) (fun s' K hK => o_move hK) rfl rfl (fun _ => hR) ?_
     try dsimp only [putL, setL, evL, getL]
     refine HK_readP 6 (v := .pointer (some ⟨bp0, 0, none⟩)) rfl (by kernel_rfl) hQp (wantT (j := 4) (b := true) (t := 38) (c := p3 == (IntKind.i64.wrap (p2 + 1))) rfl rfl rfl rfl hb251) (fun s' K hK => o_nilck rfl hK) rfl rfl (fun _ => hR) ?_
     refine HK_readP 7 (v := .pointer (some ⟨bp0, 0 + 0, none⟩)) rfl (by kernel_rfl) hQp (wantT (j := 4) (b := true) (t := 38) (c := p3 == (IntKind.i64.wrap (p2 + 1))) rfl rfl rfl rfl hb251) (fun s' K hK => o_faddr' (ft := 57) (off := 0) rfl Try.underlying165 rfl tI57 (by decide) hK) rfl rfl (fun _ => hR) ?_
     refine HK_read 8 (v := .slice A0_0p p0_0.length c0_0p) rfl (by kernel_rfl) hQp (wantT (j := 4) (b := true) (t := 38) (c := p3 == (IntKind.i64.wrap (p2 + 1))) rfl rfl rfl rfl hb251) (fun s' hR' K hK => o_load' rfl Try.underlying57 rfl (has_gro hR' (hH0.hasv 0 rfl rfl)) hK) rfl rfl hR ?_
     try dsimp only [putL, setL, evL, getL]
     refine HK_readP 9 (v := .int .i64 p1) rfl (by kernel_rfl) hQp (wantT (j := 4) (b := true) (t := 38) (c := p3 == (IntKind.i64.wrap (p2 + 1))) rfl rfl rfl rfl hb251) (fun s' K hK => o_move hK) rfl rfl (fun _ => hR) ?_
     replace H := headE H
     obtain ⟨u252, hu252, H⟩ := H
     obtain ⟨b252, o252, cs252, hr252, hh252, hel252⟩ := Rd.elb HRp0_0 hu252
     obtain ⟨_, _, rfl, rfl, ⟨A253, c253, rfl, D253⟩⟩ := hr252
     refine HK_readP 10 (v := .pointer (some ⟨b252, o252, none⟩)) rfl (by kernel_rfl) hQp (wantT (j := 4) (b := true) (t := 38) (c := p3 == (IntKind.i64.wrap (p2 + 1))) rfl rfl rfl rfl hb251) (fun s' K hK => hel252 s' rfl rfl Try.underlying57 tI139 hK) rfl rfl (fun _ => hR) ?_
     refine HK_readP 11 (v := .pointer (some ⟨b252, o252 + 1, none⟩)) rfl (by kernel_rfl) hQp (wantT (j := 4) (b := true) (t := 38) (c := p3 == (IntKind.i64.wrap (p2 + 1))) rfl rfl rfl rfl hb251) (fun s' K hK => o_faddr' (ft := 24) (off := 1) rfl Try.underlying139 rfl tI24 (by decide) hK) rfl rfl (fun _ => hR) ?_
     try dsimp only [putL, setL, evL, getL]
     refine HK_read 12 (v := .slice A253 u252.2.length c253) rfl (by kernel_rfl) hQp (wantT (j := 4) (b := true) (t := 38) (c := p3 == (IntKind.i64.wrap (p2 + 1))) rfl rfl rfl rfl hb251) (fun s' hR' K hK => o_load' rfl Try.underlying24 rfl ((hh252 (hH0.bs.mono.trans hR'.mono)) 1 _ rfl) hK) rfl rfl hR ?_
     refine HK_readP 13 (v := .pointer (some ⟨bp0, 0, none⟩)) rfl (by kernel_rfl) hQp (wantT (j := 4) (b := true) (t := 38) (c := p3 == (IntKind.i64.wrap (p2 + 1))) rfl rfl rfl rfl hb251) (fun s' K hK => o_move hK) rfl rfl (fun _ => hR) ?_
     refine HK_readP 14 (v := .pointer (some ⟨bp0, 0, none⟩)) rfl (by kernel_rfl) hQp (wantT (j := 4) (b := true) (t := 38) (c := p3 == (IntKind.i64.wrap (p2 + 1))) rfl rfl rfl rfl hb251) (fun s' K hK => o_nilck rfl hK) rfl rfl (fun _ => hR) ?_
     try dsimp only [putL, setL, evL, getL]
     refine HK_readP 15 (v := .pointer (some ⟨bp0, 0 + 2, none⟩)) rfl (by kernel_rfl) hQp (wantT (j := 4) (b := true) (t := 38) (c := p3 == (IntKind.i64.wrap (p2 + 1))) rfl rfl rfl rfl hb251) (fun s' K hK => o_faddr' (ft := 24) (off := 2) rfl Try.underlying165 rfl tI24 (by decide) hK) rfl rfl (fun _ => hR) ?_
     refine HK_read 16 (v := .slice A0_2p p0_2.length c0_2p) rfl (by kernel_rfl) hQp (wantT (j := 4) (b := true) (t := 38) (c := p3 == (IntKind.i64.wrap (p2 + 1))) rfl rfl rfl rfl hb251) (fun s' hR' K hK => o_load' rfl Try.underlying24 rfl (has_gro hR' (hH0.hasv 0 rfl rfl)) hK) rfl rfl hR ?_
     refine HK_readP 17 (v := .int .i64 p2) rfl (by kernel_rfl) hQp (wantT (j := 4) (b := true) (t := 38) (c := p3 == (IntKind.i64.wrap (p2 + 1))) rfl rfl rfl rfl hb251) (fun s' K hK => o_move hK) rfl rfl (fun _ => hR) ?_
     replace H := headE H
     obtain ⟨u254, hu254, H⟩ := H
     obtain ⟨b254, o254, cs254, hr254, hh254, hel254⟩ := Rd.elb HRp0_2 hu254
     obtain rfl := hr254
     try dsimp only [putL, setL, evL, getL]
     refine HK_readP 18 (v := .pointer (some ⟨b254, o254, none⟩)) rfl (by kernel_rfl) hQp (wantT (j := 4) (b := true) (t := 38) (c := p3 == (IntKind.i64.wrap (p2 + 1))) rfl rfl rfl rfl hb251) (fun s' K hK => hel254 s' rfl rfl Try.underlying24 tI3 hK) rfl rfl (fun _ => hR) ?_
     refine HK_read 19 (v := .int .i64 u254) rfl (by kernel_rfl) hQp (wantT (j := 4) (b := true) (t := 38) (c := p3 == (IntKind.i64.wrap (p2 + 1))) rfl rfl rfl rfl hb251) (fun s' hR' K hK => o_load' rfl Try.underlying3 rfl ((hh254 (hH0.bs.mono.trans hR'.mono)) 0 _ rfl) hK) rfl rfl hR ?_
     refine HK_more [20] (by kernel_rfl) rfl (fun _ => hR) ⟨⟨_, rfl, Or.inl ⟨(wantT (j := 4) (b := true) (t := 38) (c := p3 == (IntKind.i64.wrap (p2 + 1))) rfl rfl rfl rfl hb251), ?_⟩⟩, trivial⟩
     replace H := headE H
     obtain ⟨u255, hu255, H⟩ := H
     skip
     refine o_call (args := #[.slice A253 u252.2.length c253, .int .i64 u254]) Try.func205 rfl rfl rfl (impl_inSet.ok sb s no A253 c253 u252.2 u254 D253 (Hp.own hH.bs) _ hu255) ?_
     rintro _ s255 ⟨rfl, hD⟩
     replace hR := hR.trans hD.gro
     replace hH := hH.back0 hD (Up.refl _ _ _)
     clear hD
     try dsimp only [putL, setL, evL, getL]
     refine HK_readP 21 (v := .bool u255) rfl (by kernel_rfl) hQp rfl (fun s' K hK => o_pickT rfl hb251 hK) rfl rfl (fun _ => hR) ?_
     refine HK_more [22] (by kernel_rfl) rfl (fun _ => hR) ⟨⟨_, rfl, Or.inl ⟨rfl, ?_⟩⟩, trivial⟩
     skip
     refine o_assign ?_
     refine HK_done (fun _ => hR) (by kernel_rfl) ?_
     refine hK250 _ _ ?_
     try dsimp only [putL, setL, evL, getL]
     refine HT_ret ?_
     replace H := escH (fun z hz => hG9 _ hz) H
     exact hQr _ _ [.bool u255] _ ⟨rfl, trivial⟩ H ⟨rfl, hH⟩
    ·refine HK_passP 5 rfl (by kernel_rfl) (fun c l s h => hQp c l s h) ?_ (fun _ => hR) ?_
     ·exact wantF (j := 4) (b := true) (t := 38) (c := p3 == (IntKind.i64.wrap (p2 + 1))) rfl rfl rfl rfl hb251
     refine HK_passP 6 rfl (by kernel_rfl) (fun c l s h => hQp c l s h) ?_ (fun _ => hR) ?_
     ·exact wantF (j := 4) (b := true) (t := 38) (c := p3 == (IntKind.i64.wrap (p2 + 1))) rfl rfl rfl rfl hb251
     refine HK_passP 7 rfl (by kernel_rfl) (fun c l s h => hQp c l s h) ?_ (fun _ => hR) ?_
     ·exact wantF (j := 4) (b := true) (t := 38) (c := p3 == (IntKind.i64.wrap (p2 + 1))) rfl rfl rfl rfl hb251
     try dsimp only [putL, setL, evL, getL]
     refine HK_passP 8 rfl (by kernel_rfl) (fun c l s h => hQp c l s h) ?_ (fun _ => hR) ?_
     ·exact wantF (j := 4) (b := true) (t := 38) (c := p3 == (IntKind.i64.wrap (p2 + 1))) rfl rfl rfl rfl hb251
     refine HK_passP 9 rfl (by kernel_rfl) (fun c l s h => hQp c l s h) ?_ (fun _ => hR) ?_
     ·exact wantF (j := 4) (b := true) (t := 38) (c := p3 == (IntKind.i64.wrap (p2 + 1))) rfl rfl rfl rfl hb251
     refine HK_passP 10 rfl (by kernel_rfl) (fun c l s h => hQp c l s h) ?_ (fun _ => hR) ?_
     ·exact wantF (j := 4) (b := true) (t := 38) (c := p3 == (IntKind.i64.wrap (p2 + 1))) rfl rfl rfl rfl hb251
     try dsimp only [putL, setL, evL, getL]
     refine HK_passP 11 rfl (by kernel_rfl) (fun c l s h => hQp c l s h) ?_ (fun _ => hR) ?_
     ·exact wantF (j := 4) (b := true) (t := 38) (c := p3 == (IntKind.i64.wrap (p2 + 1))) rfl rfl rfl rfl hb251
     refine HK_passP 12 rfl (by kernel_rfl) (fun c l s h => hQp c l s h) ?_ (fun _ => hR) ?_
     ·exact wantF (j := 4) (b := true) (t := 38) (c := p3 == (IntKind.i64.wrap (p2 + 1))) rfl rfl rfl rfl hb251
     refine HK_passP 13 rfl (by kernel_rfl) (fun c l s h => hQp c l s h) ?_ (fun _ => hR) ?_
     ·exact wantF (j := 4) (b := true) (t := 38) (c := p3 == (IntKind.i64.wrap (p2 + 1))) rfl rfl rfl rfl hb251
     try dsimp only [putL, setL, evL, getL]
     refine HK_passP 14 rfl (by kernel_rfl) (fun c l s h => hQp c l s h) ?_ (fun _ => hR) ?_
     ·exact wantF (j := 4) (b := true) (t := 38) (c := p3 == (IntKind.i64.wrap (p2 + 1))) rfl rfl rfl rfl hb251
     refine HK_passP 15 rfl (by kernel_rfl) (fun c l s h => hQp c l s h) ?_ (fun _ => hR) ?_
     ·exact wantF (j := 4) (b := true) (t := 38) (c := p3 == (IntKind.i64.wrap (p2 + 1))) rfl rfl rfl rfl hb251
     refine HK_passP 16 rfl (by kernel_rfl) (fun c l s h => hQp c l s h) ?_ (fun _ => hR) ?_
     ·exact wantF (j := 4) (b := true) (t := 38) (c := p3 == (IntKind.i64.wrap (p2 + 1))) rfl rfl rfl rfl hb251
     try dsimp only [putL, setL, evL, getL]
     refine HK_passP 17 rfl (by kernel_rfl) (fun c l s h => hQp c l s h) ?_ (fun _ => hR) ?_
     ·exact wantF (j := 4) (b := true) (t := 38) (c := p3 == (IntKind.i64.wrap (p2 + 1))) rfl rfl rfl rfl hb251
     refine HK_passP 18 rfl (by kernel_rfl) (fun c l s h => hQp c l s h) ?_ (fun _ => hR) ?_
     ·exact wantF (j := 4) (b := true) (t := 38) (c := p3 == (IntKind.i64.wrap (p2 + 1))) rfl rfl rfl rfl hb251
     refine HK_passP 19 rfl (by kernel_rfl) (fun c l s h => hQp c l s h) ?_ (fun _ => hR) ?_
     ·exact wantF (j := 4) (b := true) (t := 38) (c := p3 == (IntKind.i64.wrap (p2 + 1))) rfl rfl rfl rfl hb251
     try dsimp only [putL, setL, evL, getL]
     refine HK_passP 20 rfl (by kernel_rfl) (fun c l s h => hQp c l s h) ?_ (fun _ => hR) ?_
     ·exact wantF (j := 4) (b := true) (t := 38) (c := p3 == (IntKind.i64.wrap (p2 + 1))) rfl rfl rfl rfl hb251
     refine HK_readP 21 (v := .bool false) rfl (by kernel_rfl) hQp rfl (fun s' K hK => o_pickF rfl hb251 hK) rfl rfl (fun _ => hR) ?_
     refine HK_more [22] (by kernel_rfl) rfl (fun _ => hR) ⟨⟨_, rfl, Or.inl ⟨rfl, ?_⟩⟩, trivial⟩
     skip
     refine o_assign ?_
     try dsimp only [putL, setL, evL, getL]
     refine HK_done (fun _ => hR) (by kernel_rfl) ?_
     refine hK250 _ _ ?_
     try dsimp only [putL, setL, evL, getL]
     refine HT_ret ?_
     replace H := escH (fun z hz => hG9 _ hz) H
     exact hQr _ _ [.bool false] _ ⟨rfl, trivial⟩ H ⟨rfl, hH⟩
   ·refine sr fun K256 hK256 => bn rfl rfl rfl (ag (HL_nil (hK256 _ _ ?_)))
    dsimp only [putL, setL, evL, getL]
    revert H
    refine ct rfl (fun hb257 H => ?_) (fun hb257 H => ?_)
    ·refine sr fun K258 hK258 => mv (mv ?_)
     replace H := headE H
     obtain ⟨u259, hu259, H⟩ := H
     obtain ⟨b259, o259, cs259, hr259, hh259, hel259⟩ := Rd.elb D4 hu259
     obtain rfl := hr259
     refine hc (hel259 s rfl rfl Try.underlying24 tI3 ?_)
     dsimp only [putL, setL, evL, getL]
     refine hc (o_load' rfl Try.underlying3 rfl ((hh259 hH.bs.mono) 0 _ rfl) (mv (mv ?_)))
     replace H := headE H
     obtain ⟨u260, hu260, H⟩ := H
     obtain ⟨F1, hA, hB⟩ := hH.take [0] (by decide)
     dsimp only [addC, setC, rmC, selC, getC] at hA
     try dsimp only [putL, setL, evL, getL]
     refine hc (o_call (args := #[.pointer (some ⟨bp0, 0, none⟩), .int .i64 u259, .int .i64 p2, .int .i64 p3]) Try.func178 rfl rfl rfl (impl_matcher_has.ok sb s F1 bp0 A0_0p c0_0p p0_0 A0_1p c0_1p p0_1 A0_2p c0_2p p0_2 A0_3p c0_3p p0_3 u259 p2 p3 HRp0_0 HRp0_1 HRp0_2 HRp0_3 hA _ hu260) ?_)
     rintro _ s260 ⟨rfl, hD⟩
     replace hH := hB _ _ _ (Up.refl _ _ _) hD
     clear hD hA hB
     refine mv ?_
     revert H
     refine it (fun hb261 H => ?_) (fun hb261 H => ?_)
     ·refine wf rfl rfl rfl rfl hb261 ?_
      dsimp only [putL, setL, evL, getL]
      refine wf rfl rfl rfl rfl hb261 (wf rfl rfl rfl rfl hb261 (wf rfl rfl rfl rfl hb261 ?_))
      dsimp only [putL, setL, evL, getL]
      refine wf rfl rfl rfl rfl hb261 (wf rfl rfl rfl rfl hb261 (wf rfl rfl rfl rfl hb261 ?_))
      dsimp only [putL, setL, evL, getL]
      refine hc (o_pickT rfl hb261 (ag (HL_nil (hK258 _ _ ?_))))
      dsimp only [putL, setL, evL, getL]
      refine HT_ret ?_
      replace H := escH (fun z hz => hG9 _ hz) H
      exact hQr _ _ [.bool true] _ ⟨rfl, trivial⟩ H ⟨rfl, hH.sel [1] (by decide)⟩
     ·refine wt rfl rfl rfl rfl hb261 (o_move (wt rfl rfl rfl rfl hb261 (o_move ?_)))
      replace H := headE H
      obtain ⟨u262, hu262, H⟩ := H
      obtain ⟨b262, o262, cs262, hr262, hh262, hel262⟩ := Rd.elb D4 hu262
      obtain rfl := hr262
      refine wt rfl rfl rfl rfl hb261 (hel262 s260 rfl rfl Try.underlying24 tI3 ?_)
      dsimp only [putL, setL, evL, getL]
      refine wt rfl rfl rfl rfl hb261 (o_load' rfl Try.underlying3 rfl ((hh262 hH.bs.mono) 0 _ rfl) (wt rfl rfl rfl rfl hb261 (o_move (wt rfl rfl rfl rfl hb261 (o_move ?_)))))
      replace H := headE H
      obtain ⟨u263, hu263, H⟩ := H
      obtain ⟨F1, hA, hB⟩ := hH.take [1] (by decide)
      dsimp only [addC, setC, rmC, selC, getC] at hA
      try dsimp only [putL, setL, evL, getL]
      refine wt rfl rfl rfl rfl hb261 (o_call (args := #[.pointer (some ⟨bp0, 0, none⟩), .int .i64 u262, .int .i64 p2, .int .i64 p3]) Try.func178 rfl rfl rfl (impl_matcher_has.ok sb s260 F1 bp0 A0_0p c0_0p p0_0 A0_1p c0_1p p0_1 A0_2p c0_2p p0_2 A0_3p c0_3p p0_3 u262 p2 p3 HRp0_0 HRp0_1 HRp0_2 HRp0_3 hA _ hu263) ?_)
      rintro _ s263 ⟨rfl, hD⟩
      replace hH := hB _ _ _ (Up.refl _ _ _) hD
      clear hD hA hB
      refine hc (o_pickF rfl hb261 (ag (HL_nil (hK258 _ _ ?_))))
      dsimp only [putL, setL, evL, getL]
      refine HT_ret ?_
      replace H := escH (fun z hz => hG9 _ hz) H
      exact hQr _ _ [.bool u263] _ ⟨rfl, trivial⟩ H ⟨rfl, hH.sel [2] (by decide)⟩
    ·refine sr fun K264 hK264 => bn rfl rfl rfl (ag (HL_nil (hK264 _ _ ?_)))
     dsimp only [putL, setL, evL, getL]
     revert H
     refine ct rfl (fun hb265 H => ?_) (fun hb265 H => ?_)
     ·refine sr fun K266 hK266 => mv (mv ?_)
      replace H := headE H
      obtain ⟨u267, hu267, H⟩ := H
      obtain ⟨b267, o267, cs267, hr267, hh267, hel267⟩ := Rd.elb D4 hu267
      obtain rfl := hr267
      refine hc (hel267 s rfl rfl Try.underlying24 tI3 ?_)
      dsimp only [putL, setL, evL, getL]
      refine hc (o_load' rfl Try.underlying3 rfl ((hh267 hH.bs.mono) 0 _ rfl) (mv (mv ?_)))
      replace H := headE H
      obtain ⟨u268, hu268, H⟩ := H
      obtain ⟨F1, hA, hB⟩ := hH.take [0] (by decide)
      dsimp only [addC, setC, rmC, selC, getC] at hA
      try dsimp only [putL, setL, evL, getL]
      refine hc (o_call (args := #[.pointer (some ⟨bp0, 0, none⟩), .int .i64 u267, .int .i64 p2, .int .i64 p3]) Try.func178 rfl rfl rfl (impl_matcher_has.ok sb s F1 bp0 A0_0p c0_0p p0_0 A0_1p c0_1p p0_1 A0_2p c0_2p p0_2 A0_3p c0_3p p0_3 u267 p2 p3 HRp0_0 HRp0_1 HRp0_2 HRp0_3 hA _ hu268) ?_)
      rintro _ s268 ⟨rfl, hD⟩
      replace hH := hB _ _ _ (Up.refl _ _ _) hD
      clear hD hA hB
      refine mv ?_
      revert H
      refine it (fun hb269 H => ?_) (fun hb269 H => ?_)
      ·refine wt rfl rfl rfl rfl hb269 (o_move ?_)
       dsimp only [putL, setL, evL, getL]
       refine wt rfl rfl rfl rfl hb269 (o_move ?_)
       replace H := headE H
       obtain ⟨u270, hu270, H⟩ := H
       obtain ⟨b270, o270, cs270, hr270, hh270, hel270⟩ := Rd.elb D4 hu270
       obtain rfl := hr270
       refine wt rfl rfl rfl rfl hb269 (hel270 s268 rfl rfl Try.underlying24 tI3 (wt rfl rfl rfl rfl hb269 (o_load' rfl Try.underlying3 rfl ((hh270 hH.bs.mono) 0 _ rfl) ?_)))
       dsimp only [putL, setL, evL, getL]
       refine wt rfl rfl rfl rfl hb269 (o_move (wt rfl rfl rfl rfl hb269 (o_move ?_)))
       replace H := headE H
       obtain ⟨u271, hu271, H⟩ := H
       obtain ⟨F1, hA, hB⟩ := hH.take [1] (by decide)
       dsimp only [addC, setC, rmC, selC, getC] at hA
       refine wt rfl rfl rfl rfl hb269 (o_call (args := #[.pointer (some ⟨bp0, 0, none⟩), .int .i64 u270, .int .i64 p2, .int .i64 p3]) Try.func178 rfl rfl rfl (impl_matcher_has.ok sb s268 F1 bp0 A0_0p c0_0p p0_0 A0_1p c0_1p p0_1 A0_2p c0_2p p0_2 A0_3p c0_3p p0_3 u270 p2 p3 HRp0_0 HRp0_1 HRp0_2 HRp0_3 hA _ hu271) ?_)
       rintro _ s271 ⟨rfl, hD⟩
       replace hH := hB _ _ _ (Up.refl _ _ _) hD
       clear hD hA hB
       try dsimp only [putL, setL, evL, getL]
       refine hc (o_pickT rfl hb269 (ag (HL_nil (hK266 _ _ ?_))))
       dsimp only [putL, setL, evL, getL]
       refine HT_ret ?_
       replace H := escH (fun z hz => hG9 _ hz) H
       exact hQr _ _ [.bool u271] _ ⟨rfl, trivial⟩ H ⟨rfl, hH.sel [2] (by decide)⟩
      ·refine wf rfl rfl rfl rfl hb269 (wf rfl rfl rfl rfl hb269 (wf rfl rfl rfl rfl hb269 ?_))
       dsimp only [putL, setL, evL, getL]
       refine wf rfl rfl rfl rfl hb269 (wf rfl rfl rfl rfl hb269 (wf rfl rfl rfl rfl hb269 ?_))
       dsimp only [putL, setL, evL, getL]
       refine wf rfl rfl rfl rfl hb269 (hc (o_pickF rfl hb269 (ag (HL_nil (hK266 _ _ ?_)))))
       dsimp only [putL, setL, evL, getL]
       refine HT_ret ?_
       replace H := escH (fun z hz => hG9 _ hz) H
       exact hQr _ _ [.bool false] _ ⟨rfl, trivial⟩ H ⟨rfl, hH.sel [1] (by decide)⟩
     ·refine sr fun K272 hK272 => bn rfl rfl rfl (ag (HL_nil (hK272 _ _ ?_)))
      dsimp only [putL, setL, evL, getL]
      revert H
      refine ct rfl (fun hb273 H => ?_) (fun hb273 H => ?_)
      ·refine sr fun K274 hK274 => mv (mv ?_)
       replace H := headE H
       obtain ⟨u275, hu275, H⟩ := H
       obtain ⟨b275, o275, cs275, hr275, hh275, hel275⟩ := Rd.elb D4 hu275
       obtain rfl := hr275
       refine hc (hel275 s rfl rfl Try.underlying24 tI3 ?_)
       dsimp only [putL, setL, evL, getL]
       refine hc (o_load' rfl Try.underlying3 rfl ((hh275 hH.bs.mono) 0 _ rfl) (mv (mv ?_)))
       replace H := headE H
       obtain ⟨u276, hu276, H⟩ := H
       obtain ⟨F1, hA, hB⟩ := hH.take [0] (by decide)
       dsimp only [addC, setC, rmC, selC, getC] at hA
       try dsimp only [putL, setL, evL, getL]
       refine hc (o_call (args := #[.pointer (some ⟨bp0, 0, none⟩), .int .i64 u275, .int .i64 p2, .int .i64 p3]) Try.func178 rfl rfl rfl (impl_matcher_has.ok sb s F1 bp0 A0_0p c0_0p p0_0 A0_1p c0_1p p0_1 A0_2p c0_2p p0_2 A0_3p c0_3p p0_3 u275 p2 p3 HRp0_0 HRp0_1 HRp0_2 HRp0_3 hA _ hu276) ?_)
       rintro _ s276 ⟨rfl, hD⟩
       replace hH := hB _ _ _ (Up.refl _ _ _) hD
       clear hD hA hB
       refine hc (o_not rfl (ag (HL_nil (hK274 _ _ ?_))))
       dsimp only [putL, setL, evL, getL]
       refine HT_ret ?_
       replace H := escH (fun z hz => hG9 _ hz) H
       exact hQr _ _ [.bool (!u276)] _ ⟨rfl, trivial⟩ H ⟨rfl, hH.sel [1] (by decide)⟩
      ·refine sr fun K277 hK277 => bn rfl rfl rfl (ag (HL_nil (hK277 _ _ ?_)))
       dsimp only [putL, setL, evL, getL]
       revert H
       refine ct rfl (fun hb278 H => ?_) (fun hb278 H => ?_)
       ·refine HT_seq_k fun K279 hK279 => sr fun K280 hK280 => mv (mv (bn rfl rfl rfl (HL_nil (hK280 _ _ ?_))))
        dsimp only [putL, setL, evL, getL]
        revert H
        refine ct rfl (fun hb281 H => ?_) (fun hb281 H => ?_)
        ·refine sr fun K282 hK282 => ag (HL_nil (hK282 _ _ ?_))
         dsimp only [putL, setL, evL, getL]
         refine HT_ret ?_
         replace H := escH (fun z hz => hG9 _ hz) H
         exact hQr _ _ [.bool true] _ ⟨rfl, trivial⟩ H ⟨rfl, hH⟩
        ·refine HT_skip (hK279 _ _ (HT_seq_k fun K283 hK283 => (sr fun K284 hK284 => (mv (bn rfl rfl rfl (ag (HL_nil (hK284 _ _ ?_))))))))
         dsimp only [putL, setL, evL, getL]
         refine joinH H fun G285 hG285 H => ?_
         refine HT_toK (fun l' s' => G285 (.go ()) = some r ∧ skim [] l' = ([], 151) ∧ Hp sb s F0 s' [Ck.ov bp0 [.slice A0_0p p0_0.length c0_0p, .slice A0_1p p0_1.length c0_1p, .slice A0_2p p0_2.length c0_2p, .slice A0_3p p0_3.length c0_3p] 165]) ?_ ?_
         ·intro K285 hK285
          refine HT_block ?_
          refine HT_loopK (fun kf l' s' => ∃ (x413 : Int), (impl_matcher_look.l1 p0_0 p0_1 p0_2 p0_3 p1 p2 p3 u3 kf x413).bind G285 = some r ∧ skim [0, 0, 0, 0, 5, 0] l' = ([.pointer (some ⟨bp0, 0, none⟩), .int .i64 p1, .int .i64 p2, .int .i64 p3, .slice A4 u3.length c4, .int .i64 x413], 140) ∧ Hp sb s F0 s' [Ck.ov bp0 [.slice A0_0p p0_0.length c0_0p, .slice A0_1p p0_1.length c0_1p, .slice A0_2p p0_2.length c0_2p, .slice A0_3p p0_3.length c0_3p] 165]) (((p3) - (IntKind.i64.wrap (p2 + 1))).toNat + 2) ⟨IntKind.i64.wrap (p2 + 1), H, rfl, hH⟩ ?_
          rintro kf l' s446 ⟨x413, H, hl, hH⟩ K446 hK446
          revert l'
          refine skA ?_
          dsimp only [Al, Sk]
          intros
          cases kf with
          | zero => simp [impl_matcher_look.l1] at H
          | succ kf =>
           rw [impl_matcher_look.l1] at H
           refine HT_seq_k fun K447 hK447 => sr fun K448 hK448 => mv (mv (bn rfl rfl rfl (HL_nil (hK448 _ _ ?_))))
           dsimp only [putL, setL, evL, getL]
           revert H
           refine ct rfl (fun hb449 H => ?_) (fun hb449 H => ?_)
           ·refine HT_skip (hK447 _ _ (HT_seq_k fun K464 hK464 => (HT_block ?_)))
            refine joinH H fun G465 hG465 H => ?_
            refine HT_joinK (fun l' s' => ∃ (x470 : Bool), G465 x470 = some r ∧ skim [0, 0, 0, 0, 5, 0, 116] l' = ([.pointer (some ⟨bp0, 0, none⟩), .int .i64 p1, .int .i64 p2, .int .i64 p3, .slice A4 u3.length c4, .int .i64 x413, .bool x470], 23) ∧ Hp sb s F0 s' [Ck.ov bp0 [.slice A0_0p p0_0.length c0_0p, .slice A0_1p p0_1.length c0_1p, .slice A0_2p p0_2.length c0_2p, .slice A0_3p p0_3.length c0_3p] 165]) ?_ ?_
            ·intro K465 hK465
             refine HT_region ?_
             refine mv (mv ?_)
             replace H := headE H
             obtain ⟨u471, hu471, H⟩ := H
             obtain ⟨b471, o471, cs471, hr471, hh471, hel471⟩ := Rd.elb D4 hu471
             obtain rfl := hr471
             refine hc (hel471 s446 rfl rfl Try.underlying24 tI3 ?_)
             dsimp only [putL, setL, evL, getL]
             refine hc (o_load' rfl Try.underlying3 rfl ((hh471 hH.bs.mono) 0 _ rfl) (mv (mv ?_)))
             replace H := headE H
             obtain ⟨u472, hu472, H⟩ := H
             obtain ⟨F1, hA, hB⟩ := hH.take [0] (by decide)
             dsimp only [addC, setC, rmC, selC, getC] at hA
             try dsimp only [putL, setL, evL, getL]
             refine hc (o_call (args := #[.pointer (some ⟨bp0, 0, none⟩), .int .i64 u471, .int .i64 p2, .int .i64 x413]) Try.func178 rfl rfl rfl (impl_matcher_has.ok sb s446 F1 bp0 A0_0p c0_0p p0_0 A0_1p c0_1p p0_1 A0_2p c0_2p p0_2 A0_3p c0_3p p0_3 u471 p2 x413 HRp0_0 HRp0_1 HRp0_2 HRp0_3 hA _ hu472) ?_)
             rintro _ s472 ⟨rfl, hD⟩
             replace hH := hB _ _ _ (Up.refl _ _ _) hD
             clear hD hA hB
             refine mv ?_
             revert H
             refine it (fun hb473 H => ?_) (fun hb473 H => ?_)
             ·refine wt rfl rfl rfl rfl hb473 (o_move ?_)
              dsimp only [putL, setL, evL, getL]
              refine wt rfl rfl rfl rfl hb473 (o_move (wt rfl rfl rfl rfl hb473 (o_move (wt rfl rfl rfl rfl hb473 (o_move ?_)))))
              replace H := headE H
              obtain ⟨u474, hu474, H⟩ := H
              obtain ⟨F1, hA, hB⟩ := hH.take [1] (by decide)
              dsimp only [addC, setC, rmC, selC, getC] at hA
              try dsimp only [putL, setL, evL, getL]
              refine wt rfl rfl rfl rfl hb473 (o_call (args := #[.pointer (some ⟨bp0, 0, none⟩), .int .i64 p1, .int .i64 x413, .int .i64 p3]) Try.func178 rfl rfl rfl (impl_matcher_has.ok sb s472 F1 bp0 A0_0p c0_0p p0_0 A0_1p c0_1p p0_1 A0_2p c0_2p p0_2 A0_3p c0_3p p0_3 p1 x413 p3 HRp0_0 HRp0_1 HRp0_2 HRp0_3 hA _ hu474) ?_)
              rintro _ s474 ⟨rfl, hD⟩
              replace hH := hB _ _ _ (Up.refl _ _ _) hD
              clear hD hA hB
              refine hc (o_pickT rfl hb473 (HL_nil ?_))
              exact hK465 _ _ ⟨u474, H, rfl, hH.sel [2] (by decide)⟩
             ·refine wf rfl rfl rfl rfl hb473 ?_
              dsimp only [putL, setL, evL, getL]
              refine wf rfl rfl rfl rfl hb473 (wf rfl rfl rfl rfl hb473 (wf rfl rfl rfl rfl hb473 ?_))
              dsimp only [putL, setL, evL, getL]
              refine wf rfl rfl rfl rfl hb473 (hc (o_pickF rfl hb473 (HL_nil ?_)))
              exact hK465 _ _ ⟨false, H, rfl, hH.sel [1] (by decide)⟩
            ·rintro l' s475 ⟨x470, H, hl, hH⟩
             revert l'
             refine skA ?_
             dsimp only [Al, Sk]
             intros
             replace H := hG465 _ H
             try dsimp only at H
             revert H
             refine ct rfl (fun hb476 H => ?_) (fun hb476 H => ?_)
             ·refine sr fun K477 hK477 => ag (HL_nil (hK477 _ _ ?_))
              dsimp only [putL, setL, evL, getL]
              refine HT_ret ?_
              replace H := escH (fun z hz => hG285 _ hz) H
              replace H := escH (fun z hz => hG9 _ hz) H
              exact hQr _ _ [.bool true] _ ⟨rfl, trivial⟩ H ⟨rfl, hH⟩
             ·refine HT_skip (hK464 _ _ ?_)
              refine HT_region ?_
              refine mv (bn rfl rfl rfl (ag (HL_nil ?_)))
              exact hK446 _ _ ⟨kf, Nat.lt_succ_self kf, IntKind.i64.wrap (x413 + 1), H, rfl, hH⟩
           ·refine HT_exit ?_
            exact hK285 _ _ ⟨H, rfl, hH⟩
         ·rintro l' s478 ⟨H, hl, hH⟩
          revert l'
          refine skA ?_
          dsimp only [Al, Sk]
          intros
          replace H := hG285 _ H
          try dsimp only at H
          refine hK283 _ _ ?_
          refine sr fun K479 hK479 => ?_
          try dsimp only [putL, setL, evL, getL]
          refine ag (HL_nil (hK479 _ _ ?_))
          dsimp only [putL, setL, evL, getL]
          refine HT_ret ?_
          replace H := escH (fun z hz => hG9 _ hz) H
          exact hQr _ _ [.bool false] _ ⟨rfl, trivial⟩ H ⟨rfl, hH⟩
       ·refine HT_skip ?_
        exact hK9 _ _ ⟨H, rfl, hH⟩
 ·rintro l' s480 ⟨H, hl, hH⟩
  revert l'
  refine skA ?_
  dsimp only [Al, Sk]
  intros
  replace H := hG9 _ H
  try dsimp only at H
  refine hK5 _ _ ?_
  refine HT_seq_k fun K481 hK481 => sr fun K482 hK482 => mv (ag (HL_nil (hK482 _ _ ?_)))
  dsimp only [putL, setL, evL, getL]
  refine joinH H fun G483 hG483 H => ?_
  refine HT_toK (fun l' s' => G483 (.go ()) = some r ∧ skim [] l' = ([], 151) ∧ Hp sb s F0 s' [Ck.ov bp0 [.slice A0_0p p0_0.length c0_0p, .slice A0_1p p0_1.length c0_1p, .slice A0_2p p0_2.length c0_2p, .slice A0_3p p0_3.length c0_3p] 165]) ?_ ?_
  ·intro K483 hK483
   refine HT_block ?_
   refine HT_loopK (fun kf l' s' => ∃ (x627 : Int), (impl_matcher_look.l2 p0_0 p0_1 p0_2 p0_3 p2 p3 u3 kf x627).bind G483 = some r ∧ skim [0, 1, 0, 5, 1] l' = ([.pointer (some ⟨bp0, 0, none⟩), .int .i64 p2, .int .i64 p3, .slice A4 u3.length c4, .int .i64 x627], 139) ∧ Hp sb s F0 s' [Ck.ov bp0 [.slice A0_0p p0_0.length c0_0p, .slice A0_1p p0_1.length c0_1p, .slice A0_2p p0_2.length c0_2p, .slice A0_3p p0_3.length c0_3p] 165]) (((p3) - (p2)).toNat + 2) ⟨p2, H, rfl, hH⟩ ?_
   rintro kf l' s664 ⟨x627, H, hl, hH⟩ K664 hK664
   revert l'
   refine skA ?_
   dsimp only [Al, Sk]
   intros
   cases kf with
   | zero => simp [impl_matcher_look.l2] at H
   | succ kf =>
    rw [impl_matcher_look.l2] at H
    refine HT_seq_k fun K665 hK665 => sr fun K666 hK666 => mv (mv (bn rfl rfl rfl (HL_nil (hK666 _ _ ?_))))
    dsimp only [putL, setL, evL, getL]
    revert H
    refine ct rfl (fun hb667 H => ?_) (fun hb667 H => ?_)
    ·refine HT_skip (hK665 _ _ (HT_seq_k fun K684 hK684 => (HT_block ?_)))
     refine joinH H fun G685 hG685 H => ?_
     refine HT_joinK (fun l' s' => ∃ (x691 : Bool), G685 x691 = some r ∧ skim [0, 1, 0, 5, 1, 137] l' = ([.pointer (some ⟨bp0, 0, none⟩), .int .i64 p2, .int .i64 p3, .slice A4 u3.length c4, .int .i64 x627, .bool x691], 1) ∧ Hp sb s F0 s' [Ck.ov bp0 [.slice A0_0p p0_0.length c0_0p, .slice A0_1p p0_1.length c0_1p, .slice A0_2p p0_2.length c0_2p, .slice A0_3p p0_3.length c0_3p] 165]) ?_ ?_
     ·intro K685 hK685
      refine HT_region ?_
      refine mv (mv ?_)
      replace H := headE H
      obtain ⟨u692, hu692, H⟩ := H
      obtain ⟨b692, o692, cs692, hr692, hh692, hel692⟩ := Rd.elb D4 hu692
      obtain rfl := hr692
      refine hc (hel692 s664 rfl rfl Try.underlying24 tI3 ?_)
      dsimp only [putL, setL, evL, getL]
      refine hc (o_load' rfl Try.underlying3 rfl ((hh692 hH.bs.mono) 0 _ rfl) (mv (mv ?_)))
      replace H := headE H
      obtain ⟨u693, hu693, H⟩ := H
      obtain ⟨F1, hA, hB⟩ := hH.take [0] (by decide)
      dsimp only [addC, setC, rmC, selC, getC] at hA
      try dsimp only [putL, setL, evL, getL]
      refine hc (o_call (args := #[.pointer (some ⟨bp0, 0, none⟩), .int .i64 u692, .int .i64 p2, .int .i64 x627]) Try.func178 rfl rfl rfl (impl_matcher_has.ok sb s664 F1 bp0 A0_0p c0_0p p0_0 A0_1p c0_1p p0_1 A0_2p c0_2p p0_2 A0_3p c0_3p p0_3 u692 p2 x627 HRp0_0 HRp0_1 HRp0_2 HRp0_3 hA _ hu693) ?_)
      rintro _ s693 ⟨rfl, hD⟩
      replace hH := hB _ _ _ (Up.refl _ _ _) hD
      clear hD hA hB
      refine mv ?_
      revert H
      refine it (fun hb694 H => ?_) (fun hb694 H => ?_)
      ·refine wt rfl rfl rfl rfl hb694 (o_move ?_)
       dsimp only [putL, setL, evL, getL]
       refine wt rfl rfl rfl rfl hb694 (o_move ?_)
       replace H := headE H
       obtain ⟨u695, hu695, H⟩ := H
       obtain ⟨b695, o695, cs695, hr695, hh695, hel695⟩ := Rd.elb D4 hu695
       obtain rfl := hr695
       refine wt rfl rfl rfl rfl hb694 (hel695 s693 rfl rfl Try.underlying24 tI3 (wt rfl rfl rfl rfl hb694 (o_load' rfl Try.underlying3 rfl ((hh695 hH.bs.mono) 0 _ rfl) ?_)))
       dsimp only [putL, setL, evL, getL]
       refine wt rfl rfl rfl rfl hb694 (o_move (wt rfl rfl rfl rfl hb694 (o_move ?_)))
       replace H := headE H
       obtain ⟨u696, hu696, H⟩ := H
       obtain ⟨F1, hA, hB⟩ := hH.take [1] (by decide)
       dsimp only [addC, setC, rmC, selC, getC] at hA
       refine wt rfl rfl rfl rfl hb694 (o_call (args := #[.pointer (some ⟨bp0, 0, none⟩), .int .i64 u695, .int .i64 x627, .int .i64 p3]) Try.func178 rfl rfl rfl (impl_matcher_has.ok sb s693 F1 bp0 A0_0p c0_0p p0_0 A0_1p c0_1p p0_1 A0_2p c0_2p p0_2 A0_3p c0_3p p0_3 u695 x627 p3 HRp0_0 HRp0_1 HRp0_2 HRp0_3 hA _ hu696) ?_)
       rintro _ s696 ⟨rfl, hD⟩
       replace hH := hB _ _ _ (Up.refl _ _ _) hD
       clear hD hA hB
       try dsimp only [putL, setL, evL, getL]
       refine hc (o_pickT rfl hb694 (HL_nil ?_))
       exact hK685 _ _ ⟨u696, H, rfl, hH.sel [2] (by decide)⟩
      ·refine wf rfl rfl rfl rfl hb694 (wf rfl rfl rfl rfl hb694 ?_)
       dsimp only [putL, setL, evL, getL]
       refine wf rfl rfl rfl rfl hb694 (wf rfl rfl rfl rfl hb694 (wf rfl rfl rfl rfl hb694 ?_))
       dsimp only [putL, setL, evL, getL]
       refine wf rfl rfl rfl rfl hb694 (wf rfl rfl rfl rfl hb694 (hc (o_pickF rfl hb694 (HL_nil ?_))))
       exact hK685 _ _ ⟨false, H, rfl, hH.sel [1] (by decide)⟩
     ·rintro l' s697 ⟨x691, H, hl, hH⟩
      revert l'
      refine skA ?_
      dsimp only [Al, Sk]
      intros
      replace H := hG685 _ H
      try dsimp only at H
      revert H
      refine ct rfl (fun hb698 H => ?_) (fun hb698 H => ?_)
      ·refine sr fun K699 hK699 => ?_
       try dsimp only [putL, setL, evL, getL]
       refine ag (HL_nil (hK699 _ _ ?_))
       dsimp only [putL, setL, evL, getL]
       refine HT_ret ?_
       replace H := escH (fun z hz => hG483 _ hz) H
       exact hQr _ _ [.bool true] _ ⟨rfl, trivial⟩ H ⟨rfl, hH⟩
      ·refine HT_skip (hK684 _ _ ?_)
       refine HT_region ?_
       refine mv (bn rfl rfl rfl (ag (HL_nil ?_)))
       exact hK664 _ _ ⟨kf, Nat.lt_succ_self kf, IntKind.i64.wrap (x627 + 1), H, rfl, hH⟩
    ·refine HT_exit ?_
     exact hK483 _ _ ⟨H, rfl, hH⟩
  ·rintro l' s700 ⟨H, hl, hH⟩
   revert l'
   refine skA ?_
   dsimp only [Al, Sk]
   intros
   replace H := hG483 _ H
   try dsimp only at H
   refine hK481 _ _ ?_
   refine sr fun K701 hK701 => ?_
   try dsimp only [putL, setL, evL, getL]
   refine ag (HL_nil (hK701 _ _ ?_))
   dsimp only [putL, setL, evL, getL]
   refine HT_ret ?_
   exact hQr _ _ [.bool false] _ ⟨rfl, trivial⟩ H ⟨rfl, hH⟩
end Go.Proofs.Ytkieinlcpkpcjaa
