/- The functions that the law reaches, as plain functions, each with its contract: printed by a program of the prover's. No conditions: lemmas. -/
import Derived.Test.YtkieinlcpkpcjaaWSplitBy3
set_option linter.unusedVariables false
set_option linter.unusedSimpArgs false
namespace Go.Proofs.Ytkieinlcpkpcjaa
open Go Go.Proofs.GL
def impl_between.l1 (p1 : List (Int)) (u6 : (List ((Int) × (Int) × (Int)))) : Nat → (List (List (Int))) → Int → Int → Option ((List (List (Int))) × Int)
 | 0, _, _, _ => none
 | kf + 1, x174, x175, x176 => if (decide (x176 < (u6.length : Int))) = true then (((rd? u6 x176).bind fun u243 => (cut? p1 x175 u243.2.1).bind fun x246 => (slices_Clone_int_int.f x246).bind fun u247 => (app? 5864062014805 x174 [u247]).bind fun x250 => some (x250, u243.2.2)).bind fun (o : (List (List (Int))) × Int) => match o with | (x240, x241) => (impl_between.l1 p1 u6 kf x240 x241 (IntKind.i64.wrap (x176 + 1)))) else (some (x174, x175))
def impl_between.f (p0 : List ((Int) × (List (Int)))) (p1 : List (Int)) : Option (List (List (Int))) := (impl_findAll.f p0 p1).bind fun u6 => (impl_between.l1 p1 u6 ((((u6.length : Int)) - (0)).toNat + 2) ([] : List (List (Int))) 0 0).bind fun (o : (List (List (Int))) × Int) => match o with | (x133, x134) => ((cut? p1 x134 (p1.length : Int)).bind fun x261 => (slices_Clone_int_int.f x261).bind fun u262 => (app? 5864062014805 x133 [u262]).bind fun x265 => some x265)
def impl_between.post (sb s : St) (F0 : Fp) (r : (List (List (Int)))) : Value → St → Prop := fun v s' => ∃ (A0 : Option Addr) (c0 : Nat), v = .slice A0 r.length c0 ∧ Hp sb s F0 s' [Ck.ol (Ow.sl OI 3) 24 A0 c0 r]
set_option maxRecDepth 100000 in
set_option maxHeartbeats 4000000 in
theorem impl_between.ok (sb s : St) (F0 : Fp) (A0p : Option Addr) (c0p : Nat) (p0 : List ((Int) × (List (Int)))) (A1p : Option Addr) (c1p : Nat) (p1 : List (Int)) (HRp0 : Rd KS139 sb A0p c0p p0) (HRp1 : Rd KI sb A1p c1p p1) (hH : Hp sb s F0 s []) (r : (List (List (Int)))) (H : impl_between.f p0 p1 = some r) : GCall Try.prog 173 #[.slice A0p p0.length c0p, .slice A1p p1.length c1p] s (impl_between.post sb s F0 r) := by
 refine GCall_ofk [.tmp 4] [.slice A0p p0.length c0p, .slice A1p p1.length c1p, undef, undef, undef, undef, undef, undef, undef, undef, undef, undef, undef, undef, undef, undef, undef, undef, undef, undef, undef, undef, undef, undef, undef, undef, undef, undef, undef, undef, undef, undef, undef, undef, undef, undef, undef] Try.func173 rfl rfl rfl ?_
 intro w Q hQr hQn hQp
 replace H := topE H
 unfold impl_between.f at H
 refine HT_seq_k ?_
 intro K1 hK1
 refine HT_region ?_
 refine HL_cons rfl ?_
 refine o_assign ?_
 try dsimp only [putL, setL, evL, getL]
 refine HL_nil ?_
 refine hK1 _ _ ?_
 refine HT_seq_k ?_
 intro K2 hK2
 refine HT_region ?_
 refine HL_cons rfl ?_
 refine o_lit0H (α := List (Int)) (K := (Kd.sl KI)) (O := (Ow.sl OI 3)) hH Try.underlying105 tI24 ?_
 intro A3 s3 hH' hG
 replace hH : Hp sb s F0 s3 [Ck.ol (Ow.sl OI 3) 24 A3 0 ([] : List (List (Int)))] := hH'
 clear hH' hG
 try dsimp only [putL, setL, evL, getL]
 refine HL_cons rfl ?_
 refine o_assign ?_
 try dsimp only [putL, setL, evL, getL]
 refine HL_cons rfl ?_
 refine o_assign ?_
 try dsimp only [putL, setL, evL, getL]
 refine HL_nil ?_
 refine hK2 _ _ ?_
 refine HT_seq_k ?_
 intro K4 hK4
 refine HT_seq_k ?_
 intro K5 hK5
 refine HT_region ?_
 refine HL_cons rfl ?_
 refine o_move ?_
 try dsimp only [putL, setL, evL, getL]
 refine HL_cons rfl ?_
 refine o_move ?_
 try dsimp only [putL, setL, evL, getL]
 replace H := headE H
 obtain ⟨u6, hu6, H⟩ := H
 refine HL_cons rfl ?_
 refine o_call (args := #[.slice A0p p0.length c0p, .slice A1p p1.length c1p]) Try.func215 rfl rfl rfl (impl_findAll.ok sb s3 no A0p c0p p0 A1p c1p p1 HRp0 HRp1 (Hp.own hH.bs) _ hu6) ?_
 rintro _ s6 ⟨A7, c7, rfl, hD⟩
 replace hH := hH.back0 hD (Up.refl _ _ _)
 clear hD
 dsimp only [addC, setC, rmC, selC, getC] at hH
 try dsimp only [putL, setL, evL, getL]
 refine HL_cons rfl ?_
 refine o_len rfl Try.underlying203 ?_
 try dsimp only [putL, setL, evL, getL]
 refine HL_cons rfl ?_
 refine o_move ?_
 try dsimp only [putL, setL, evL, getL]
 refine HL_nil ?_
 refine hK5 _ _ ?_
 refine joinH H fun G8 hG8 H => ?_
 refine HT_toK (fun l' s' => ∃ (x133 : List (List (Int))) (A133 : Option Addr) (c133 : Nat) (x134 : Int), G8 (x133, x134) = some r ∧ l' = [.slice A0p p0.length c0p, .slice A1p p1.length c1p, undef, undef, .slice none 0 0, .slice A133 x133.length c133, .int .i64 x134, undef, getL l' 8, .slice A3 ([] : List (List (Int))).length 0, .slice A0p p0.length c0p, .slice A1p p1.length c1p, .slice A7 u6.length c7, .int .i64 (u6.length : Int), getL l' 14, getL l' 15, getL l' 16, getL l' 17, getL l' 18, getL l' 19, getL l' 20, getL l' 21, getL l' 22, getL l' 23, getL l' 24, getL l' 25, getL l' 26, getL l' 27, getL l' 28, getL l' 29, undef, undef, undef, undef, undef, undef, undef] ∧ Hp sb s F0 s' [Ck.ol (Ow.sl OI 3) 24 A133 c133 x133]) ?_ ?_
 ·intro K8 hK8
  refine HT_block ?_
  refine HT_loopK (fun kf l' s' => ∃ (x174 : List (List (Int))) (A174 : Option Addr) (c174 : Nat) (x175 : Int) (x176 : Int), (impl_between.l1 p1 u6 kf x174 x175 x176).bind G8 = some r ∧ l' = [.slice A0p p0.length c0p, .slice A1p p1.length c1p, undef, undef, .slice none 0 0, .slice A174 x174.length c174, .int .i64 x175, undef, getL l' 8, .slice A3 ([] : List (List (Int))).length 0, .slice A0p p0.length c0p, .slice A1p p1.length c1p, .slice A7 u6.length c7, .int .i64 (u6.length : Int), .int .i64 x176, getL l' 15, getL l' 16, getL l' 17, getL l' 18, getL l' 19, getL l' 20, getL l' 21, getL l' 22, getL l' 23, getL l' 24, getL l' 25, getL l' 26, getL l' 27, getL l' 28, getL l' 29, undef, undef, undef, undef, undef, undef, undef] ∧ Hp sb s F0 s' [Ck.ol (Ow.sl OI 3) 24 A174 c174 x174, Ck.ol OS207 207 A7 c7 u6]) ((((u6.length : Int)) - (0)).toNat + 2) ⟨([] : List (List (Int))), A3, 0, 0, 0, H, rfl, hH⟩ ?_
  rintro kf l' s219 ⟨x174, A174, c174, x175, x176, H, hl, hH⟩ K219 hK219
  generalize getL l' 8 = j8, getL l' 15 = j15, getL l' 16 = j16, getL l' 17 = j17, getL l' 18 = j18, getL l' 19 = j19, getL l' 20 = j20, getL l' 21 = j21, getL l' 22 = j22, getL l' 23 = j23, getL l' 24 = j24, getL l' 25 = j25, getL l' 26 = j26, getL l' 27 = j27, getL l' 28 = j28, getL l' 29 = j29 at hl
  subst hl
  cases kf with
  | zero => simp [impl_between.l1] at H
  | succ kf =>
   rw [impl_between.l1] at H
   refine HT_seq_k ?_
   intro K220 hK220
   refine HT_region ?_
   refine HL_cons rfl ?_
   refine o_bin rfl rfl rfl ?_
   try dsimp only [putL, setL, evL, getL]
   refine HL_nil ?_
   refine hK220 _ _ ?_
   refine HT_seq_k ?_
   intro K221 hK221
   rcases Bool.eq_false_or_eq_true (decide (x176 < (u6.length : Int))) with hb222 | hb222
   ·replace H := iteT hb222 H
    refine HT_true (congrArg Value.bool hb222) ?_
    refine HT_skip ?_
    refine hK221 _ _ ?_
    refine joinH H fun G223 hG223 H => ?_
    refine HT_joinK (fun l' s' => ∃ (x240 : List (List (Int))) (A240 : Option Addr) (c240 : Nat) (x241 : Int), G223 (x240, x241) = some r ∧ l' = [.slice A0p p0.length c0p, .slice A1p p1.length c1p, undef, undef, .slice none 0 0, .slice A240 x240.length c240, .int .i64 x241, undef, getL l' 8, .slice A3 ([] : List (List (Int))).length 0, .slice A0p p0.length c0p, .slice A1p p1.length c1p, .slice A7 u6.length c7, .int .i64 (u6.length : Int), .int .i64 x176, .bool (decide (x176 < (u6.length : Int))), getL l' 16, getL l' 17, getL l' 18, getL l' 19, getL l' 20, getL l' 21, getL l' 22, getL l' 23, getL l' 24, getL l' 25, getL l' 26, getL l' 27, getL l' 28, j29, undef, undef, undef, undef, undef, undef, undef] ∧ Hp sb s F0 s' [Ck.ol (Ow.sl OI 3) 24 A240 c240 x240, Ck.ol OS207 207 A7 c7 u6]) ?_ ?_
    ·intro K223 hK223
     refine HT_block ?_
     refine HT_seq_k ?_
     intro K242 hK242
     refine HT_region ?_
     replace H := headE H
     obtain ⟨u243, hu243, H⟩ := H
     obtain ⟨b243, o243, cs243, hA243, hr243, hh243, hel243⟩ := hH.elo 1 rfl hu243
     obtain ⟨_, _, rfl, rfl, ⟨_, _, rfl, rfl, rfl⟩⟩ := hr243
     refine HL_cons rfl ?_
     refine hel243 s219 rfl rfl Try.underlying203 tI207 ?_
     try dsimp only [putL, setL, evL, getL]
     refine HL_cons rfl ?_
     refine o_loads' [.int .i64 u243.1, .int .i64 u243.2.1, .int .i64 u243.2.2] rfl Try.underlying207 rfl tI207 rfl (fun j v hj => hh243 j v hj) ?_
     try dsimp only [putL, setL, evL, getL]
     refine HL_cons rfl ?_
     refine o_allocH hH tI207 ?_
     intro b244 s244 hH' hG
     replace hH : Hp sb s F0 s244 [Ck.ol (Ow.sl OI 3) 24 A174 c174 x174, Ck.ol OS207 207 A7 c7 u6, Ck.ov b244 [.int .i64 0, .int .i64 0, .int .i64 0] 207] := hH'
     clear hH' hG
     try dsimp only [putL, setL, evL, getL]
     refine HL_cons rfl ?_
     refine o_stvH (vs := [.int .i64 u243.1, .int .i64 u243.2.1, .int .i64 u243.2.2]) (us' := [.int .i64 u243.1, .int .i64 u243.2.1, .int .i64 u243.2.2]) hH 2 rfl rfl rfl rfl rfl tI207 rfl (List.cons_ne_nil _ _) rfl rfl rfl ?_
     intro s245 hH'
     replace hH : Hp sb s F0 s245 [Ck.ol (Ow.sl OI 3) 24 A174 c174 x174, Ck.ol OS207 207 A7 c7 u6, Ck.ov b244 [.int .i64 u243.1, .int .i64 u243.2.1, .int .i64 u243.2.2] 207] := hH'
     clear hH'
     try dsimp only [putL, setL, evL, getL]
     refine HL_nil ?_
     refine hK242 _ _ ?_
     refine HX_draw hMix ?_
     refine HX_lim (R := fun _ => True) (k := 0) (fun s' => Gro s245 s') 8 ?_
     have hR := Gro.refl s245
     have hH0 := hH
     refine HK_readP 0 (v := .slice A174 x174.length c174) rfl (by kernel_rfl) (fun c l s h => hQp c l s h) rfl (fun s' K hK => ?_) rfl rfl (fun _ => hR) ?_
     ·refine o_move ?_
      exact hK
     try dsimp only [putL, setL, evL, getL]
     refine HK_readP 1 (v := .slice A1p p1.length c1p) rfl (by kernel_rfl) (fun c l s h => hQp c l s h) rfl (fun s' K hK => ?_) rfl rfl (fun _ => hR) ?_
     ·refine o_move ?_
      exact hK
     try dsimp only [putL, setL, evL, getL]
     refine HK_readP 2 (v := .int .i64 x175) rfl (by kernel_rfl) (fun c l s h => hQp c l s h) rfl (fun s' K hK => ?_) rfl rfl (fun _ => hR) ?_
     ·refine o_move ?_
      exact hK
     try dsimp only [putL, setL, evL, getL]
     refine HK_readP 3 (v := .pointer (some ⟨b244, 0 + 1, none⟩)) rfl (by kernel_rfl) (fun c l s h => hQp c l s h) rfl (fun s' K hK => ?_) rfl rfl (fun _ => hR) ?_
     ·refine o_faddr' (ft := 3) (off := 1) rfl Try.underlying207 rfl tI3 (by decide) ?_
      exact hK
     try dsimp only [putL, setL, evL, getL]
     refine HK_read 4 (v := .int .i64 u243.2.1) rfl (by kernel_rfl) (fun c l s h => hQp c l s h) rfl (fun s' hR' K hK => ?_) rfl rfl hR ?_
     ·refine o_load' rfl Try.underlying3 rfl (has_gro hR' (hH0.hasv 2 rfl rfl)) ?_
      exact hK
     try dsimp only [putL, setL, evL, getL]
     replace H := headE H
     obtain ⟨x246, hx246, H⟩ := H
     refine HK_readP 5 (v := .slice (cutA A1p c1p (Int.toNat x175) (Kd.sz KI)) x246.length (c1p - Int.toNat x175)) rfl (by kernel_rfl) (fun c l s h => hQp c l s h) rfl (fun s' K hK => ?_) rfl rfl (fun _ => hR) ?_
     ·refine o_cutA (xs := p1) (kl := .i64) (kh := .i64) (L := x175) (H := u243.2.1) rfl rfl rfl Try.underlying24 tI3 HRp1.1 hx246 ?_
      exact hK
     have D246 := HRp1.cut hx246
     try dsimp only [putL, setL, evL, getL]
     refine HK_readP 9 (v := .pointer (some ⟨b244, 0 + 2, none⟩)) rfl (by kernel_rfl) (fun c l s h => hQp c l s h) rfl (fun s' K hK => ?_) rfl rfl (fun _ => hR) ?_
     ·refine o_faddr' (ft := 3) (off := 2) rfl Try.underlying207 rfl tI3 (by decide) ?_
      exact hK
     try dsimp only [putL, setL, evL, getL]
     refine HK_more [6, 10] (by kernel_rfl) rfl (fun _ => hR) ⟨⟨_, rfl, Or.inl ⟨rfl, ?_⟩⟩, ⟨_, rfl, Or.inl ⟨rfl, ?_⟩⟩, trivial⟩
     ·replace H := headE H
      obtain ⟨u247, hu247, H⟩ := H
      skip
      refine o_call (args := #[.slice (cutA A1p c1p (Int.toNat x175) (Kd.sz KI)) x246.length (c1p - Int.toNat x175)]) Try.func141 rfl rfl rfl (slices_Clone_int_int.ok sb s245 no (cutA A1p c1p (Int.toNat x175) (Kd.sz KI)) (c1p - Int.toNat x175) x246 D246 (Hp.own hH.bs) _ hu247) ?_
      rintro _ s247 ⟨A248, c248, rfl, hD⟩
      replace hR := hR.trans hD.gro
      replace hH := hH.back0 hD (Up.refl _ _ _)
      clear hD
      dsimp only [addC, setC, rmC, selC, getC] at hH
      try dsimp only [putL, setL, evL, getL]
      refine HK_more [7, 10] (by kernel_rfl) rfl (fun _ => hR) ⟨⟨_, rfl, Or.inl ⟨rfl, ?_⟩⟩, ⟨_, rfl, Or.inl ⟨rfl, ?_⟩⟩, trivial⟩
      ·replace hH := hH.conv [3] (by decide) (d := Ck.el (Ow.sl OI 3) [.slice A248 u247.length c248] u247) Ent.sl
       dsimp only [addC, setC, rmC, selC, getC] at hH
       skip
       refine o_litD (K := (Kd.sl KI)) (O := (Ow.sl OI 3)) (ca := #[.slice A248 u247.length c248]) [[.slice A248 u247.length c248]] [u247] hH [4] (by decide) rfl Try.underlying105 tI24 rfl (by decide) rfl rfl rfl rfl (by kernel_rfl) rfl ?_
       intro A249 s249 hH' hG
       replace hR := hR.trans hG
       replace hH : Hp sb s F0 s249 [Ck.ol (Ow.sl OI 3) 24 A174 c174 x174, Ck.ol OS207 207 A7 c7 u6, Ck.ov b244 [.int .i64 u243.1, .int .i64 u243.2.1, .int .i64 u243.2.2] 207, Ck.emp, Ck.emp, Ck.ol (Ow.sl OI 3) 24 A249 1 [u247]] := hH'
       clear hH' hG
       try dsimp only [putL, setL, evL, getL]
       refine HK_more [8, 10] (by kernel_rfl) rfl (fun _ => hR) ⟨⟨_, rfl, Or.inl ⟨rfl, ?_⟩⟩, ⟨_, rfl, Or.inl ⟨rfl, ?_⟩⟩, trivial⟩
       ·replace H := headE H
        obtain ⟨x250, hx250, H⟩ := H
        skip
        refine o_appD (K := (Kd.sl KI)) (n := 5864062014805) (A := A174) (c := c174) (xs := x174) (ys := [u247]) (B := A249) (c2 := 1) hH 0 5 (by decide) rfl rfl rfl rfl rfl Try.underlying105 tI24 rfl (by decide) (by decide) (by decide) hx250 ?_
        intro A250 c250 s250 hH'
        replace hH : Hp sb s F0 s250 [Ck.ol (Ow.sl OI 3) 24 A250 c250 x250, Ck.ol OS207 207 A7 c7 u6, Ck.ov b244 [.int .i64 u243.1, .int .i64 u243.2.1, .int .i64 u243.2.2] 207, Ck.emp, Ck.emp, Ck.emp] := hH'
        clear hH'
        try dsimp only [putL, setL, evL, getL]
        refine HK_free (by kernel_rfl) ?_
        refine HX_lim (R := fun _ => True) (k := 0) (fun s' => Gro s250 s') 14 ?_
        have hR := Gro.refl s250
        have hH0 := hH
        refine HK_read 10 (v := .int .i64 u243.2.2) rfl (by kernel_rfl) (fun c l s h => hQp c l s h) rfl (fun s' hR' K hK => ?_) rfl rfl hR ?_
        ·refine o_load' rfl Try.underlying3 rfl (has_gro hR' (hH0.hasv 2 rfl rfl)) ?_
         exact hK
        try dsimp only [putL, setL, evL, getL]
        refine HK_more [11] (by kernel_rfl) rfl (fun _ => hR) ⟨⟨_, rfl, Or.inl ⟨rfl, ?_⟩⟩, trivial⟩
        skip
        refine o_assign ?_
        try dsimp only [putL, setL, evL, getL]
        refine HK_more [12] (by kernel_rfl) rfl (fun _ => hR) ⟨⟨_, rfl, Or.inl ⟨rfl, ?_⟩⟩, trivial⟩
        skip
        refine o_assign ?_
        try dsimp only [putL, setL, evL, getL]
        refine HK_done (fun _ => hR) (by kernel_rfl) ?_
        exact hK223 _ _ ⟨x250, A250, c250, u243.2.2, H, rfl, hH.sel [0, 1] (by decide)⟩
       ·skip
        refine o_load' rfl Try.underlying3 rfl (hH.hasv 2 rfl rfl) ?_
        try dsimp only [putL, setL, evL, getL]
        refine HK_more [8] (by kernel_rfl) rfl (fun _ => hR) ⟨⟨_, rfl, Or.inl ⟨rfl, ?_⟩⟩, trivial⟩
        replace H := headE H
        obtain ⟨x251, hx251, H⟩ := H
        skip
        refine o_appD (K := (Kd.sl KI)) (n := 5864062014805) (A := A174) (c := c174) (xs := x174) (ys := [u247]) (B := A249) (c2 := 1) hH 0 5 (by decide) rfl rfl rfl rfl rfl Try.underlying105 tI24 rfl (by decide) (by decide) (by decide) hx251 ?_
        intro A251 c251 s251 hH'
        replace hH : Hp sb s F0 s251 [Ck.ol (Ow.sl OI 3) 24 A251 c251 x251, Ck.ol OS207 207 A7 c7 u6, Ck.ov b244 [.int .i64 u243.1, .int .i64 u243.2.1, .int .i64 u243.2.2] 207, Ck.emp, Ck.emp, Ck.emp] := hH'
        clear hH'
        try dsimp only [putL, setL, evL, getL]
        refine HK_free (by kernel_rfl) ?_
        refine HX_lim (R := fun _ => True) (k := 0) (fun s' => Gro s251 s') 14 ?_
        have hR := Gro.refl s251
        have hH0 := hH
        refine HK_more [11] (by kernel_rfl) rfl (fun _ => hR) ⟨⟨_, rfl, Or.inl ⟨rfl, ?_⟩⟩, trivial⟩
        skip
        refine o_assign ?_
        try dsimp only [putL, setL, evL, getL]
        refine HK_more [12] (by kernel_rfl) rfl (fun _ => hR) ⟨⟨_, rfl, Or.inl ⟨rfl, ?_⟩⟩, trivial⟩
        skip
        refine o_assign ?_
        try dsimp only [putL, setL, evL, getL]
        refine HK_done (fun _ => hR) (by kernel_rfl) ?_
        exact hK223 _ _ ⟨x251, A251, c251, u243.2.2, H, rfl, hH.sel [0, 1] (by decide)⟩
      ·skip
       refine o_load' rfl Try.underlying3 rfl (hH.hasv 2 rfl rfl) ?_
       try dsimp only [putL, setL, evL, getL]
       refine HK_more [7] (by kernel_rfl) rfl (fun _ => hR) ⟨⟨_, rfl, Or.inl ⟨rfl, ?_⟩⟩, trivial⟩
       replace hH := hH.conv [3] (by decide) (d := Ck.el (Ow.sl OI 3) [.slice A248 u247.length c248] u247) Ent.sl
       dsimp only [addC, setC, rmC, selC, getC] at hH
       skip
       refine o_litD (K := (Kd.sl KI)) (O := (Ow.sl OI 3)) (ca := #[.slice A248 u247.length c248]) [[.slice A248 u247.length c248]] [u247] hH [4] (by decide) rfl Try.underlying105 tI24 rfl (by decide) rfl rfl rfl rfl (by kernel_rfl) rfl ?_
       intro A252 s252 hH' hG
       replace hR := hR.trans hG
       replace hH : Hp sb s F0 s252 [Ck.ol (Ow.sl OI 3) 24 A174 c174 x174, Ck.ol OS207 207 A7 c7 u6, Ck.ov b244 [.int .i64 u243.1, .int .i64 u243.2.1, .int .i64 u243.2.2] 207, Ck.emp, Ck.emp, Ck.ol (Ow.sl OI 3) 24 A252 1 [u247]] := hH'
       clear hH' hG
       try dsimp only [putL, setL, evL, getL]
       refine HK_more [8] (by kernel_rfl) rfl (fun _ => hR) ⟨⟨_, rfl, Or.inl ⟨rfl, ?_⟩⟩, trivial⟩
       replace H := headE H
       obtain ⟨x253, hx253, H⟩ := H
       skip
       refine o_appD (K := (Kd.sl KI)) (n := 5864062014805) (A := A174) (c := c174) (xs := x174) (ys := [u247]) (B := A252) (c2 := 1) hH 0 5 (by decide) rfl rfl rfl rfl rfl Try.underlying105 tI24 rfl (by decide) (by decide) (by decide) hx253 ?_
       intro A253 c253 s253 hH'
       replace hH : Hp sb s F0 s253 [Ck.ol (Ow.sl OI 3) 24 A253 c253 x253, Ck.ol OS207 207 A7 c7 u6, Ck.ov b244 [.int .i64 u243.1, .int .i64 u243.2.1, .int .i64 u243.2.2] 207, Ck.emp, Ck.emp, Ck.emp] := hH'
       clear hH'
       try dsimp only [putL, setL, evL, getL]
       refine HK_free (by kernel_rfl) ?_
       refine HX_lim (R := fun _ => True) (k := 0) (fun s' => Gro s253 s') 14 ?_
       have hR := Gro.refl s253
       have hH0 := hH
       refine HK_more [11] (by kernel_rfl) rfl (fun _ => hR) ⟨⟨_, rfl, Or.inl ⟨rfl, ?_⟩⟩, trivial⟩
       skip
       refine o_assign ?_
       try dsimp only [putL, setL, evL, getL]
       refine HK_more [12] (by kernel_rfl) rfl (fun _ => hR) ⟨⟨_, rfl, Or.inl ⟨rfl, ?_⟩⟩, trivial⟩
       skip
       refine o_assign ?_
       try dsimp only [putL, setL, evL, getL]
       refine HK_done (fun _ => hR) (by kernel_rfl) ?_
       exact hK223 _ _ ⟨x253, A253, c253, u243.2.2, H, rfl, hH.sel [0, 1] (by decide)⟩
     ·skip
      refine o_load' rfl Try.underlying3 rfl (hH.hasv 2 rfl rfl) ?_
      try dsimp only [putL, setL, evL, getL]
      refine HK_more [6] (by kernel_rfl) rfl (fun _ => hR) ⟨⟨_, rfl, Or.inl ⟨rfl, ?_⟩⟩, trivial⟩
      replace H := headE H
      obtain ⟨u254, hu254, H⟩ := H
      skip
      refine o_call (args := #[.slice (cutA A1p c1p (Int.toNat x175) (Kd.sz KI)) x246.length (c1p - Int.toNat x175)]) Try.func141 rfl rfl rfl (slices_Clone_int_int.ok sb s245 no (cutA A1p c1p (Int.toNat x175) (Kd.sz KI)) (c1p - Int.toNat x175) x246 D246 (Hp.own hH.bs) _ hu254) ?_
      rintro _ s254 ⟨A255, c255, rfl, hD⟩
      replace hR := hR.trans hD.gro
      replace hH := hH.back0 hD (Up.refl _ _ _)
      clear hD
      dsimp only [addC, setC, rmC, selC, getC] at hH
      try dsimp only [putL, setL, evL, getL]
      refine HK_more [7] (by kernel_rfl) rfl (fun _ => hR) ⟨⟨_, rfl, Or.inl ⟨rfl, ?_⟩⟩, trivial⟩
      replace hH := hH.conv [3] (by decide) (d := Ck.el (Ow.sl OI 3) [.slice A255 u254.length c255] u254) Ent.sl
      dsimp only [addC, setC, rmC, selC, getC] at hH
      skip
      refine o_litD (K := (Kd.sl KI)) (O := (Ow.sl OI 3)) (ca := #[.slice A255 u254.length c255]) [[.slice A255 u254.length c255]] [u254] hH [4] (by decide) rfl Try.underlying105 tI24 rfl (by decide) rfl rfl rfl rfl (by kernel_rfl) rfl ?_
      intro A256 s256 hH' hG
      replace hR := hR.trans hG
      replace hH : Hp sb s F0 s256 [Ck.ol (Ow.sl OI 3) 24 A174 c174 x174, Ck.ol OS207 207 A7 c7 u6, Ck.ov b244 [.int .i64 u243.1, .int .i64 u243.2.1, .int .i64 u243.2.2] 207, Ck.emp, Ck.emp, Ck.ol (Ow.sl OI 3) 24 A256 1 [u254]] := hH'
      clear hH' hG
      try dsimp only [putL, setL, evL, getL]
      refine HK_more [8] (by kernel_rfl) rfl (fun _ => hR) ⟨⟨_, rfl, Or.inl ⟨rfl, ?_⟩⟩, trivial⟩
      replace H := headE H
      obtain ⟨x257, hx257, H⟩ := H
      skip
      refine o_appD (K := (Kd.sl KI)) (n := 5864062014805) (A := A174) (c := c174) (xs := x174) (ys := [u254]) (B := A256) (c2 := 1) hH 0 5 (by decide) rfl rfl rfl rfl rfl Try.underlying105 tI24 rfl (by decide) (by decide) (by decide) hx257 ?_
      intro A257 c257 s257 hH'
      replace hH : Hp sb s F0 s257 [Ck.ol (Ow.sl OI 3) 24 A257 c257 x257, Ck.ol OS207 207 A7 c7 u6, Ck.ov b244 [.int .i64 u243.1, .int .i64 u243.2.1, .int .i64 u243.2.2] 207, Ck.emp, Ck.emp, Ck.emp] := hH'
      clear hH'
      try dsimp only [putL, setL, evL, getL]
      refine HK_free (by kernel_rfl) ?_
      refine HX_lim (R := fun _ => True) (k := 0) (fun s' => Gro s257 s') 14 ?_
      have hR := Gro.refl s257
      have hH0 := hH
      refine HK_more [11] (by kernel_rfl) rfl (fun _ => hR) ⟨⟨_, rfl, Or.inl ⟨rfl, ?_⟩⟩, trivial⟩
      skip
      refine o_assign ?_
      try dsimp only [putL, setL, evL, getL]
      refine HK_more [12] (by kernel_rfl) rfl (fun _ => hR) ⟨⟨_, rfl, Or.inl ⟨rfl, ?_⟩⟩, trivial⟩
      skip
      refine o_assign ?_
      try dsimp only [putL, setL, evL, getL]
      refine HK_done (fun _ => hR) (by kernel_rfl) ?_
      exact hK223 _ _ ⟨x257, A257, c257, u243.2.2, H, rfl, hH.sel [0, 1] (by decide)⟩
    ·rintro l' s258 ⟨x240, A240, c240, x241, H, hl, hH⟩
     generalize getL l' 8 = j8, getL l' 16 = j16, getL l' 17 = j17, getL l' 18 = j18, getL l' 19 = j19, getL l' 20 = j20, getL l' 21 = j21, getL l' 22 = j22, getL l' 23 = j23, getL l' 24 = j24, getL l' 25 = j25, getL l' 26 = j26, getL l' 27 = j27, getL l' 28 = j28 at hl
     subst hl
     replace H := hG223 _ H
     try dsimp only at H
     refine HT_region ?_
     refine HL_cons rfl ?_
     refine o_bin rfl rfl rfl ?_
     try dsimp only [putL, setL, evL, getL]
     refine HL_cons rfl ?_
     refine o_move ?_
     try dsimp only [putL, setL, evL, getL]
     refine HL_nil ?_
     exact hK219 _ _ ⟨kf, Nat.lt_succ_self kf, x240, A240, c240, x241, IntKind.i64.wrap (x176 + 1), H, rfl, hH⟩
   ·replace H := iteF hb222 H
    refine HT_false (congrArg Value.bool hb222) ?_
    refine HT_exit ?_
    exact hK8 _ _ ⟨x174, A174, c174, x175, H, rfl, hH.sel [0] (by decide)⟩
 ·rintro l' s259 ⟨x133, A133, c133, x134, H, hl, hH⟩
  generalize getL l' 8 = j8, getL l' 14 = j14, getL l' 15 = j15, getL l' 16 = j16, getL l' 17 = j17, getL l' 18 = j18, getL l' 19 = j19, getL l' 20 = j20, getL l' 21 = j21, getL l' 22 = j22, getL l' 23 = j23, getL l' 24 = j24, getL l' 25 = j25, getL l' 26 = j26, getL l' 27 = j27, getL l' 28 = j28, getL l' 29 = j29 at hl
  subst hl
  replace H := hG8 _ H
  try dsimp only at H
  refine hK4 _ _ ?_
  refine HT_seq_k ?_
  intro K260 hK260
  refine HT_region ?_
  refine HL_cons rfl ?_
  refine o_move ?_
  try dsimp only [putL, setL, evL, getL]
  refine HL_cons rfl ?_
  refine o_move ?_
  try dsimp only [putL, setL, evL, getL]
  refine HL_cons rfl ?_
  refine o_move ?_
  try dsimp only [putL, setL, evL, getL]
  replace H := headE H
  obtain ⟨x261, hx261, H⟩ := H
  refine HL_cons rfl ?_
  refine o_cutA (xs := p1) (kl := .i64) (kh := .i64) (L := x134) (H := (p1.length : Int)) rfl rfl rfl Try.underlying24 tI3 HRp1.1 hx261 ?_
  have D261 := HRp1.cut hx261
  try dsimp only [putL, setL, evL, getL]
  replace H := headE H
  obtain ⟨u262, hu262, H⟩ := H
  refine HL_cons rfl ?_
  refine o_call (args := #[.slice (cutA A1p c1p (Int.toNat x134) (Kd.sz KI)) x261.length (c1p - Int.toNat x134)]) Try.func141 rfl rfl rfl (slices_Clone_int_int.ok sb s259 no (cutA A1p c1p (Int.toNat x134) (Kd.sz KI)) (c1p - Int.toNat x134) x261 D261 (Hp.own hH.bs) _ hu262) ?_
  rintro _ s262 ⟨A263, c263, rfl, hD⟩
  replace hH := hH.back0 hD (Up.refl _ _ _)
  clear hD
  dsimp only [addC, setC, rmC, selC, getC] at hH
  try dsimp only [putL, setL, evL, getL]
  replace hH := hH.conv [1] (by decide) (d := Ck.el (Ow.sl OI 3) [.slice A263 u262.length c263] u262) Ent.sl
  dsimp only [addC, setC, rmC, selC, getC] at hH
  refine HL_cons rfl ?_
  refine o_litD (K := (Kd.sl KI)) (O := (Ow.sl OI 3)) (ca := #[.slice A263 u262.length c263]) [[.slice A263 u262.length c263]] [u262] hH [2] (by decide) rfl Try.underlying105 tI24 rfl (by decide) rfl rfl rfl rfl (by kernel_rfl) rfl ?_
  intro A264 s264 hH' hG
  replace hH : Hp sb s F0 s264 [Ck.ol (Ow.sl OI 3) 24 A133 c133 x133, Ck.emp, Ck.emp, Ck.ol (Ow.sl OI 3) 24 A264 1 [u262]] := hH'
  clear hH' hG
  try dsimp only [putL, setL, evL, getL]
  replace H := headE H
  obtain ⟨x265, hx265, H⟩ := H
  refine HL_cons rfl ?_
  refine o_appD (K := (Kd.sl KI)) (n := 5864062014805) (A := A133) (c := c133) (xs := x133) (ys := [u262]) (B := A264) (c2 := 1) hH 0 3 (by decide) rfl rfl rfl rfl rfl Try.underlying105 tI24 rfl (by decide) (by decide) (by decide) hx265 ?_
  intro A265 c265 s265 hH'
  replace hH : Hp sb s F0 s265 [Ck.ol (Ow.sl OI 3) 24 A265 c265 x265, Ck.emp, Ck.emp, Ck.emp] := hH'
  clear hH'
  try dsimp only [putL, setL, evL, getL]
  refine HL_cons rfl ?_
  refine o_assign ?_
  try dsimp only [putL, setL, evL, getL]
  refine HL_nil ?_
  refine hK260 _ _ ?_
  refine HT_ret ?_
  exact hQr _ _ [.slice A265 x265.length c265] ⟨rfl, trivial⟩ (retH (fun r => impl_between.post sb s F0 r _ _) (show some _ = some r from H) ⟨A265, c265, rfl, hH.sel [0] (by decide)⟩)
def impl_SplitBy.f (p0 : List ((Int) × (List (Int)))) (p1 : List (Int)) : Option ((List (List (Int))) × Bool) := (impl_canParse.f p0 p1).bind fun u4 => if (!u4) = true then (some ([], false)) else ((impl_between.f p0 p1).bind fun u8 => some (u8, true))
def impl_SplitBy.post (sb s : St) (F0 : Fp) (r : (List (List (Int))) × Bool) : Value → St → Prop := fun v s' => ∃ (A0 : Option Addr) (c0 : Nat), v = .tuple #[.slice A0 r.1.length c0, .bool r.2] ∧ Hp sb s F0 s' [Ck.ol (Ow.sl OI 3) 24 A0 c0 r.1]
set_option maxRecDepth 100000 in
set_option maxHeartbeats 4000000 in
theorem impl_SplitBy.ok (sb s : St) (F0 : Fp) (A0p : Option Addr) (c0p : Nat) (p0 : List ((Int) × (List (Int)))) (A1p : Option Addr) (c1p : Nat) (p1 : List (Int)) (HRp0 : Rd KS139 sb A0p c0p p0) (HRp1 : Rd KI sb A1p c1p p1) (hH : Hp sb s F0 s []) (r : (List (List (Int))) × Bool) (H : impl_SplitBy.f p0 p1 = some r) : GCall Try.prog 94 #[.slice A0p p0.length c0p, .slice A1p p1.length c1p] s (impl_SplitBy.post sb s F0 r) := by
 refine GCall_ofk [.tmp 4, .tmp 5] [.slice A0p p0.length c0p, .slice A1p p1.length c1p, undef, undef, undef, undef, undef, undef, undef, undef, undef, undef, undef] Try.func94 rfl rfl rfl ?_
 intro w Q hQr hQn hQp
 replace H := topE H
 unfold impl_SplitBy.f at H
 refine HT_seq_k ?_
 intro K1 hK1
 refine HT_region ?_
 refine HL_cons rfl ?_
 refine o_assign ?_
 try dsimp only [putL, setL, evL, getL]
 refine HL_cons rfl ?_
 refine o_assign ?_
 try dsimp only [putL, setL, evL, getL]
 refine HL_nil ?_
 refine hK1 _ _ ?_
 refine HT_seq_k ?_
 intro K2 hK2
 refine HT_seq_k ?_
 intro K3 hK3
 refine HT_region ?_
 refine HL_cons rfl ?_
 refine o_move ?_
 try dsimp only [putL, setL, evL, getL]
 refine HL_cons rfl ?_
 refine o_move ?_
 try dsimp only [putL, setL, evL, getL]
 replace H := headE H
 obtain ⟨u4, hu4, H⟩ := H
 refine HL_cons rfl ?_
 refine o_call (args := #[.slice A0p p0.length c0p, .slice A1p p1.length c1p]) Try.func152 rfl rfl rfl (impl_canParse.ok sb s no A0p c0p p0 A1p c1p p1 HRp0 HRp1 (Hp.own hH.bs) _ hu4) ?_
 rintro _ s4 ⟨rfl, hD⟩
 replace hH := hH.back0 hD (Up.refl _ _ _)
 clear hD
 dsimp only [addC, setC, rmC, selC, getC] at hH
 try dsimp only [putL, setL, evL, getL]
 refine HL_cons rfl ?_
 refine o_not rfl ?_
 try dsimp only [putL, setL, evL, getL]
 refine HL_nil ?_
 refine hK3 _ _ ?_
 rcases Bool.eq_false_or_eq_true (!u4) with hb5 | hb5
 ·replace H := iteT hb5 H
  refine HT_true (congrArg Value.bool hb5) ?_
  refine HT_seq_k ?_
  intro K6 hK6
  refine HT_region ?_
  refine HL_cons rfl ?_
  refine o_assign ?_
  try dsimp only [putL, setL, evL, getL]
  refine HL_cons rfl ?_
  refine o_assign ?_
  try dsimp only [putL, setL, evL, getL]
  refine HL_nil ?_
  refine hK6 _ _ ?_
  refine HT_ret ?_
  exact hQr _ _ [.slice none 0 0, .bool false] ⟨rfl, rfl, trivial⟩ (retH (fun r => impl_SplitBy.post sb s F0 r _ _) (show some _ = some r from H) ⟨none, 0, rfl, (hH.nil (K := (Kd.sl KI)) (Ow.sl OI 3) 24)⟩)
 ·replace H := iteF hb5 H
  refine HT_false (congrArg Value.bool hb5) ?_
  refine HT_skip ?_
  refine hK2 _ _ ?_
  refine HT_seq_k ?_
  intro K7 hK7
  refine HT_region ?_
  refine HL_cons rfl ?_
  refine o_move ?_
  try dsimp only [putL, setL, evL, getL]
  refine HL_cons rfl ?_
  refine o_move ?_
  try dsimp only [putL, setL, evL, getL]
  replace H := headE H
  obtain ⟨u8, hu8, H⟩ := H
  refine HL_cons rfl ?_
  refine o_call (args := #[.slice A0p p0.length c0p, .slice A1p p1.length c1p]) Try.func173 rfl rfl rfl (impl_between.ok sb s4 no A0p c0p p0 A1p c1p p1 HRp0 HRp1 (Hp.own hH.bs) _ hu8) ?_
  rintro _ s8 ⟨A9, c9, rfl, hD⟩
  replace hH := hH.back0 hD (Up.refl _ _ _)
  clear hD
  dsimp only [addC, setC, rmC, selC, getC] at hH
  try dsimp only [putL, setL, evL, getL]
  refine HL_cons rfl ?_
  refine o_assign ?_
  try dsimp only [putL, setL, evL, getL]
  refine HL_cons rfl ?_
  refine o_assign ?_
  try dsimp only [putL, setL, evL, getL]
  refine HL_nil ?_
  refine hK7 _ _ ?_
  refine HT_ret ?_
  exact hQr _ _ [.slice A9 u8.length c9, .bool true] ⟨rfl, rfl, trivial⟩ (retH (fun r => impl_SplitBy.post sb s F0 r _ _) (show some _ = some r from H) ⟨A9, c9, rfl, hH⟩)
def laws_eqIntS.l1 (p0 : List (Int)) (p1 : List (Int)) : Nat → Int → Option (Lo Unit Bool)
 | 0, _ => none
 | kf + 1, x48 => if (decide (x48 < (p0.length : Int))) = true then ((rd? p0 x48).bind fun u65 => (rd? p1 x48).bind fun u66 => if (u65 != u66) = true then ((some false).bind fun z => some (Lo.ret z)) else (laws_eqIntS.l1 p0 p1 kf (IntKind.i64.wrap (x48 + 1)))) else (some (Lo.go ()))
def laws_eqIntS.f (p0 : List (Int)) (p1 : List (Int)) : Option Bool := if ((p0.length : Int) != (p1.length : Int)) = true then (some false) else ((laws_eqIntS.l1 p0 p1 ((((p0.length : Int)) - (0)).toNat + 2) 0).bind fun (o : Lo Unit Bool) => match o with | .go () => (some true) | .ret z => some z)
def laws_eqIntS.post (sb s : St) (F0 : Fp) (r : Bool) : Value → St → Prop := fun v s' => v = .bool r ∧ Hp sb s F0 s' []
set_option maxRecDepth 100000 in
set_option maxHeartbeats 4000000 in
theorem laws_eqIntS.ok (sb s : St) (F0 : Fp) (A0p : Option Addr) (c0p : Nat) (p0 : List (Int)) (A1p : Option Addr) (c1p : Nat) (p1 : List (Int)) (HRp0 : Rd KI sb A0p c0p p0) (HRp1 : Rd KI sb A1p c1p p1) (hH : Hp sb s F0 s []) (r : Bool) (H : laws_eqIntS.f p0 p1 = some r) : GCall Try.prog 63 #[.slice A0p p0.length c0p, .slice A1p p1.length c1p] s (laws_eqIntS.post sb s F0 r) := by
 refine GCall_ofk [.tmp 4] [.slice A0p p0.length c0p, .slice A1p p1.length c1p, undef, undef, undef, undef, undef, undef, undef, undef, undef, undef, undef, undef, undef, undef, undef, undef, undef, undef, undef, undef, undef, undef, undef, undef] Try.func63 rfl rfl rfl ?_
 intro w Q hQr hQn hQp
 replace H := topE H
 unfold laws_eqIntS.f at H
 refine HT_seq_k ?_
 intro K1 hK1
 refine HT_region ?_
 refine HL_cons rfl ?_
 refine o_assign ?_
 try dsimp only [putL, setL, evL, getL]
 refine HL_nil ?_
 refine hK1 _ _ ?_
 refine HT_seq_k ?_
 intro K2 hK2
 refine HT_seq_k ?_
 intro K3 hK3
 refine HT_region ?_
 refine HL_cons rfl ?_
 refine o_move ?_
 try dsimp only [putL, setL, evL, getL]
 refine HL_cons rfl ?_
 refine o_len rfl Try.underlying24 ?_
 try dsimp only [putL, setL, evL, getL]
 refine HL_cons rfl ?_
 refine o_move ?_
 try dsimp only [putL, setL, evL, getL]
 refine HL_cons rfl ?_
 refine o_len rfl Try.underlying24 ?_
 try dsimp only [putL, setL, evL, getL]
 refine HL_cons rfl ?_
 refine o_bin rfl rfl rfl ?_
 try dsimp only [putL, setL, evL, getL]
 refine HL_nil ?_
 refine hK3 _ _ ?_
 rcases Bool.eq_false_or_eq_true ((p0.length : Int) != (p1.length : Int)) with hb4 | hb4
 ·replace H := iteT hb4 H
  refine HT_true (congrArg Value.bool hb4) ?_
  refine HT_seq_k ?_
  intro K5 hK5
  refine HT_region ?_
  refine HL_cons rfl ?_
  refine o_assign ?_
  try dsimp only [putL, setL, evL, getL]
  refine HL_nil ?_
  refine hK5 _ _ ?_
  refine HT_ret ?_
  exact hQr _ _ [.bool false] ⟨rfl, trivial⟩ (retH (fun r => laws_eqIntS.post sb s F0 r _ _) (show some _ = some r from H) ⟨rfl, hH⟩)
 ·replace H := iteF hb4 H
  refine HT_false (congrArg Value.bool hb4) ?_
  refine HT_skip ?_
  refine hK2 _ _ ?_
  refine HT_seq_k ?_
  intro K6 hK6
  refine HT_seq_k ?_
  intro K7 hK7
  refine HT_region ?_
  refine HL_cons rfl ?_
  refine o_assign ?_
  try dsimp only [putL, setL, evL, getL]
  refine HL_nil ?_
  refine hK7 _ _ ?_
  refine joinH H fun G8 hG8 H => ?_
  refine HT_toK (fun l' s' => G8 (.go ()) = some r ∧ l' = [.slice A0p p0.length c0p, .slice A1p p1.length c1p, undef, undef, getL l' 4, getL l' 5, .slice A0p p0.length c0p, .int .i64 (p0.length : Int), .slice A1p p1.length c1p, .int .i64 (p1.length : Int), .bool ((p0.length : Int) != (p1.length : Int)), getL l' 11, getL l' 12, getL l' 13, getL l' 14, getL l' 15, getL l' 16, getL l' 17, getL l' 18, getL l' 19, getL l' 20, getL l' 21, getL l' 22, getL l' 23, getL l' 24, getL l' 25] ∧ Hp sb s F0 s' []) ?_ ?_
  ·intro K8 hK8
   refine HT_block ?_
   refine HT_loopK (fun kf l' s' => ∃ (x48 : Int), (laws_eqIntS.l1 p0 p1 kf x48).bind G8 = some r ∧ l' = [.slice A0p p0.length c0p, .slice A1p p1.length c1p, undef, undef, getL l' 4, .int .i64 x48, .slice A0p p0.length c0p, .int .i64 (p0.length : Int), .slice A1p p1.length c1p, .int .i64 (p1.length : Int), .bool ((p0.length : Int) != (p1.length : Int)), getL l' 11, getL l' 12, getL l' 13, getL l' 14, getL l' 15, getL l' 16, getL l' 17, getL l' 18, getL l' 19, getL l' 20, getL l' 21, getL l' 22, getL l' 23, getL l' 24, getL l' 25] ∧ Hp sb s F0 s' []) ((((p0.length : Int)) - (0)).toNat + 2) ⟨0, H, rfl, hH⟩ ?_
   rintro kf l' s59 ⟨x48, H, hl, hH⟩ K59 hK59
   generalize getL l' 4 = j4, getL l' 11 = j11, getL l' 12 = j12, getL l' 13 = j13, getL l' 14 = j14, getL l' 15 = j15, getL l' 16 = j16, getL l' 17 = j17, getL l' 18 = j18, getL l' 19 = j19, getL l' 20 = j20, getL l' 21 = j21, getL l' 22 = j22, getL l' 23 = j23, getL l' 24 = j24, getL l' 25 = j25 at hl
   subst hl
   cases kf with
   | zero => simp [laws_eqIntS.l1] at H
   | succ kf =>
    rw [laws_eqIntS.l1] at H
    refine HT_seq_k ?_
    intro K60 hK60
    refine HT_seq_k ?_
    intro K61 hK61
    refine HT_region ?_
    refine HL_cons rfl ?_
    refine o_move ?_
    try dsimp only [putL, setL, evL, getL]
    refine HL_cons rfl ?_
    refine o_move ?_
    try dsimp only [putL, setL, evL, getL]
    refine HL_cons rfl ?_
    refine o_len rfl Try.underlying24 ?_
    try dsimp only [putL, setL, evL, getL]
    refine HL_cons rfl ?_
    refine o_bin rfl rfl rfl ?_
    try dsimp only [putL, setL, evL, getL]
    refine HL_nil ?_
    refine hK61 _ _ ?_
    rcases Bool.eq_false_or_eq_true (decide (x48 < (p0.length : Int))) with hb62 | hb62
    ·replace H := iteT hb62 H
     refine HT_true (congrArg Value.bool hb62) ?_
     refine HT_skip ?_
     refine hK60 _ _ ?_
     refine HT_seq_k ?_
     intro K63 hK63
     refine HT_block ?_
     refine HT_seq_k ?_
     intro K64 hK64
     refine HX_draw hMix ?_
     refine HX_lim (R := fun _ => True) (k := 0) (fun s' => Gro s59 s') 10 ?_
     have hR := Gro.refl s59
     have hH0 := hH
     refine HK_readP 0 (v := .slice A0p p0.length c0p) rfl (by kernel_rfl) (fun c l s h => hQp c l s h) rfl (fun s' K hK => ?_) rfl rfl (fun _ => hR) ?_
     ·refine o_move ?_
      exact hK
     try dsimp only [putL, setL, evL, getL]
     refine HK_readP 1 (v := .int .i64 x48) rfl (by kernel_rfl) (fun c l s h => hQp c l s h) rfl (fun s' K hK => ?_) rfl rfl (fun _ => hR) ?_
     ·refine o_move ?_
      exact hK
     try dsimp only [putL, setL, evL, getL]
     replace H := headE H
     obtain ⟨u65, hu65, H⟩ := H
     obtain ⟨b65, o65, cs65, hr65, hh65, hel65⟩ := Rd.elb HRp0 hu65
     obtain rfl := hr65
     refine HK_readP 2 (v := .pointer (some ⟨b65, o65, none⟩)) rfl (by kernel_rfl) (fun c l s h => hQp c l s h) rfl (fun s' K hK => ?_) rfl rfl (fun _ => hR) ?_
     ·refine hel65 s' rfl rfl Try.underlying24 tI3 ?_
      exact hK
     try dsimp only [putL, setL, evL, getL]
     refine HK_read 3 (v := .int .i64 u65) rfl (by kernel_rfl) (fun c l s h => hQp c l s h) rfl (fun s' hR' K hK => ?_) rfl rfl hR ?_
     ·refine o_load' rfl Try.underlying3 rfl ((hh65 (hH0.bs.mono.trans hR'.mono)) 0 _ rfl) ?_
      exact hK
     try dsimp only [putL, setL, evL, getL]
     refine HK_readP 4 (v := .slice A1p p1.length c1p) rfl (by kernel_rfl) (fun c l s h => hQp c l s h) rfl (fun s' K hK => ?_) rfl rfl (fun _ => hR) ?_
     ·refine o_move ?_
      exact hK
     try dsimp only [putL, setL, evL, getL]
     refine HK_readP 5 (v := .int .i64 x48) rfl (by kernel_rfl) (fun c l s h => hQp c l s h) rfl (fun s' K hK => ?_) rfl rfl (fun _ => hR) ?_
     ·refine o_move ?_
      exact hK
     try dsimp only [putL, setL, evL, getL]
     replace H := headE H
     obtain ⟨u66, hu66, H⟩ := H
     obtain ⟨b66, o66, cs66, hr66, hh66, hel66⟩ := Rd.elb HRp1 hu66
     obtain rfl := hr66
     refine HK_readP 6 (v := .pointer (some ⟨b66, o66, none⟩)) rfl (by kernel_rfl) (fun c l s h => hQp c l s h) rfl (fun s' K hK => ?_) rfl rfl (fun _ => hR) ?_
     ·refine hel66 s' rfl rfl Try.underlying24 tI3 ?_
      exact hK
     try dsimp only [putL, setL, evL, getL]
     refine HK_read 7 (v := .int .i64 u66) rfl (by kernel_rfl) (fun c l s h => hQp c l s h) rfl (fun s' hR' K hK => ?_) rfl rfl hR ?_
     ·refine o_load' rfl Try.underlying3 rfl ((hh66 (hH0.bs.mono.trans hR'.mono)) 0 _ rfl) ?_
      exact hK
     try dsimp only [putL, setL, evL, getL]
     refine HK_readP 8 (v := .bool (u65 != u66)) rfl (by kernel_rfl) (fun c l s h => hQp c l s h) rfl (fun s' K hK => ?_) rfl rfl (fun _ => hR) ?_
     ·refine o_bin rfl rfl rfl ?_
      exact hK
     try dsimp only [putL, setL, evL, getL]
     refine HK_done (fun _ => hR) (by kernel_rfl) ?_
     refine hK64 _ _ ?_
     rcases Bool.eq_false_or_eq_true (u65 != u66) with hb67 | hb67
     ·replace H := iteT hb67 H
      refine HT_true (congrArg Value.bool hb67) ?_
      refine HT_seq_k ?_
      intro K68 hK68
      refine HT_region ?_
      refine HL_cons rfl ?_
      refine o_assign ?_
      try dsimp only [putL, setL, evL, getL]
      refine HL_nil ?_
      refine hK68 _ _ ?_
      refine HT_ret ?_
      replace H := escH (fun z hz => hG8 _ hz) H
      exact hQr _ _ [.bool false] ⟨rfl, trivial⟩ (retH (fun r => laws_eqIntS.post sb s F0 r _ _) (show some _ = some r from H) ⟨rfl, hH⟩)
     ·replace H := iteF hb67 H
      refine HT_false (congrArg Value.bool hb67) ?_
      refine HT_skip ?_
      refine hK63 _ _ ?_
      refine HT_region ?_
      refine HL_cons rfl ?_
      refine o_move ?_
      try dsimp only [putL, setL, evL, getL]
      refine HL_cons rfl ?_
      refine o_bin rfl rfl rfl ?_
      try dsimp only [putL, setL, evL, getL]
      refine HL_cons rfl ?_
      refine o_assign ?_
      try dsimp only [putL, setL, evL, getL]
      refine HL_nil ?_
      exact hK59 _ _ ⟨kf, Nat.lt_succ_self kf, IntKind.i64.wrap (x48 + 1), H, rfl, hH⟩
    ·replace H := iteF hb62 H
     refine HT_false (congrArg Value.bool hb62) ?_
     refine HT_exit ?_
     exact hK8 _ _ ⟨H, rfl, hH⟩
  ·rintro l' s69 ⟨H, hl, hH⟩
   generalize getL l' 4 = j4, getL l' 5 = j5, getL l' 11 = j11, getL l' 12 = j12, getL l' 13 = j13, getL l' 14 = j14, getL l' 15 = j15, getL l' 16 = j16, getL l' 17 = j17, getL l' 18 = j18, getL l' 19 = j19, getL l' 20 = j20, getL l' 21 = j21, getL l' 22 = j22, getL l' 23 = j23, getL l' 24 = j24, getL l' 25 = j25 at hl
   subst hl
   replace H := hG8 _ H
   try dsimp only at H
   refine hK6 _ _ ?_
   refine HT_seq_k ?_
   intro K70 hK70
   refine HT_region ?_
   refine HL_cons rfl ?_
   refine o_assign ?_
   try dsimp only [putL, setL, evL, getL]
   refine HL_nil ?_
   refine hK70 _ _ ?_
   refine HT_ret ?_
   exact hQr _ _ [.bool true] ⟨rfl, trivial⟩ (retH (fun r => laws_eqIntS.post sb s F0 r _ _) (show some _ = some r from H) ⟨rfl, hH⟩)
def laws_eqIntSS.l1 (p0 : List (List (Int))) (p1 : List (List (Int))) : Nat → Int → Option (Lo Unit Bool)
 | 0, _ => none
 | kf + 1, x60 => if (decide (x60 < (p0.length : Int))) = true then ((rd? p0 x60).bind fun u80 => (rd? p1 x60).bind fun u82 => (laws_eqIntS.f u80 u82).bind fun u84 => if (!u84) = true then ((some false).bind fun z => some (Lo.ret z)) else (laws_eqIntSS.l1 p0 p1 kf (IntKind.i64.wrap (x60 + 1)))) else (some (Lo.go ()))
def laws_eqIntSS.f (p0 : List (List (Int))) (p1 : List (List (Int))) : Option Bool := if ((p0.length : Int) != (p1.length : Int)) = true then (some false) else ((laws_eqIntSS.l1 p0 p1 ((((p0.length : Int)) - (0)).toNat + 2) 0).bind fun (o : Lo Unit Bool) => match o with | .go () => (some true) | .ret z => some z)
def laws_eqIntSS.post (sb s : St) (F0 : Fp) (r : Bool) : Value → St → Prop := fun v s' => v = .bool r ∧ Hp sb s F0 s' []
set_option maxRecDepth 100000 in
set_option maxHeartbeats 4000000 in
theorem laws_eqIntSS.ok (sb s : St) (F0 : Fp) (A0p : Option Addr) (c0p : Nat) (p0 : List (List (Int))) (A1p : Option Addr) (c1p : Nat) (p1 : List (List (Int))) (HRp0 : Rd (Kd.sl KI) sb A0p c0p p0) (HRp1 : Rd (Kd.sl KI) sb A1p c1p p1) (hH : Hp sb s F0 s []) (r : Bool) (H : laws_eqIntSS.f p0 p1 = some r) : GCall Try.prog 95 #[.slice A0p p0.length c0p, .slice A1p p1.length c1p] s (laws_eqIntSS.post sb s F0 r) := by
 refine GCall_ofk [.tmp 4] [.slice A0p p0.length c0p, .slice A1p p1.length c1p, undef, undef, undef, undef, undef, undef, undef, undef, undef, undef, undef, undef, undef, undef, undef, undef, undef, undef, undef, undef, undef, undef, undef, undef, undef] Try.func95 rfl rfl rfl ?_
 intro w Q hQr hQn hQp
 replace H := topE H
 unfold laws_eqIntSS.f at H
 refine HT_seq_k ?_
 intro K1 hK1
 refine HT_region ?_
 refine HL_cons rfl ?_
 refine o_assign ?_
 try dsimp only [putL, setL, evL, getL]
 refine HL_nil ?_
 refine hK1 _ _ ?_
 refine HT_seq_k ?_
 intro K2 hK2
 refine HT_seq_k ?_
 intro K3 hK3
 refine HT_region ?_
 refine HL_cons rfl ?_
 refine o_move ?_
 try dsimp only [putL, setL, evL, getL]
 refine HL_cons rfl ?_
 refine o_len rfl Try.underlying105 ?_
 try dsimp only [putL, setL, evL, getL]
 refine HL_cons rfl ?_
 refine o_move ?_
 try dsimp only [putL, setL, evL, getL]
 refine HL_cons rfl ?_
 refine o_len rfl Try.underlying105 ?_
 try dsimp only [putL, setL, evL, getL]
 refine HL_cons rfl ?_
 refine o_bin rfl rfl rfl ?_
 try dsimp only [putL, setL, evL, getL]
 refine HL_nil ?_
 refine hK3 _ _ ?_
 rcases Bool.eq_false_or_eq_true ((p0.length : Int) != (p1.length : Int)) with hb4 | hb4
 ·replace H := iteT hb4 H
  refine HT_true (congrArg Value.bool hb4) ?_
  refine HT_seq_k ?_
  intro K5 hK5
  refine HT_region ?_
  refine HL_cons rfl ?_
  refine o_assign ?_
  try dsimp only [putL, setL, evL, getL]
  refine HL_nil ?_
  refine hK5 _ _ ?_
  refine HT_ret ?_
  exact hQr _ _ [.bool false] ⟨rfl, trivial⟩ (retH (fun r => laws_eqIntSS.post sb s F0 r _ _) (show some _ = some r from H) ⟨rfl, hH⟩)
 ·replace H := iteF hb4 H
  refine HT_false (congrArg Value.bool hb4) ?_
  refine HT_skip ?_
  refine hK2 _ _ ?_
  refine HT_seq_k ?_
  intro K6 hK6
  refine HT_seq_k ?_
  intro K7 hK7
  refine HT_region ?_
  refine HL_cons rfl ?_
  refine o_assign ?_
  try dsimp only [putL, setL, evL, getL]
  refine HL_nil ?_
  refine hK7 _ _ ?_
  refine joinH H fun G8 hG8 H => ?_
  refine HT_toK (fun l' s' => G8 (.go ()) = some r ∧ l' = [.slice A0p p0.length c0p, .slice A1p p1.length c1p, undef, undef, getL l' 4, getL l' 5, .slice A0p p0.length c0p, .int .i64 (p0.length : Int), .slice A1p p1.length c1p, .int .i64 (p1.length : Int), .bool ((p0.length : Int) != (p1.length : Int)), getL l' 11, getL l' 12, getL l' 13, getL l' 14, getL l' 15, getL l' 16, getL l' 17, getL l' 18, getL l' 19, getL l' 20, getL l' 21, getL l' 22, getL l' 23, getL l' 24, getL l' 25, getL l' 26] ∧ Hp sb s F0 s' []) ?_ ?_
  ·intro K8 hK8
   refine HT_block ?_
   refine HT_loopK (fun kf l' s' => ∃ (x60 : Int), (laws_eqIntSS.l1 p0 p1 kf x60).bind G8 = some r ∧ l' = [.slice A0p p0.length c0p, .slice A1p p1.length c1p, undef, undef, getL l' 4, .int .i64 x60, .slice A0p p0.length c0p, .int .i64 (p0.length : Int), .slice A1p p1.length c1p, .int .i64 (p1.length : Int), .bool ((p0.length : Int) != (p1.length : Int)), getL l' 11, getL l' 12, getL l' 13, getL l' 14, getL l' 15, getL l' 16, getL l' 17, getL l' 18, getL l' 19, getL l' 20, getL l' 21, getL l' 22, getL l' 23, getL l' 24, getL l' 25, getL l' 26] ∧ Hp sb s F0 s' []) ((((p0.length : Int)) - (0)).toNat + 2) ⟨0, H, rfl, hH⟩ ?_
   rintro kf l' s74 ⟨x60, H, hl, hH⟩ K74 hK74
   generalize getL l' 4 = j4, getL l' 11 = j11, getL l' 12 = j12, getL l' 13 = j13, getL l' 14 = j14, getL l' 15 = j15, getL l' 16 = j16, getL l' 17 = j17, getL l' 18 = j18, getL l' 19 = j19, getL l' 20 = j20, getL l' 21 = j21, getL l' 22 = j22, getL l' 23 = j23, getL l' 24 = j24, getL l' 25 = j25, getL l' 26 = j26 at hl
   subst hl
   cases kf with
   | zero => simp [laws_eqIntSS.l1] at H
   | succ kf =>
    rw [laws_eqIntSS.l1] at H
    refine HT_seq_k ?_
    intro K75 hK75
    refine HT_seq_k ?_
    intro K76 hK76
    refine HT_region ?_
    refine HL_cons rfl ?_
    refine o_move ?_
    try dsimp only [putL, setL, evL, getL]
    refine HL_cons rfl ?_
    refine o_move ?_
    try dsimp only [putL, setL, evL, getL]
    refine HL_cons rfl ?_
    refine o_len rfl Try.underlying105 ?_
    try dsimp only [putL, setL, evL, getL]
    refine HL_cons rfl ?_
    refine o_bin rfl rfl rfl ?_
    try dsimp only [putL, setL, evL, getL]
    refine HL_nil ?_
    refine hK76 _ _ ?_
    rcases Bool.eq_false_or_eq_true (decide (x60 < (p0.length : Int))) with hb77 | hb77
    ·replace H := iteT hb77 H
     refine HT_true (congrArg Value.bool hb77) ?_
     refine HT_skip ?_
     refine hK75 _ _ ?_
     refine HT_seq_k ?_
     intro K78 hK78
     refine HT_block ?_
     refine HT_seq_k ?_
     intro K79 hK79
     refine HX_draw hMix ?_
     refine HX_lim (R := fun _ => True) (k := 0) (fun s' => Gro s74 s') 11 ?_
     have hR := Gro.refl s74
     have hH0 := hH
     refine HK_readP 0 (v := .slice A0p p0.length c0p) rfl (by kernel_rfl) (fun c l s h => hQp c l s h) rfl (fun s' K hK => ?_) rfl rfl (fun _ => hR) ?_
     ·refine o_move ?_
      exact hK
     try dsimp only [putL, setL, evL, getL]
     refine HK_readP 1 (v := .int .i64 x60) rfl (by kernel_rfl) (fun c l s h => hQp c l s h) rfl (fun s' K hK => ?_) rfl rfl (fun _ => hR) ?_
     ·refine o_move ?_
      exact hK
     try dsimp only [putL, setL, evL, getL]
     replace H := headE H
     obtain ⟨u80, hu80, H⟩ := H
     obtain ⟨b80, o80, cs80, hr80, hh80, hel80⟩ := Rd.elb HRp0 hu80
     obtain ⟨A81, c81, rfl, D81⟩ := hr80
     refine HK_readP 2 (v := .pointer (some ⟨b80, o80, none⟩)) rfl (by kernel_rfl) (fun c l s h => hQp c l s h) rfl (fun s' K hK => ?_) rfl rfl (fun _ => hR) ?_
     ·refine hel80 s' rfl rfl Try.underlying105 tI24 ?_
      exact hK
     try dsimp only [putL, setL, evL, getL]
     refine HK_read 3 (v := .slice A81 u80.length c81) rfl (by kernel_rfl) (fun c l s h => hQp c l s h) rfl (fun s' hR' K hK => ?_) rfl rfl hR ?_
     ·refine o_load' rfl Try.underlying24 rfl ((hh80 (hH0.bs.mono.trans hR'.mono)) 0 _ rfl) ?_
      exact hK
     try dsimp only [putL, setL, evL, getL]
     refine HK_readP 4 (v := .slice A1p p1.length c1p) rfl (by kernel_rfl) (fun c l s h => hQp c l s h) rfl (fun s' K hK => ?_) rfl rfl (fun _ => hR) ?_
     ·refine o_move ?_
      exact hK
     try dsimp only [putL, setL, evL, getL]
     refine HK_readP 5 (v := .int .i64 x60) rfl (by kernel_rfl) (fun c l s h => hQp c l s h) rfl (fun s' K hK => ?_) rfl rfl (fun _ => hR) ?_
     ·refine o_move ?_
      exact hK
     try dsimp only [putL, setL, evL, getL]
     replace H := headE H
     obtain ⟨u82, hu82, H⟩ := H
     obtain ⟨b82, o82, cs82, hr82, hh82, hel82⟩ := Rd.elb HRp1 hu82
     obtain ⟨A83, c83, rfl, D83⟩ := hr82
     refine HK_readP 6 (v := .pointer (some ⟨b82, o82, none⟩)) rfl (by kernel_rfl) (fun c l s h => hQp c l s h) rfl (fun s' K hK => ?_) rfl rfl (fun _ => hR) ?_
     ·refine hel82 s' rfl rfl Try.underlying105 tI24 ?_
      exact hK
     try dsimp only [putL, setL, evL, getL]
     refine HK_read 7 (v := .slice A83 u82.length c83) rfl (by kernel_rfl) (fun c l s h => hQp c l s h) rfl (fun s' hR' K hK => ?_) rfl rfl hR ?_
     ·refine o_load' rfl Try.underlying24 rfl ((hh82 (hH0.bs.mono.trans hR'.mono)) 0 _ rfl) ?_
      exact hK
     try dsimp only [putL, setL, evL, getL]
     refine HK_more [8] (by kernel_rfl) rfl (fun _ => hR) ⟨⟨_, rfl, Or.inl ⟨rfl, ?_⟩⟩, trivial⟩
     replace H := headE H
     obtain ⟨u84, hu84, H⟩ := H
     skip
     refine o_call (args := #[.slice A81 u80.length c81, .slice A83 u82.length c83]) Try.func63 rfl rfl rfl (laws_eqIntS.ok sb s74 no A81 c81 u80 A83 c83 u82 D81 D83 (Hp.own hH.bs) _ hu84) ?_
     rintro _ s84 ⟨rfl, hD⟩
     replace hR := hR.trans hD.gro
     replace hH := hH.back0 hD (Up.refl _ _ _)
     clear hD
     dsimp only [addC, setC, rmC, selC, getC] at hH
     try dsimp only [putL, setL, evL, getL]
     refine HK_readP 9 (v := .bool (!u84)) rfl (by kernel_rfl) (fun c l s h => hQp c l s h) rfl (fun s' K hK => ?_) rfl rfl (fun _ => hR) ?_
     ·refine o_not rfl ?_
      exact hK
     try dsimp only [putL, setL, evL, getL]
     refine HK_done (fun _ => hR) (by kernel_rfl) ?_
     refine hK79 _ _ ?_
     rcases Bool.eq_false_or_eq_true (!u84) with hb85 | hb85
     ·replace H := iteT hb85 H
      refine HT_true (congrArg Value.bool hb85) ?_
      refine HT_seq_k ?_
      intro K86 hK86
      refine HT_region ?_
      refine HL_cons rfl ?_
      refine o_assign ?_
      try dsimp only [putL, setL, evL, getL]
      refine HL_nil ?_
      refine hK86 _ _ ?_
      refine HT_ret ?_
      replace H := escH (fun z hz => hG8 _ hz) H
      exact hQr _ _ [.bool false] ⟨rfl, trivial⟩ (retH (fun r => laws_eqIntSS.post sb s F0 r _ _) (show some _ = some r from H) ⟨rfl, hH⟩)
     ·replace H := iteF hb85 H
      refine HT_false (congrArg Value.bool hb85) ?_
      refine HT_skip ?_
      refine hK78 _ _ ?_
      refine HT_region ?_
      refine HL_cons rfl ?_
      refine o_move ?_
      try dsimp only [putL, setL, evL, getL]
      refine HL_cons rfl ?_
      refine o_bin rfl rfl rfl ?_
      try dsimp only [putL, setL, evL, getL]
      refine HL_cons rfl ?_
      refine o_assign ?_
      try dsimp only [putL, setL, evL, getL]
      refine HL_nil ?_
      exact hK74 _ _ ⟨kf, Nat.lt_succ_self kf, IntKind.i64.wrap (x60 + 1), H, rfl, hH⟩
    ·replace H := iteF hb77 H
     refine HT_false (congrArg Value.bool hb77) ?_
     refine HT_exit ?_
     exact hK8 _ _ ⟨H, rfl, hH⟩
  ·rintro l' s87 ⟨H, hl, hH⟩
   generalize getL l' 4 = j4, getL l' 5 = j5, getL l' 11 = j11, getL l' 12 = j12, getL l' 13 = j13, getL l' 14 = j14, getL l' 15 = j15, getL l' 16 = j16, getL l' 17 = j17, getL l' 18 = j18, getL l' 19 = j19, getL l' 20 = j20, getL l' 21 = j21, getL l' 22 = j22, getL l' 23 = j23, getL l' 24 = j24, getL l' 25 = j25, getL l' 26 = j26 at hl
   subst hl
   replace H := hG8 _ H
   try dsimp only at H
   refine hK6 _ _ ?_
   refine HT_seq_k ?_
   intro K88 hK88
   refine HT_region ?_
   refine HL_cons rfl ?_
   refine o_assign ?_
   try dsimp only [putL, setL, evL, getL]
   refine HL_nil ?_
   refine hK88 _ _ ?_
   refine HT_ret ?_
   exact hQr _ _ [.bool true] ⟨rfl, trivial⟩ (retH (fun r => laws_eqIntSS.post sb s F0 r _ _) (show some _ = some r from H) ⟨rfl, hH⟩)
def laws_eqRe.f (p0_0 : Int) (p0_1 : List (Int)) (p1_0 : Int) (p1_1 : List (Int)) : Option Bool := if (p0_0 != p1_0) = true then (some false) else ((laws_eqIntS.f p0_1 p1_1).bind fun u10 => if (!u10) = true then (some false) else (some true))
def laws_eqRe.post (sb s : St) (F0 : Fp) (r : Bool) : Value → St → Prop := fun v s' => v = .bool r ∧ Hp sb s F0 s' []
set_option maxRecDepth 100000 in
set_option maxHeartbeats 4000000 in
theorem laws_eqRe.ok (sb s : St) (F0 : Fp) (p0_0 : Int) (A0_1p : Option Addr) (c0_1p : Nat) (p0_1 : List (Int)) (p1_0 : Int) (A1_1p : Option Addr) (c1_1p : Nat) (p1_1 : List (Int)) (HRp0_1 : Rd KI sb A0_1p c0_1p p0_1) (HRp1_1 : Rd KI sb A1_1p c1_1p p1_1) (hH : Hp sb s F0 s []) (r : Bool) (H : laws_eqRe.f p0_0 p0_1 p1_0 p1_1 = some r) : GCall Try.prog 138 #[.agg #[.int .i64 p0_0, .slice A0_1p p0_1.length c0_1p], .agg #[.int .i64 p1_0, .slice A1_1p p1_1.length c1_1p]] s (laws_eqRe.post sb s F0 r) := by
 refine GCall_ofk [.tmp 4] [.agg #[.int .i64 p0_0, .slice A0_1p p0_1.length c0_1p], .agg #[.int .i64 p1_0, .slice A1_1p p1_1.length c1_1p], undef, undef, undef, undef, undef, undef, undef, undef, undef, undef, undef, undef, undef, undef] Try.func138 rfl rfl rfl ?_
 intro w Q hQr hQn hQp
 replace H := topE H
 unfold laws_eqRe.f at H
 refine HT_seq_k ?_
 intro K1 hK1
 refine HT_region ?_
 refine HL_cons rfl ?_
 refine o_boxH hH rfl ?_
 intro b2 s2 hH' hG
 replace hH : Hp sb s F0 s2 [Ck.ov b2 [.int .i64 p0_0, .slice A0_1p p0_1.length c0_1p] 139] := hH'
 clear hH' hG
 try dsimp only [putL, setL, evL, getL]
 refine HL_cons rfl ?_
 refine o_boxH hH rfl ?_
 intro b3 s3 hH' hG
 replace hH : Hp sb s F0 s3 [Ck.ov b2 [.int .i64 p0_0, .slice A0_1p p0_1.length c0_1p] 139, Ck.ov b3 [.int .i64 p1_0, .slice A1_1p p1_1.length c1_1p] 139] := hH'
 clear hH' hG
 try dsimp only [putL, setL, evL, getL]
 refine HL_cons rfl ?_
 refine o_assign ?_
 try dsimp only [putL, setL, evL, getL]
 refine HL_nil ?_
 refine hK1 _ _ ?_
 refine HT_seq_k ?_
 intro K4 hK4
 refine HT_seq_k ?_
 intro K5 hK5
 refine HT_region ?_
 refine HL_cons rfl ?_
 refine o_faddr' (ft := 3) (off := 0) rfl Try.underlying139 rfl tI3 (by decide) ?_
 try dsimp only [putL, setL, evL, getL]
 refine HL_cons rfl ?_
 refine o_load' rfl Try.underlying3 rfl (hH.hasv 0 rfl rfl) ?_
 try dsimp only [putL, setL, evL, getL]
 refine HL_cons rfl ?_
 refine o_faddr' (ft := 3) (off := 0) rfl Try.underlying139 rfl tI3 (by decide) ?_
 try dsimp only [putL, setL, evL, getL]
 refine HL_cons rfl ?_
 refine o_load' rfl Try.underlying3 rfl (hH.hasv 1 rfl rfl) ?_
 try dsimp only [putL, setL, evL, getL]
 refine HL_cons rfl ?_
 refine o_bin rfl rfl rfl ?_
 try dsimp only [putL, setL, evL, getL]
 refine HL_nil ?_
 refine hK5 _ _ ?_
 rcases Bool.eq_false_or_eq_true (p0_0 != p1_0) with hb6 | hb6
 ·replace H := iteT hb6 H
  refine HT_true (congrArg Value.bool hb6) ?_
  refine HT_seq_k ?_
  intro K7 hK7
  refine HT_region ?_
  refine HL_cons rfl ?_
  refine o_assign ?_
  try dsimp only [putL, setL, evL, getL]
  refine HL_nil ?_
  refine hK7 _ _ ?_
  refine HT_ret ?_
  exact hQr _ _ [.bool false] ⟨rfl, trivial⟩ (retH (fun r => laws_eqRe.post sb s F0 r _ _) (show some _ = some r from H) ⟨rfl, hH.sel [] (by decide)⟩)
 ·replace H := iteF hb6 H
  refine HT_false (congrArg Value.bool hb6) ?_
  refine HT_skip ?_
  refine hK4 _ _ ?_
  refine HT_seq_k ?_
  intro K8 hK8
  refine HT_seq_k ?_
  intro K9 hK9
  refine HT_region ?_
  refine HL_cons rfl ?_
  refine o_faddr' (ft := 24) (off := 1) rfl Try.underlying139 rfl tI24 (by decide) ?_
  try dsimp only [putL, setL, evL, getL]
  refine HL_cons rfl ?_
  refine o_load' rfl Try.underlying24 rfl (hH.hasv 0 rfl rfl) ?_
  try dsimp only [putL, setL, evL, getL]
  refine HL_cons rfl ?_
  refine o_faddr' (ft := 24) (off := 1) rfl Try.underlying139 rfl tI24 (by decide) ?_
  try dsimp only [putL, setL, evL, getL]
  refine HL_cons rfl ?_
  refine o_load' rfl Try.underlying24 rfl (hH.hasv 1 rfl rfl) ?_
  try dsimp only [putL, setL, evL, getL]
  replace H := headE H
  obtain ⟨u10, hu10, H⟩ := H
  refine HL_cons rfl ?_
  refine o_call (args := #[.slice A0_1p p0_1.length c0_1p, .slice A1_1p p1_1.length c1_1p]) Try.func63 rfl rfl rfl (laws_eqIntS.ok sb s3 no A0_1p c0_1p p0_1 A1_1p c1_1p p1_1 HRp0_1 HRp1_1 (Hp.own hH.bs) _ hu10) ?_
  rintro _ s10 ⟨rfl, hD⟩
  replace hH := hH.back0 hD (Up.refl _ _ _)
  clear hD
  dsimp only [addC, setC, rmC, selC, getC] at hH
  try dsimp only [putL, setL, evL, getL]
  refine HL_cons rfl ?_
  refine o_not rfl ?_
  try dsimp only [putL, setL, evL, getL]
  refine HL_nil ?_
  refine hK9 _ _ ?_
  rcases Bool.eq_false_or_eq_true (!u10) with hb11 | hb11
  ·replace H := iteT hb11 H
   refine HT_true (congrArg Value.bool hb11) ?_
   refine HT_seq_k ?_
   intro K12 hK12
   refine HT_region ?_
   refine HL_cons rfl ?_
   refine o_assign ?_
   try dsimp only [putL, setL, evL, getL]
   refine HL_nil ?_
   refine hK12 _ _ ?_
   refine HT_ret ?_
   exact hQr _ _ [.bool false] ⟨rfl, trivial⟩ (retH (fun r => laws_eqRe.post sb s F0 r _ _) (show some _ = some r from H) ⟨rfl, hH.sel [] (by decide)⟩)
  ·replace H := iteF hb11 H
   refine HT_false (congrArg Value.bool hb11) ?_
   refine HT_skip ?_
   refine hK8 _ _ ?_
   refine HT_seq_k ?_
   intro K13 hK13
   refine HT_region ?_
   refine HL_cons rfl ?_
   refine o_assign ?_
   try dsimp only [putL, setL, evL, getL]
   refine HL_nil ?_
   refine hK13 _ _ ?_
   refine HT_ret ?_
   exact hQr _ _ [.bool true] ⟨rfl, trivial⟩ (retH (fun r => laws_eqRe.post sb s F0 r _ _) (show some _ = some r from H) ⟨rfl, hH.sel [] (by decide)⟩)
def laws_eqReS.l1 (p0 : List ((Int) × (List (Int)))) (p1 : List ((Int) × (List (Int)))) : Nat → Int → Option (Lo Unit Bool)
 | 0, _ => none
 | kf + 1, x60 => if (decide (x60 < (p0.length : Int))) = true then ((rd? p0 x60).bind fun u80 => (rd? p1 x60).bind fun u82 => (laws_eqRe.f u80.1 u80.2 u82.1 u82.2).bind fun u84 => if (!u84) = true then ((some false).bind fun z => some (Lo.ret z)) else (laws_eqReS.l1 p0 p1 kf (IntKind.i64.wrap (x60 + 1)))) else (some (Lo.go ()))
def laws_eqReS.f (p0 : List ((Int) × (List (Int)))) (p1 : List ((Int) × (List (Int)))) : Option Bool := if ((p0.length : Int) != (p1.length : Int)) = true then (some false) else ((laws_eqReS.l1 p0 p1 ((((p0.length : Int)) - (0)).toNat + 2) 0).bind fun (o : Lo Unit Bool) => match o with | .go () => (some true) | .ret z => some z)
def laws_eqReS.post (sb s : St) (F0 : Fp) (r : Bool) : Value → St → Prop := fun v s' => v = .bool r ∧ Hp sb s F0 s' []
set_option maxRecDepth 100000 in
set_option maxHeartbeats 4000000 in
theorem laws_eqReS.ok (sb s : St) (F0 : Fp) (A0p : Option Addr) (c0p : Nat) (p0 : List ((Int) × (List (Int)))) (A1p : Option Addr) (c1p : Nat) (p1 : List ((Int) × (List (Int)))) (HRp0 : Rd KS139 sb A0p c0p p0) (HRp1 : Rd KS139 sb A1p c1p p1) (hH : Hp sb s F0 s []) (r : Bool) (H : laws_eqReS.f p0 p1 = some r) : GCall Try.prog 44 #[.slice A0p p0.length c0p, .slice A1p p1.length c1p] s (laws_eqReS.post sb s F0 r) := by
 refine GCall_ofk [.tmp 4] [.slice A0p p0.length c0p, .slice A1p p1.length c1p, undef, undef, undef, undef, undef, undef, undef, undef, undef, undef, undef, undef, undef, undef, undef, undef, undef, undef, undef, undef, undef, undef, undef, undef, undef] Try.func44 rfl rfl rfl ?_
 intro w Q hQr hQn hQp
 replace H := topE H
 unfold laws_eqReS.f at H
 refine HT_seq_k ?_
 intro K1 hK1
 refine HT_region ?_
 refine HL_cons rfl ?_
 refine o_assign ?_
 try dsimp only [putL, setL, evL, getL]
 refine HL_nil ?_
 refine hK1 _ _ ?_
 refine HT_seq_k ?_
 intro K2 hK2
 refine HT_seq_k ?_
 intro K3 hK3
 refine HT_region ?_
 refine HL_cons rfl ?_
 refine o_move ?_
 try dsimp only [putL, setL, evL, getL]
 refine HL_cons rfl ?_
 refine o_len rfl Try.underlying57 ?_
 try dsimp only [putL, setL, evL, getL]
 refine HL_cons rfl ?_
 refine o_move ?_
 try dsimp only [putL, setL, evL, getL]
 refine HL_cons rfl ?_
 refine o_len rfl Try.underlying57 ?_
 try dsimp only [putL, setL, evL, getL]
 refine HL_cons rfl ?_
 refine o_bin rfl rfl rfl ?_
 try dsimp only [putL, setL, evL, getL]
 refine HL_nil ?_
 refine hK3 _ _ ?_
 rcases Bool.eq_false_or_eq_true ((p0.length : Int) != (p1.length : Int)) with hb4 | hb4
 ·replace H := iteT hb4 H
  refine HT_true (congrArg Value.bool hb4) ?_
  refine HT_seq_k ?_
  intro K5 hK5
  refine HT_region ?_
  refine HL_cons rfl ?_
  refine o_assign ?_
  try dsimp only [putL, setL, evL, getL]
  refine HL_nil ?_
  refine hK5 _ _ ?_
  refine HT_ret ?_
  exact hQr _ _ [.bool false] ⟨rfl, trivial⟩ (retH (fun r => laws_eqReS.post sb s F0 r _ _) (show some _ = some r from H) ⟨rfl, hH⟩)
 ·replace H := iteF hb4 H
  refine HT_false (congrArg Value.bool hb4) ?_
  refine HT_skip ?_
  refine hK2 _ _ ?_
  refine HT_seq_k ?_
  intro K6 hK6
  refine HT_seq_k ?_
  intro K7 hK7
  refine HT_region ?_
  refine HL_cons rfl ?_
  refine o_assign ?_
  try dsimp only [putL, setL, evL, getL]
  refine HL_nil ?_
  refine hK7 _ _ ?_
  refine joinH H fun G8 hG8 H => ?_
  refine HT_toK (fun l' s' => G8 (.go ()) = some r ∧ l' = [.slice A0p p0.length c0p, .slice A1p p1.length c1p, undef, undef, getL l' 4, getL l' 5, .slice A0p p0.length c0p, .int .i64 (p0.length : Int), .slice A1p p1.length c1p, .int .i64 (p1.length : Int), .bool ((p0.length : Int) != (p1.length : Int)), getL l' 11, getL l' 12, getL l' 13, getL l' 14, getL l' 15, getL l' 16, getL l' 17, getL l' 18, getL l' 19, getL l' 20, getL l' 21, getL l' 22, getL l' 23, getL l' 24, getL l' 25, getL l' 26] ∧ Hp sb s F0 s' []) ?_ ?_
  ·intro K8 hK8
   refine HT_block ?_
   refine HT_loopK (fun kf l' s' => ∃ (x60 : Int), (laws_eqReS.l1 p0 p1 kf x60).bind G8 = some r ∧ l' = [.slice A0p p0.length c0p, .slice A1p p1.length c1p, undef, undef, getL l' 4, .int .i64 x60, .slice A0p p0.length c0p, .int .i64 (p0.length : Int), .slice A1p p1.length c1p, .int .i64 (p1.length : Int), .bool ((p0.length : Int) != (p1.length : Int)), getL l' 11, getL l' 12, getL l' 13, getL l' 14, getL l' 15, getL l' 16, getL l' 17, getL l' 18, getL l' 19, getL l' 20, getL l' 21, getL l' 22, getL l' 23, getL l' 24, getL l' 25, getL l' 26] ∧ Hp sb s F0 s' []) ((((p0.length : Int)) - (0)).toNat + 2) ⟨0, H, rfl, hH⟩ ?_
   rintro kf l' s74 ⟨x60, H, hl, hH⟩ K74 hK74
   generalize getL l' 4 = j4, getL l' 11 = j11, getL l' 12 = j12, getL l' 13 = j13, getL l' 14 = j14, getL l' 15 = j15, getL l' 16 = j16, getL l' 17 = j17, getL l' 18 = j18, getL l' 19 = j19, getL l' 20 = j20, getL l' 21 = j21, getL l' 22 = j22, getL l' 23 = j23, getL l' 24 = j24, getL l' 25 = j25, getL l' 26 = j26 at hl
   subst hl
   cases kf with
   | zero => simp [laws_eqReS.l1] at H
   | succ kf =>
    rw [laws_eqReS.l1] at H
    refine HT_seq_k ?_
    intro K75 hK75
    refine HT_seq_k ?_
    intro K76 hK76
    refine HT_region ?_
    refine HL_cons rfl ?_
    refine o_move ?_
    try dsimp only [putL, setL, evL, getL]
    refine HL_cons rfl ?_
    refine o_move ?_
    try dsimp only [putL, setL, evL, getL]
    refine HL_cons rfl ?_
    refine o_len rfl Try.underlying57 ?_
    try dsimp only [putL, setL, evL, getL]
    refine HL_cons rfl ?_
    refine o_bin rfl rfl rfl ?_
    try dsimp only [putL, setL, evL, getL]
    refine HL_nil ?_
    refine hK76 _ _ ?_
    rcases Bool.eq_false_or_eq_true (decide (x60 < (p0.length : Int))) with hb77 | hb77
    ·replace H := iteT hb77 H
     refine HT_true (congrArg Value.bool hb77) ?_
     refine HT_skip ?_
     refine hK75 _ _ ?_
     refine HT_seq_k ?_
     intro K78 hK78
     refine HT_block ?_
     refine HT_seq_k ?_
     intro K79 hK79
     refine HX_draw hMix ?_
     refine HX_lim (R := fun _ => True) (k := 0) (fun s' => Gro s74 s') 11 ?_
     have hR := Gro.refl s74
     have hH0 := hH
     refine HK_readP 0 (v := .slice A0p p0.length c0p) rfl (by kernel_rfl) (fun c l s h => hQp c l s h) rfl (fun s' K hK => ?_) rfl rfl (fun _ => hR) ?_
     ·refine o_move ?_
      exact hK
     try dsimp only [putL, setL, evL, getL]
     refine HK_readP 1 (v := .int .i64 x60) rfl (by kernel_rfl) (fun c l s h => hQp c l s h) rfl (fun s' K hK => ?_) rfl rfl (fun _ => hR) ?_
     ·refine o_move ?_
      exact hK
     try dsimp only [putL, setL, evL, getL]
     replace H := headE H
     obtain ⟨u80, hu80, H⟩ := H
     obtain ⟨b80, o80, cs80, hr80, hh80, hel80⟩ := Rd.elb HRp0 hu80
     obtain ⟨_, _, rfl, rfl, ⟨A81, c81, rfl, D81⟩⟩ := hr80
     refine HK_readP 2 (v := .pointer (some ⟨b80, o80, none⟩)) rfl (by kernel_rfl) (fun c l s h => hQp c l s h) rfl (fun s' K hK => ?_) rfl rfl (fun _ => hR) ?_
     ·refine hel80 s' rfl rfl Try.underlying57 tI139 ?_
      exact hK
     try dsimp only [putL, setL, evL, getL]
     refine HK_read 3 (v := .agg #[.int .i64 u80.1, .slice A81 u80.2.length c81]) rfl (by kernel_rfl) (fun c l s h => hQp c l s h) rfl (fun s' hR' K hK => ?_) rfl rfl hR ?_
     ·refine o_loads' [.int .i64 u80.1, .slice A81 u80.2.length c81] rfl Try.underlying139 rfl tI139 rfl (fun j v hj => (hh80 (hH0.bs.mono.trans hR'.mono)) j v hj) ?_
      exact hK
     try dsimp only [putL, setL, evL, getL]
     refine HK_readP 4 (v := .slice A1p p1.length c1p) rfl (by kernel_rfl) (fun c l s h => hQp c l s h) rfl (fun s' K hK => ?_) rfl rfl (fun _ => hR) ?_
     ·refine o_move ?_
      exact hK
     try dsimp only [putL, setL, evL, getL]
     refine HK_readP 5 (v := .int .i64 x60) rfl (by kernel_rfl) (fun c l s h => hQp c l s h) rfl (fun s' K hK => ?_) rfl rfl (fun _ => hR) ?_
     ·refine o_move ?_
      exact hK
     try dsimp only [putL, setL, evL, getL]
     replace H := headE H
     obtain ⟨u82, hu82, H⟩ := H
     obtain ⟨b82, o82, cs82, hr82, hh82, hel82⟩ := Rd.elb HRp1 hu82
     obtain ⟨_, _, rfl, rfl, ⟨A83, c83, rfl, D83⟩⟩ := hr82
     refine HK_readP 6 (v := .pointer (some ⟨b82, o82, none⟩)) rfl (by kernel_rfl) (fun c l s h => hQp c l s h) rfl (fun s' K hK => ?_) rfl rfl (fun _ => hR) ?_
     ·refine hel82 s' rfl rfl Try.underlying57 tI139 ?_
      exact hK
     try dsimp only [putL, setL, evL, getL]
     refine HK_read 7 (v := .agg #[.int .i64 u82.1, .slice A83 u82.2.length c83]) rfl (by kernel_rfl) (fun c l s h => hQp c l s h) rfl (fun s' hR' K hK => ?_) rfl rfl hR ?_
     ·refine o_loads' [.int .i64 u82.1, .slice A83 u82.2.length c83] rfl Try.underlying139 rfl tI139 rfl (fun j v hj => (hh82 (hH0.bs.mono.trans hR'.mono)) j v hj) ?_
      exact hK
     try dsimp only [putL, setL, evL, getL]
     refine HK_more [8] (by kernel_rfl) rfl (fun _ => hR) ⟨⟨_, rfl, Or.inl ⟨rfl, ?_⟩⟩, trivial⟩
     replace H := headE H
     obtain ⟨u84, hu84, H⟩ := H
     skip
     refine o_call (args := #[.agg #[.int .i64 u80.1, .slice A81 u80.2.length c81], .agg #[.int .i64 u82.1, .slice A83 u82.2.length c83]]) Try.func138 rfl rfl rfl (laws_eqRe.ok sb s74 no u80.1 A81 c81 u80.2 u82.1 A83 c83 u82.2 D81 D83 (Hp.own hH.bs) _ hu84) ?_
     rintro _ s84 ⟨rfl, hD⟩
     replace hR := hR.trans hD.gro
     replace hH := hH.back0 hD (Up.refl _ _ _)
     clear hD
     dsimp only [addC, setC, rmC, selC, getC] at hH
     try dsimp only [putL, setL, evL, getL]
     refine HK_readP 9 (v := .bool (!u84)) rfl (by kernel_rfl) (fun c l s h => hQp c l s h) rfl (fun s' K hK => ?_) rfl rfl (fun _ => hR) ?_
     ·refine o_not rfl ?_
      exact hK
     try dsimp only [putL, setL, evL, getL]
     refine HK_done (fun _ => hR) (by kernel_rfl) ?_
     refine hK79 _ _ ?_
     rcases Bool.eq_false_or_eq_true (!u84) with hb85 | hb85
     ·replace H := iteT hb85 H
      refine HT_true (congrArg Value.bool hb85) ?_
      refine HT_seq_k ?_
      intro K86 hK86
      refine HT_region ?_
      refine HL_cons rfl ?_
      refine o_assign ?_
      try dsimp only [putL, setL, evL, getL]
      refine HL_nil ?_
      refine hK86 _ _ ?_
      refine HT_ret ?_
      replace H := escH (fun z hz => hG8 _ hz) H
      exact hQr _ _ [.bool false] ⟨rfl, trivial⟩ (retH (fun r => laws_eqReS.post sb s F0 r _ _) (show some _ = some r from H) ⟨rfl, hH⟩)
     ·replace H := iteF hb85 H
      refine HT_false (congrArg Value.bool hb85) ?_
      refine HT_skip ?_
      refine hK78 _ _ ?_
      refine HT_region ?_
      refine HL_cons rfl ?_
      refine o_move ?_
      try dsimp only [putL, setL, evL, getL]
      refine HL_cons rfl ?_
      refine o_bin rfl rfl rfl ?_
      try dsimp only [putL, setL, evL, getL]
      refine HL_cons rfl ?_
      refine o_assign ?_
      try dsimp only [putL, setL, evL, getL]
      refine HL_nil ?_
      exact hK74 _ _ ⟨kf, Nat.lt_succ_self kf, IntKind.i64.wrap (x60 + 1), H, rfl, hH⟩
    ·replace H := iteF hb77 H
     refine HT_false (congrArg Value.bool hb77) ?_
     refine HT_exit ?_
     exact hK8 _ _ ⟨H, rfl, hH⟩
  ·rintro l' s87 ⟨H, hl, hH⟩
   generalize getL l' 4 = j4, getL l' 5 = j5, getL l' 11 = j11, getL l' 12 = j12, getL l' 13 = j13, getL l' 14 = j14, getL l' 15 = j15, getL l' 16 = j16, getL l' 17 = j17, getL l' 18 = j18, getL l' 19 = j19, getL l' 20 = j20, getL l' 21 = j21, getL l' 22 = j22, getL l' 23 = j23, getL l' 24 = j24, getL l' 25 = j25, getL l' 26 = j26 at hl
   subst hl
   replace H := hG8 _ H
   try dsimp only at H
   refine hK6 _ _ ?_
   refine HT_seq_k ?_
   intro K88 hK88
   refine HT_region ?_
   refine HL_cons rfl ?_
   refine o_assign ?_
   try dsimp only [putL, setL, evL, getL]
   refine HL_nil ?_
   refine hK88 _ _ ?_
   refine HT_ret ?_
   exact hQr _ _ [.bool true] ⟨rfl, trivial⟩ (retH (fun r => laws_eqReS.post sb s F0 r _ _) (show some _ = some r from H) ⟨rfl, hH⟩)
def laws_markIntS.l1 (p0 : List (Int)) : Nat → (List (Int)) → Int → Int → Option (Int × (List (Int)))
 | 0, _, _, _ => none
 | kf + 1, x42, x43, x44 => if (decide (x44 < (p0.length : Int))) = true then ((rd? x42 x44).bind fun u61 => (st? x42 x44 x43).bind fun x62 => laws_markIntS.l1 p0 kf x62 (IntKind.i64.wrap (x43 + 1)) (IntKind.i64.wrap (x44 + 1))) else (some (x43, x42))
def laws_markIntS.f (p0 : List (Int)) (p1 : Int) : Option (Int × (List (Int))) := (laws_markIntS.l1 p0 ((((p0.length : Int)) - (0)).toNat + 2) p0 p1 0).bind fun (o : Int × (List (Int))) => match o with | (x33, x34) => (some (x33, x34))
def laws_markIntS.post (sb s : St) (F0 : Fp) (A0p : Option Addr) (c0p : Nat) (p0 : List (Int)) (r : Int × (List (Int))) : Value → St → Prop := fun v s' => v = .int .i64 r.1 ∧ Hp sb s F0 s' [Ck.ol OI 3 A0p c0p r.2] ∧ r.2.length = p0.length
set_option maxRecDepth 100000 in
set_option maxHeartbeats 4000000 in
theorem laws_markIntS.ok (sb s : St) (F0 : Fp) (A0p : Option Addr) (c0p : Nat) (p0 : List (Int)) (p1 : Int) (hH : Hp sb s F0 s [Ck.ol OI 3 A0p c0p p0]) (r : Int × (List (Int))) (H : laws_markIntS.f p0 p1 = some r) : GCall Try.prog 89 #[.slice A0p p0.length c0p, .int .i64 p1] s (laws_markIntS.post sb s F0 A0p c0p p0 r) := by
 refine GCall_ofk [.tmp 4] [.slice A0p p0.length c0p, .int .i64 p1, undef, undef, undef, undef, undef, undef, undef, undef, undef, undef, undef, undef, undef, undef, undef, undef, undef] Try.func89 rfl rfl rfl ?_
 intro w Q hQr hQn hQp
 replace H := topE H
 unfold laws_markIntS.f at H
 refine HT_seq_k ?_
 intro K1 hK1
 refine HT_region ?_
 refine HL_cons rfl ?_
 refine o_assign ?_
 try dsimp only [putL, setL, evL, getL]
 refine HL_nil ?_
 refine hK1 _ _ ?_
 refine HT_seq_k ?_
 intro K2 hK2
 refine HT_seq_k ?_
 intro K3 hK3
 refine HT_region ?_
 refine HL_cons rfl ?_
 refine o_assign ?_
 try dsimp only [putL, setL, evL, getL]
 refine HL_nil ?_
 refine hK3 _ _ ?_
 refine joinH H fun G4 hG4 H => ?_
 refine HT_toK (fun l' s' => ∃ (x33 : Int) (x34 : List (Int)), G4 (x33, x34) = some r ∧ l' = [.slice A0p p0.length c0p, .int .i64 x33, undef, undef, .int .i64 0, getL l' 5, getL l' 6, getL l' 7, getL l' 8, getL l' 9, getL l' 10, getL l' 11, getL l' 12, getL l' 13, getL l' 14, getL l' 15, getL l' 16, getL l' 17, undef] ∧ Hp sb s F0 s' [Ck.ol OI 3 A0p c0p x34] ∧ x34.length = p0.length) ?_ ?_
 ·intro K4 hK4
  refine HT_block ?_
  refine HT_loopK (fun kf l' s' => ∃ (x42 : List (Int)) (x43 : Int) (x44 : Int), (laws_markIntS.l1 p0 kf x42 x43 x44).bind G4 = some r ∧ l' = [.slice A0p p0.length c0p, .int .i64 x43, undef, undef, .int .i64 0, .int .i64 x44, getL l' 6, getL l' 7, getL l' 8, getL l' 9, getL l' 10, getL l' 11, getL l' 12, getL l' 13, getL l' 14, getL l' 15, getL l' 16, getL l' 17, undef] ∧ Hp sb s F0 s' [Ck.ol OI 3 A0p c0p x42] ∧ x42.length = p0.length) ((((p0.length : Int)) - (0)).toNat + 2) ⟨p0, p1, 0, H, rfl, hH, rfl⟩ ?_
  rintro kf l' s55 ⟨x42, x43, x44, H, hl, hH, hl42⟩ K55 hK55
  generalize getL l' 6 = j6, getL l' 7 = j7, getL l' 8 = j8, getL l' 9 = j9, getL l' 10 = j10, getL l' 11 = j11, getL l' 12 = j12, getL l' 13 = j13, getL l' 14 = j14, getL l' 15 = j15, getL l' 16 = j16, getL l' 17 = j17 at hl
  subst hl
  cases kf with
  | zero => simp [laws_markIntS.l1] at H
  | succ kf =>
   rw [laws_markIntS.l1] at H
   refine HT_seq_k ?_
   intro K56 hK56
   refine HT_seq_k ?_
   intro K57 hK57
   refine HT_region ?_
   refine HL_cons rfl ?_
   refine o_move ?_
   try dsimp only [putL, setL, evL, getL]
   refine HL_cons rfl ?_
   refine o_move ?_
   try dsimp only [putL, setL, evL, getL]
   refine HL_cons rfl ?_
   refine o_len rfl Try.underlying24 ?_
   try dsimp only [putL, setL, evL, getL]
   refine HL_cons rfl ?_
   refine o_bin rfl rfl rfl ?_
   try dsimp only [putL, setL, evL, getL]
   refine HL_nil ?_
   refine hK57 _ _ ?_
   rcases Bool.eq_false_or_eq_true (decide (x44 < (p0.length : Int))) with hb58 | hb58
   ·replace H := iteT hb58 H
    refine HT_true (congrArg Value.bool hb58) ?_
    refine HT_skip ?_
    refine hK56 _ _ ?_
    refine HT_seq_k ?_
    intro K59 hK59
    refine HT_block ?_
    refine HT_seq_k ?_
    intro K60 hK60
    refine HT_region ?_
    refine HL_cons rfl ?_
    refine o_move ?_
    try dsimp only [putL, setL, evL, getL]
    refine HL_cons rfl ?_
    refine o_move ?_
    try dsimp only [putL, setL, evL, getL]
    refine HL_cons rfl ?_
    refine o_move ?_
    try dsimp only [putL, setL, evL, getL]
    replace H := headE H
    obtain ⟨u61, hu61, H⟩ := H
    obtain ⟨b61, o61, cs61, hA61, hr61, hh61, hel61⟩ := hH.elo 0 rfl hu61
    obtain rfl := hr61
    refine HL_cons rfl ?_
    refine hel61 s55 (sliceLen hl42) rfl Try.underlying24 tI3 ?_
    try dsimp only [putL, setL, evL, getL]
    replace H := headE H
    obtain ⟨x62, hx62, H⟩ := H
    refine HL_cons rfl ?_
    refine o_setF (vs := [.int .i64 x43]) (u := x43) hH 0 rfl rfl rfl rfl rfl tI3 hA61 hx62 (Ent.own (Ent.flat rfl)) ?_
    intro s62 hH'
    have hl62 := (st?_len hx62).trans hl42
    replace hH : Hp sb s F0 s62 [Ck.ol OI 3 A0p c0p x62] := hH'
    clear hH'
    try dsimp only [putL, setL, evL, getL]
    refine HL_nil ?_
    refine hK60 _ _ ?_
    refine HT_region ?_
    refine HL_cons rfl ?_
    refine o_move ?_
    try dsimp only [putL, setL, evL, getL]
    refine HL_cons rfl ?_
    refine o_bin rfl rfl rfl ?_
    try dsimp only [putL, setL, evL, getL]
    refine HL_cons rfl ?_
    refine o_assign ?_
    try dsimp only [putL, setL, evL, getL]
    refine HL_nil ?_
    refine hK59 _ _ ?_
    refine HT_region ?_
    refine HL_cons rfl ?_
    refine o_move ?_
    try dsimp only [putL, setL, evL, getL]
    refine HL_cons rfl ?_
    refine o_bin rfl rfl rfl ?_
    try dsimp only [putL, setL, evL, getL]
    refine HL_cons rfl ?_
    refine o_assign ?_
    try dsimp only [putL, setL, evL, getL]
    refine HL_nil ?_
    exact hK55 _ _ ⟨kf, Nat.lt_succ_self kf, x62, IntKind.i64.wrap (x43 + 1), IntKind.i64.wrap (x44 + 1), H, rfl, hH, hl62⟩
   ·replace H := iteF hb58 H
    refine HT_false (congrArg Value.bool hb58) ?_
    refine HT_exit ?_
    exact hK4 _ _ ⟨x43, x42, H, rfl, hH, hl42⟩
 ·rintro l' s63 ⟨x33, x34, H, hl, hH, hl34⟩
  generalize getL l' 5 = j5, getL l' 6 = j6, getL l' 7 = j7, getL l' 8 = j8, getL l' 9 = j9, getL l' 10 = j10, getL l' 11 = j11, getL l' 12 = j12, getL l' 13 = j13, getL l' 14 = j14, getL l' 15 = j15, getL l' 16 = j16, getL l' 17 = j17 at hl
  subst hl
  replace H := hG4 _ H
  try dsimp only at H
  refine hK2 _ _ ?_
  refine HT_seq_k ?_
  intro K64 hK64
  refine HT_region ?_
  refine HL_cons rfl ?_
  refine o_move ?_
  try dsimp only [putL, setL, evL, getL]
  refine HL_cons rfl ?_
  refine o_assign ?_
  try dsimp only [putL, setL, evL, getL]
  refine HL_nil ?_
  refine hK64 _ _ ?_
  refine HT_ret ?_
  exact hQr _ _ [.int .i64 x33] ⟨rfl, trivial⟩ (retH (fun r => laws_markIntS.post sb s F0 A0p c0p p0 r _ _) (show some _ = some r from H) ⟨rfl, hH, hl34⟩)
def laws_markReS.l1 (p0 : List ((Int) × (List (Int)))) : Nat → (List ((Int) × (List (Int)))) → Int → Int → Option (Int × (List ((Int) × (List (Int)))))
 | 0, _, _, _ => none
 | kf + 1, x78, x79, x80 => if (decide (x80 < (p0.length : Int))) = true then ((rd? x78 x80).bind fun u106 => (st? x78 x80 (x79, u106.2)).bind fun x108 => (rd? x108 x80).bind fun u110 => (laws_markIntS.f u110.2 (IntKind.i64.wrap (x79 + 1))).bind fun u114 => (st? x108 x80 (u110.1, u114.2)).bind fun x116 => laws_markReS.l1 p0 kf x116 u114.1 (IntKind.i64.wrap (x80 + 1))) else (some (x79, x78))
def laws_markReS.f (p0 : List ((Int) × (List (Int)))) (p1 : Int) : Option (Int × (List ((Int) × (List (Int))))) := (laws_markReS.l1 p0 ((((p0.length : Int)) - (0)).toNat + 2) p0 p1 0).bind fun (o : Int × (List ((Int) × (List (Int))))) => match o with | (x60, x61) => (some (x60, x61))
def laws_markReS.post (sb s : St) (F0 : Fp) (A0p : Option Addr) (c0p : Nat) (p0 : List ((Int) × (List (Int)))) (r : Int × (List ((Int) × (List (Int))))) : Value → St → Prop := fun v s' => v = .int .i64 r.1 ∧ Hp sb s F0 s' [Ck.ol OS139 139 A0p c0p r.2] ∧ r.2.length = p0.length
set_option maxRecDepth 100000 in
set_option maxHeartbeats 4000000 in
theorem laws_markReS.ok (sb s : St) (F0 : Fp) (A0p : Option Addr) (c0p : Nat) (p0 : List ((Int) × (List (Int)))) (p1 : Int) (hH : Hp sb s F0 s [Ck.ol OS139 139 A0p c0p p0]) (r : Int × (List ((Int) × (List (Int))))) (H : laws_markReS.f p0 p1 = some r) : GCall Try.prog 45 #[.slice A0p p0.length c0p, .int .i64 p1] s (laws_markReS.post sb s F0 A0p c0p p0 r) := by
 refine GCall_ofk [.tmp 4] [.slice A0p p0.length c0p, .int .i64 p1, undef, undef, undef, undef, undef, undef, undef, undef, undef, undef, undef, undef, undef, undef, undef, undef, undef, undef, undef, undef, undef, undef, undef, undef, undef] Try.func45 rfl rfl rfl ?_
 intro w Q hQr hQn hQp
 replace H := topE H
 unfold laws_markReS.f at H
 refine HT_seq_k ?_
 intro K1 hK1
 refine HT_region ?_
 refine HL_cons rfl ?_
 refine o_assign ?_
 try dsimp only [putL, setL, evL, getL]
 refine HL_nil ?_
 refine hK1 _ _ ?_
 refine HT_seq_k ?_
 intro K2 hK2
 refine HT_seq_k ?_
 intro K3 hK3
 refine HT_region ?_
 refine HL_cons rfl ?_
 refine o_assign ?_
 try dsimp only [putL, setL, evL, getL]
 refine HL_nil ?_
 refine hK3 _ _ ?_
 refine joinH H fun G4 hG4 H => ?_
 refine HT_toK (fun l' s' => ∃ (x60 : Int) (x61 : List ((Int) × (List (Int)))), G4 (x60, x61) = some r ∧ l' = [.slice A0p p0.length c0p, .int .i64 x60, undef, undef, .int .i64 0, getL l' 5, getL l' 6, getL l' 7, getL l' 8, getL l' 9, getL l' 10, getL l' 11, getL l' 12, getL l' 13, getL l' 14, getL l' 15, getL l' 16, getL l' 17, getL l' 18, getL l' 19, getL l' 20, getL l' 21, getL l' 22, getL l' 23, getL l' 24, getL l' 25, undef] ∧ Hp sb s F0 s' [Ck.ol OS139 139 A0p c0p x61] ∧ x61.length = p0.length) ?_ ?_
 ·intro K4 hK4
  refine HT_block ?_
  refine HT_loopK (fun kf l' s' => ∃ (x78 : List ((Int) × (List (Int)))) (x79 : Int) (x80 : Int), (laws_markReS.l1 p0 kf x78 x79 x80).bind G4 = some r ∧ l' = [.slice A0p p0.length c0p, .int .i64 x79, undef, undef, .int .i64 0, .int .i64 x80, getL l' 6, getL l' 7, getL l' 8, getL l' 9, getL l' 10, getL l' 11, getL l' 12, getL l' 13, getL l' 14, getL l' 15, getL l' 16, getL l' 17, getL l' 18, getL l' 19, getL l' 20, getL l' 21, getL l' 22, getL l' 23, getL l' 24, getL l' 25, undef] ∧ Hp sb s F0 s' [Ck.ol OS139 139 A0p c0p x78] ∧ x78.length = p0.length) ((((p0.length : Int)) - (0)).toNat + 2) ⟨p0, p1, 0, H, rfl, hH, rfl⟩ ?_
  rintro kf l' s100 ⟨x78, x79, x80, H, hl, hH, hl78⟩ K100 hK100
  generalize getL l' 6 = j6, getL l' 7 = j7, getL l' 8 = j8, getL l' 9 = j9, getL l' 10 = j10, getL l' 11 = j11, getL l' 12 = j12, getL l' 13 = j13, getL l' 14 = j14, getL l' 15 = j15, getL l' 16 = j16, getL l' 17 = j17, getL l' 18 = j18, getL l' 19 = j19, getL l' 20 = j20, getL l' 21 = j21, getL l' 22 = j22, getL l' 23 = j23, getL l' 24 = j24, getL l' 25 = j25 at hl
  subst hl
  cases kf with
  | zero => simp [laws_markReS.l1] at H
  | succ kf =>
   rw [laws_markReS.l1] at H
   refine HT_seq_k ?_
   intro K101 hK101
   refine HT_seq_k ?_
   intro K102 hK102
   refine HT_region ?_
   refine HL_cons rfl ?_
   refine o_move ?_
   try dsimp only [putL, setL, evL, getL]
   refine HL_cons rfl ?_
   refine o_move ?_
   try dsimp only [putL, setL, evL, getL]
   refine HL_cons rfl ?_
   refine o_len rfl Try.underlying57 ?_
   try dsimp only [putL, setL, evL, getL]
   refine HL_cons rfl ?_
   refine o_bin rfl rfl rfl ?_
   try dsimp only [putL, setL, evL, getL]
   refine HL_nil ?_
   refine hK102 _ _ ?_
   rcases Bool.eq_false_or_eq_true (decide (x80 < (p0.length : Int))) with hb103 | hb103
   ·replace H := iteT hb103 H
    refine HT_true (congrArg Value.bool hb103) ?_
    refine HT_skip ?_
    refine hK101 _ _ ?_
    refine HT_seq_k ?_
    intro K104 hK104
    refine HT_block ?_
    refine HT_seq_k ?_
    intro K105 hK105
    refine HT_region ?_
    refine HL_cons rfl ?_
    refine o_move ?_
    try dsimp only [putL, setL, evL, getL]
    refine HL_cons rfl ?_
    refine o_move ?_
    try dsimp only [putL, setL, evL, getL]
    refine HL_cons rfl ?_
    refine o_move ?_
    try dsimp only [putL, setL, evL, getL]
    replace H := headE H
    obtain ⟨u106, hu106, H⟩ := H
    obtain ⟨b106, o106, cs106, hA106, hr106, hh106, hel106⟩ := hH.elo 0 rfl hu106
    obtain ⟨_, _, rfl, rfl, ⟨A107, c107, rfl, D107⟩⟩ := hr106
    refine HL_cons rfl ?_
    refine hel106 s100 (sliceLen hl78) rfl Try.underlying57 tI139 ?_
    try dsimp only [putL, setL, evL, getL]
    refine HL_cons rfl ?_
    refine o_faddr' (ft := 3) (off := 0) rfl Try.underlying139 rfl tI3 (by decide) ?_
    try dsimp only [putL, setL, evL, getL]
    replace H := headE H
    obtain ⟨x108, hx108, H⟩ := H
    refine HL_cons rfl ?_
    refine o_setf (u := u106) (u' := (x79, u106.2)) (off := 0) hH 0 rfl rfl rfl rfl tI3 hA106 hu106 (Fup.left Fup.int) hx108 ?_
    intro s108 hH'
    have hl108 := (st?_len hx108).trans hl78
    replace hH : Hp sb s F0 s108 [Ck.ol OS139 139 A0p c0p x108] := hH'
    clear hH'
    try dsimp only [putL, setL, evL, getL]
    refine HL_nil ?_
    refine hK105 _ _ ?_
    refine HT_seq_k ?_
    intro K109 hK109
    refine HT_region ?_
    refine HL_cons rfl ?_
    refine o_move ?_
    try dsimp only [putL, setL, evL, getL]
    refine HL_cons rfl ?_
    refine o_bin rfl rfl rfl ?_
    try dsimp only [putL, setL, evL, getL]
    refine HL_cons rfl ?_
    refine o_assign ?_
    try dsimp only [putL, setL, evL, getL]
    refine HL_nil ?_
    refine hK109 _ _ ?_
    refine HT_region ?_
    refine HL_cons rfl ?_
    refine o_move ?_
    try dsimp only [putL, setL, evL, getL]
    refine HL_cons rfl ?_
    refine o_move ?_
    try dsimp only [putL, setL, evL, getL]
    replace H := headE H
    obtain ⟨u110, hu110, H⟩ := H
    obtain ⟨b110, o110, vs110, hA110, -, hH⟩ := hH.open 0 rfl rfl hu110
    dsimp only [addC, setC, rmC, selC, getC] at hH
    obtain ⟨v111, v112, rfl, hH⟩ := hH.el_pair 1 rfl rfl
    dsimp only [addC, setC, rmC, selC, getC] at hH
    obtain rfl := hH.el_rep 1 rfl
    replace hH := hH.drop 1 rfl
    dsimp only [addC, setC, rmC, selC, getC] at hH
    obtain ⟨A113, c113, rfl, hH⟩ := hH.el_sl 2 rfl rfl
    dsimp only [addC, setC, rmC, selC, getC] at hH
    replace hH : Hp sb s F0 s108 [Ck.oh OS139 139 A0p c0p x108 (Int.toNat x80) [.int .i64 u110.1, .slice A113 u110.2.length c113], Ck.emp, Ck.ol OI 3 A113 c113 u110.2] := hH
    refine HL_cons rfl ?_
    refine iaddr_of (K := KS139) hA110 hu110 s108 (sliceLen hl108) rfl Try.underlying57 tI139 ?_
    try dsimp only [putL, setL, evL, getL]
    refine HL_cons rfl ?_
    refine o_faddr' (ft := 24) (off := 1) rfl Try.underlying139 rfl tI24 (by decide) ?_
    try dsimp only [putL, setL, evL, getL]
    refine HL_cons rfl ?_
    refine o_load' rfl Try.underlying24 rfl (hH.hasoh 0 rfl hA110 1 _ rfl) ?_
    try dsimp only [putL, setL, evL, getL]
    refine HL_cons rfl ?_
    refine o_move ?_
    try dsimp only [putL, setL, evL, getL]
    replace H := headE H
    obtain ⟨u114, hu114, H⟩ := H
    obtain ⟨F1, hA, hB⟩ := hH.take [2] (by decide)
    dsimp only [addC, setC, rmC, selC, getC] at hA
    refine HL_cons rfl ?_
    refine o_call (args := #[.slice A113 u110.2.length c113, .int .i64 (IntKind.i64.wrap (x79 + 1))]) Try.func89 rfl rfl rfl (laws_markIntS.ok sb s108 F1 A113 c113 u110.2 (IntKind.i64.wrap (x79 + 1)) hA _ hu114) ?_
    rintro _ s114 ⟨rfl, hD, hl115⟩
    replace hH := hB _ _ _ (Up.refl _ _ _) hD
    clear hD hA hB
    dsimp only [addC, setC, rmC, selC, getC] at hH
    try dsimp only [putL, setL, evL, getL]
    refine HL_cons rfl ?_
    refine o_assign ?_
    try dsimp only [putL, setL, evL, getL]
    refine HL_nil ?_
    refine hK104 _ _ ?_
    refine HT_region ?_
    refine HL_cons rfl ?_
    refine o_move ?_
    try dsimp only [putL, setL, evL, getL]
    refine HL_cons rfl ?_
    refine o_bin rfl rfl rfl ?_
    try dsimp only [putL, setL, evL, getL]
    refine HL_cons rfl ?_
    refine o_assign ?_
    try dsimp only [putL, setL, evL, getL]
    refine HL_nil ?_
    replace hH := hH.conv [3] (by decide) (d := Ck.el OS139 [.int .i64 u110.1, .slice A113 u110.2.length c113] (u110.1, u114.2)) (Ent.pair (v1 := [.int .i64 u110.1]) (v2 := [.slice A113 u110.2.length c113]) (x1 := u110.1) (x2 := u114.2) (Ent.flat rfl) (Ent.slL hl115))
    dsimp only [addC, setC, rmC, selC, getC] at hH
    replace H := headE H
    obtain ⟨x116, hx116, H⟩ := H
    replace hH := hH.close (i := x80) 0 4 (by decide) rfl rfl rfl hx116
    dsimp only [addC, setC, rmC, selC, getC] at hH
    have hl116 := (st?_len hx116).trans hl108
    replace hH : Hp sb s F0 s114 [Ck.ol OS139 139 A0p c0p x116, Ck.emp, Ck.emp, Ck.emp, Ck.emp] := hH
    exact hK100 _ _ ⟨kf, Nat.lt_succ_self kf, x116, u114.1, IntKind.i64.wrap (x80 + 1), H, rfl, hH.sel [0] (by decide), hl116⟩
   ·replace H := iteF hb103 H
    refine HT_false (congrArg Value.bool hb103) ?_
    refine HT_exit ?_
    exact hK4 _ _ ⟨x79, x78, H, rfl, hH, hl78⟩
 ·rintro l' s117 ⟨x60, x61, H, hl, hH, hl61⟩
  generalize getL l' 5 = j5, getL l' 6 = j6, getL l' 7 = j7, getL l' 8 = j8, getL l' 9 = j9, getL l' 10 = j10, getL l' 11 = j11, getL l' 12 = j12, getL l' 13 = j13, getL l' 14 = j14, getL l' 15 = j15, getL l' 16 = j16, getL l' 17 = j17, getL l' 18 = j18, getL l' 19 = j19, getL l' 20 = j20, getL l' 21 = j21, getL l' 22 = j22, getL l' 23 = j23, getL l' 24 = j24, getL l' 25 = j25 at hl
  subst hl
  replace H := hG4 _ H
  try dsimp only at H
  refine hK2 _ _ ?_
  refine HT_seq_k ?_
  intro K118 hK118
  refine HT_region ?_
  refine HL_cons rfl ?_
  refine o_move ?_
  try dsimp only [putL, setL, evL, getL]
  refine HL_cons rfl ?_
  refine o_assign ?_
  try dsimp only [putL, setL, evL, getL]
  refine HL_nil ?_
  refine hK118 _ _ ?_
  refine HT_ret ?_
  exact hQr _ _ [.int .i64 x60] ⟨rfl, trivial⟩ (retH (fun r => laws_markReS.post sb s F0 A0p c0p p0 r _ _) (show some _ = some r from H) ⟨rfl, hH, hl61⟩)
def laws_markIntSS.l1 (p0 : List (List (Int))) : Nat → (List (List (Int))) → Int → Int → Option (Int × (List (List (Int))))
 | 0, _, _, _ => none
 | kf + 1, x50, x51, x52 => if (decide (x52 < (p0.length : Int))) = true then ((rd? x50 x52).bind fun u70 => (laws_markIntS.f u70 x51).bind fun u72 => (st? x50 x52 u72.2).bind fun x74 => laws_markIntSS.l1 p0 kf x74 u72.1 (IntKind.i64.wrap (x52 + 1))) else (some (x51, x50))
def laws_markIntSS.f (p0 : List (List (Int))) (p1 : Int) : Option (Int × (List (List (Int)))) := (laws_markIntSS.l1 p0 ((((p0.length : Int)) - (0)).toNat + 2) p0 p1 0).bind fun (o : Int × (List (List (Int)))) => match o with | (x39, x40) => (some (x39, x40))
def laws_markIntSS.post (sb s : St) (F0 : Fp) (A0p : Option Addr) (c0p : Nat) (p0 : List (List (Int))) (r : Int × (List (List (Int)))) : Value → St → Prop := fun v s' => v = .int .i64 r.1 ∧ Hp sb s F0 s' [Ck.ol (Ow.sl OI 3) 24 A0p c0p r.2] ∧ r.2.length = p0.length
set_option maxRecDepth 100000 in
set_option maxHeartbeats 4000000 in
theorem laws_markIntSS.ok (sb s : St) (F0 : Fp) (A0p : Option Addr) (c0p : Nat) (p0 : List (List (Int))) (p1 : Int) (hH : Hp sb s F0 s [Ck.ol (Ow.sl OI 3) 24 A0p c0p p0]) (r : Int × (List (List (Int)))) (H : laws_markIntSS.f p0 p1 = some r) : GCall Try.prog 96 #[.slice A0p p0.length c0p, .int .i64 p1] s (laws_markIntSS.post sb s F0 A0p c0p p0 r) := by
 refine GCall_ofk [.tmp 4] [.slice A0p p0.length c0p, .int .i64 p1, undef, undef, undef, undef, undef, undef, undef, undef, undef, undef, undef, undef, undef, undef, undef, undef, undef] Try.func96 rfl rfl rfl ?_
 intro w Q hQr hQn hQp
 replace H := topE H
 unfold laws_markIntSS.f at H
 refine HT_seq_k ?_
 intro K1 hK1
 refine HT_region ?_
 refine HL_cons rfl ?_
 refine o_assign ?_
 try dsimp only [putL, setL, evL, getL]
 refine HL_nil ?_
 refine hK1 _ _ ?_
 refine HT_seq_k ?_
 intro K2 hK2
 refine HT_seq_k ?_
 intro K3 hK3
 refine HT_region ?_
 refine HL_cons rfl ?_
 refine o_assign ?_
 try dsimp only [putL, setL, evL, getL]
 refine HL_nil ?_
 refine hK3 _ _ ?_
 refine joinH H fun G4 hG4 H => ?_
 refine HT_toK (fun l' s' => ∃ (x39 : Int) (x40 : List (List (Int))), G4 (x39, x40) = some r ∧ l' = [.slice A0p p0.length c0p, .int .i64 x39, undef, undef, .int .i64 0, getL l' 5, getL l' 6, getL l' 7, getL l' 8, getL l' 9, getL l' 10, getL l' 11, getL l' 12, getL l' 13, getL l' 14, getL l' 15, getL l' 16, getL l' 17, undef] ∧ Hp sb s F0 s' [Ck.ol (Ow.sl OI 3) 24 A0p c0p x40] ∧ x40.length = p0.length) ?_ ?_
 ·intro K4 hK4
  refine HT_block ?_
  refine HT_loopK (fun kf l' s' => ∃ (x50 : List (List (Int))) (x51 : Int) (x52 : Int), (laws_markIntSS.l1 p0 kf x50 x51 x52).bind G4 = some r ∧ l' = [.slice A0p p0.length c0p, .int .i64 x51, undef, undef, .int .i64 0, .int .i64 x52, getL l' 6, getL l' 7, getL l' 8, getL l' 9, getL l' 10, getL l' 11, getL l' 12, getL l' 13, getL l' 14, getL l' 15, getL l' 16, getL l' 17, undef] ∧ Hp sb s F0 s' [Ck.ol (Ow.sl OI 3) 24 A0p c0p x50] ∧ x50.length = p0.length) ((((p0.length : Int)) - (0)).toNat + 2) ⟨p0, p1, 0, H, rfl, hH, rfl⟩ ?_
  rintro kf l' s65 ⟨x50, x51, x52, H, hl, hH, hl50⟩ K65 hK65
  generalize getL l' 6 = j6, getL l' 7 = j7, getL l' 8 = j8, getL l' 9 = j9, getL l' 10 = j10, getL l' 11 = j11, getL l' 12 = j12, getL l' 13 = j13, getL l' 14 = j14, getL l' 15 = j15, getL l' 16 = j16, getL l' 17 = j17 at hl
  subst hl
  cases kf with
  | zero => simp [laws_markIntSS.l1] at H
  | succ kf =>
   rw [laws_markIntSS.l1] at H
   refine HT_seq_k ?_
   intro K66 hK66
   refine HT_seq_k ?_
   intro K67 hK67
   refine HT_region ?_
   refine HL_cons rfl ?_
   refine o_move ?_
   try dsimp only [putL, setL, evL, getL]
   refine HL_cons rfl ?_
   refine o_move ?_
   try dsimp only [putL, setL, evL, getL]
   refine HL_cons rfl ?_
   refine o_len rfl Try.underlying105 ?_
   try dsimp only [putL, setL, evL, getL]
   refine HL_cons rfl ?_
   refine o_bin rfl rfl rfl ?_
   try dsimp only [putL, setL, evL, getL]
   refine HL_nil ?_
   refine hK67 _ _ ?_
   rcases Bool.eq_false_or_eq_true (decide (x52 < (p0.length : Int))) with hb68 | hb68
   ·replace H := iteT hb68 H
    refine HT_true (congrArg Value.bool hb68) ?_
    refine HT_skip ?_
    refine hK66 _ _ ?_
    refine HT_seq_k ?_
    intro K69 hK69
    refine HT_block ?_
    refine HT_region ?_
    refine HL_cons rfl ?_
    refine o_move ?_
    try dsimp only [putL, setL, evL, getL]
    refine HL_cons rfl ?_
    refine o_move ?_
    try dsimp only [putL, setL, evL, getL]
    replace H := headE H
    obtain ⟨u70, hu70, H⟩ := H
    obtain ⟨b70, o70, vs70, hA70, -, hH⟩ := hH.open 0 rfl rfl hu70
    dsimp only [addC, setC, rmC, selC, getC] at hH
    obtain ⟨A71, c71, rfl, hH⟩ := hH.el_sl 1 rfl rfl
    dsimp only [addC, setC, rmC, selC, getC] at hH
    replace hH : Hp sb s F0 s65 [Ck.oh (Ow.sl OI 3) 24 A0p c0p x50 (Int.toNat x52) [.slice A71 u70.length c71], Ck.ol OI 3 A71 c71 u70] := hH
    refine HL_cons rfl ?_
    refine iaddr_of (K := (Kd.sl KI)) hA70 hu70 s65 (sliceLen hl50) rfl Try.underlying105 tI24 ?_
    try dsimp only [putL, setL, evL, getL]
    refine HL_cons rfl ?_
    refine o_load' rfl Try.underlying24 rfl (hH.hasoh 0 rfl hA70 0 _ rfl) ?_
    try dsimp only [putL, setL, evL, getL]
    refine HL_cons rfl ?_
    refine o_move ?_
    try dsimp only [putL, setL, evL, getL]
    replace H := headE H
    obtain ⟨u72, hu72, H⟩ := H
    obtain ⟨F1, hA, hB⟩ := hH.take [1] (by decide)
    dsimp only [addC, setC, rmC, selC, getC] at hA
    refine HL_cons rfl ?_
    refine o_call (args := #[.slice A71 u70.length c71, .int .i64 x51]) Try.func89 rfl rfl rfl (laws_markIntS.ok sb s65 F1 A71 c71 u70 x51 hA _ hu72) ?_
    rintro _ s72 ⟨rfl, hD, hl73⟩
    replace hH := hB _ _ _ (Up.refl _ _ _) hD
    clear hD hA hB
    dsimp only [addC, setC, rmC, selC, getC] at hH
    try dsimp only [putL, setL, evL, getL]
    refine HL_cons rfl ?_
    refine o_assign ?_
    try dsimp only [putL, setL, evL, getL]
    refine HL_nil ?_
    refine hK69 _ _ ?_
    refine HT_region ?_
    refine HL_cons rfl ?_
    refine o_move ?_
    try dsimp only [putL, setL, evL, getL]
    refine HL_cons rfl ?_
    refine o_bin rfl rfl rfl ?_
    try dsimp only [putL, setL, evL, getL]
    refine HL_cons rfl ?_
    refine o_assign ?_
    try dsimp only [putL, setL, evL, getL]
    refine HL_nil ?_
    replace hH := hH.conv [2] (by decide) (d := Ck.el (Ow.sl OI 3) [.slice A71 u70.length c71] u72.2) (Ent.slL hl73)
    dsimp only [addC, setC, rmC, selC, getC] at hH
    replace H := headE H
    obtain ⟨x74, hx74, H⟩ := H
    replace hH := hH.close (i := x52) 0 3 (by decide) rfl rfl rfl hx74
    dsimp only [addC, setC, rmC, selC, getC] at hH
    have hl74 := (st?_len hx74).trans hl50
    replace hH : Hp sb s F0 s72 [Ck.ol (Ow.sl OI 3) 24 A0p c0p x74, Ck.emp, Ck.emp, Ck.emp] := hH
    exact hK65 _ _ ⟨kf, Nat.lt_succ_self kf, x74, u72.1, IntKind.i64.wrap (x52 + 1), H, rfl, hH.sel [0] (by decide), hl74⟩
   ·replace H := iteF hb68 H
    refine HT_false (congrArg Value.bool hb68) ?_
    refine HT_exit ?_
    exact hK4 _ _ ⟨x51, x50, H, rfl, hH, hl50⟩
 ·rintro l' s75 ⟨x39, x40, H, hl, hH, hl40⟩
  generalize getL l' 5 = j5, getL l' 6 = j6, getL l' 7 = j7, getL l' 8 = j8, getL l' 9 = j9, getL l' 10 = j10, getL l' 11 = j11, getL l' 12 = j12, getL l' 13 = j13, getL l' 14 = j14, getL l' 15 = j15, getL l' 16 = j16, getL l' 17 = j17 at hl
  subst hl
  replace H := hG4 _ H
  try dsimp only at H
  refine hK2 _ _ ?_
  refine HT_seq_k ?_
  intro K76 hK76
  refine HT_region ?_
  refine HL_cons rfl ?_
  refine o_move ?_
  try dsimp only [putL, setL, evL, getL]
  refine HL_cons rfl ?_
  refine o_assign ?_
  try dsimp only [putL, setL, evL, getL]
  refine HL_nil ?_
  refine hK76 _ _ ?_
  refine HT_ret ?_
  exact hQr _ _ [.int .i64 x39] ⟨rfl, trivial⟩ (retH (fun r => laws_markIntSS.post sb s F0 A0p c0p p0 r _ _) (show some _ = some r from H) ⟨rfl, hH, hl40⟩)
def laws_heldIntS.l1 (p0 : List (Int)) : Nat → Int → Int → Option (Lo Int Int)
 | 0, _, _ => none
 | kf + 1, x47, x48 => if (decide (x48 < (p0.length : Int))) = true then ((rd? p0 x48).bind fun u67 => if (u67 != x47) = true then ((some (-1)).bind fun z => some (Lo.ret z)) else (laws_heldIntS.l1 p0 kf (IntKind.i64.wrap (x47 + 1)) (IntKind.i64.wrap (x48 + 1)))) else (some (Lo.go x47))
def laws_heldIntS.f (p0 : List (Int)) (p1 : Int) : Option Int := (laws_heldIntS.l1 p0 ((((p0.length : Int)) - (0)).toNat + 2) p1 0).bind fun (o : Lo Int Int) => match o with | .go x37 => (some x37) | .ret z => some z
def laws_heldIntS.post (sb s : St) (F0 : Fp) (r : Int) : Value → St → Prop := fun v s' => v = .int .i64 r ∧ Hp sb s F0 s' []
set_option maxRecDepth 100000 in
set_option maxHeartbeats 4000000 in
theorem laws_heldIntS.ok (sb s : St) (F0 : Fp) (A0p : Option Addr) (c0p : Nat) (p0 : List (Int)) (p1 : Int) (HRp0 : Rd KI sb A0p c0p p0) (hH : Hp sb s F0 s []) (r : Int) (H : laws_heldIntS.f p0 p1 = some r) : GCall Try.prog 90 #[.slice A0p p0.length c0p, .int .i64 p1] s (laws_heldIntS.post sb s F0 r) := by
 refine GCall_ofk [.tmp 4] [.slice A0p p0.length c0p, .int .i64 p1, undef, undef, undef, undef, undef, undef, undef, undef, undef, undef, undef, undef, undef, undef, undef, undef, undef, undef, undef] Try.func90 rfl rfl rfl ?_
 intro w Q hQr hQn hQp
 replace H := topE H
 unfold laws_heldIntS.f at H
 refine HT_seq_k ?_
 intro K1 hK1
 refine HT_region ?_
 refine HL_cons rfl ?_
 refine o_assign ?_
 try dsimp only [putL, setL, evL, getL]
 refine HL_nil ?_
 refine hK1 _ _ ?_
 refine HT_seq_k ?_
 intro K2 hK2
 refine HT_seq_k ?_
 intro K3 hK3
 refine HT_region ?_
 refine HL_cons rfl ?_
 refine o_assign ?_
 try dsimp only [putL, setL, evL, getL]
 refine HL_nil ?_
 refine hK3 _ _ ?_
 refine joinH H fun G4 hG4 H => ?_
 refine HT_toK (fun l' s' => ∃ (x37 : Int), G4 (.go x37) = some r ∧ l' = [.slice A0p p0.length c0p, .int .i64 x37, undef, undef, getL l' 4, getL l' 5, getL l' 6, getL l' 7, getL l' 8, getL l' 9, getL l' 10, getL l' 11, getL l' 12, getL l' 13, getL l' 14, getL l' 15, getL l' 16, getL l' 17, getL l' 18, getL l' 19, undef] ∧ Hp sb s F0 s' []) ?_ ?_
 ·intro K4 hK4
  refine HT_block ?_
  refine HT_loopK (fun kf l' s' => ∃ (x47 : Int) (x48 : Int), (laws_heldIntS.l1 p0 kf x47 x48).bind G4 = some r ∧ l' = [.slice A0p p0.length c0p, .int .i64 x47, undef, undef, getL l' 4, .int .i64 x48, getL l' 6, getL l' 7, getL l' 8, getL l' 9, getL l' 10, getL l' 11, getL l' 12, getL l' 13, getL l' 14, getL l' 15, getL l' 16, getL l' 17, getL l' 18, getL l' 19, undef] ∧ Hp sb s F0 s' []) ((((p0.length : Int)) - (0)).toNat + 2) ⟨p1, 0, H, rfl, hH⟩ ?_
  rintro kf l' s60 ⟨x47, x48, H, hl, hH⟩ K60 hK60
  generalize getL l' 4 = j4, getL l' 6 = j6, getL l' 7 = j7, getL l' 8 = j8, getL l' 9 = j9, getL l' 10 = j10, getL l' 11 = j11, getL l' 12 = j12, getL l' 13 = j13, getL l' 14 = j14, getL l' 15 = j15, getL l' 16 = j16, getL l' 17 = j17, getL l' 18 = j18, getL l' 19 = j19 at hl
  subst hl
  cases kf with
  | zero => simp [laws_heldIntS.l1] at H
  | succ kf =>
   rw [laws_heldIntS.l1] at H
   refine HT_seq_k ?_
   intro K61 hK61
   refine HT_seq_k ?_
   intro K62 hK62
   refine HT_region ?_
   refine HL_cons rfl ?_
   refine o_move ?_
   try dsimp only [putL, setL, evL, getL]
   refine HL_cons rfl ?_
   refine o_move ?_
   try dsimp only [putL, setL, evL, getL]
   refine HL_cons rfl ?_
   refine o_len rfl Try.underlying24 ?_
   try dsimp only [putL, setL, evL, getL]
   refine HL_cons rfl ?_
   refine o_bin rfl rfl rfl ?_
   try dsimp only [putL, setL, evL, getL]
   refine HL_nil ?_
   refine hK62 _ _ ?_
   rcases Bool.eq_false_or_eq_true (decide (x48 < (p0.length : Int))) with hb63 | hb63
   ·replace H := iteT hb63 H
    refine HT_true (congrArg Value.bool hb63) ?_
    refine HT_skip ?_
    refine hK61 _ _ ?_
    refine HT_seq_k ?_
    intro K64 hK64
    refine HT_block ?_
    refine HT_seq_k ?_
    intro K65 hK65
    refine HT_seq_k ?_
    intro K66 hK66
    refine HT_region ?_
    refine HL_cons rfl ?_
    refine o_move ?_
    try dsimp only [putL, setL, evL, getL]
    refine HL_cons rfl ?_
    refine o_move ?_
    try dsimp only [putL, setL, evL, getL]
    replace H := headE H
    obtain ⟨u67, hu67, H⟩ := H
    obtain ⟨b67, o67, cs67, hr67, hh67, hel67⟩ := Rd.elb HRp0 hu67
    obtain rfl := hr67
    refine HL_cons rfl ?_
    refine hel67 s60 rfl rfl Try.underlying24 tI3 ?_
    try dsimp only [putL, setL, evL, getL]
    refine HL_cons rfl ?_
    refine o_load' rfl Try.underlying3 rfl ((hh67 hH.bs.mono) 0 _ rfl) ?_
    try dsimp only [putL, setL, evL, getL]
    refine HL_cons rfl ?_
    refine o_move ?_
    try dsimp only [putL, setL, evL, getL]
    refine HL_cons rfl ?_
    refine o_bin rfl rfl rfl ?_
    try dsimp only [putL, setL, evL, getL]
    refine HL_nil ?_
    refine hK66 _ _ ?_
    rcases Bool.eq_false_or_eq_true (u67 != x47) with hb68 | hb68
    ·replace H := iteT hb68 H
     refine HT_true (congrArg Value.bool hb68) ?_
     refine HT_seq_k ?_
     intro K69 hK69
     refine HT_region ?_
     refine HL_cons rfl ?_
     refine o_assign ?_
     try dsimp only [putL, setL, evL, getL]
     refine HL_nil ?_
     refine hK69 _ _ ?_
     refine HT_ret ?_
     replace H := escH (fun z hz => hG4 _ hz) H
     exact hQr _ _ [.int .i64 (-1)] ⟨rfl, trivial⟩ (retH (fun r => laws_heldIntS.post sb s F0 r _ _) (show some _ = some r from H) ⟨rfl, hH⟩)
    ·replace H := iteF hb68 H
     refine HT_false (congrArg Value.bool hb68) ?_
     refine HT_skip ?_
     refine hK65 _ _ ?_
     refine HT_region ?_
     refine HL_cons rfl ?_
     refine o_move ?_
     try dsimp only [putL, setL, evL, getL]
     refine HL_cons rfl ?_
     refine o_bin rfl rfl rfl ?_
     try dsimp only [putL, setL, evL, getL]
     refine HL_cons rfl ?_
     refine o_assign ?_
     try dsimp only [putL, setL, evL, getL]
     refine HL_nil ?_
     refine hK64 _ _ ?_
     refine HT_region ?_
     refine HL_cons rfl ?_
     refine o_move ?_
     try dsimp only [putL, setL, evL, getL]
     refine HL_cons rfl ?_
     refine o_bin rfl rfl rfl ?_
     try dsimp only [putL, setL, evL, getL]
     refine HL_cons rfl ?_
     refine o_assign ?_
     try dsimp only [putL, setL, evL, getL]
     refine HL_nil ?_
     exact hK60 _ _ ⟨kf, Nat.lt_succ_self kf, IntKind.i64.wrap (x47 + 1), IntKind.i64.wrap (x48 + 1), H, rfl, hH⟩
   ·replace H := iteF hb63 H
    refine HT_false (congrArg Value.bool hb63) ?_
    refine HT_exit ?_
    exact hK4 _ _ ⟨x47, H, rfl, hH⟩
 ·rintro l' s70 ⟨x37, H, hl, hH⟩
  generalize getL l' 4 = j4, getL l' 5 = j5, getL l' 6 = j6, getL l' 7 = j7, getL l' 8 = j8, getL l' 9 = j9, getL l' 10 = j10, getL l' 11 = j11, getL l' 12 = j12, getL l' 13 = j13, getL l' 14 = j14, getL l' 15 = j15, getL l' 16 = j16, getL l' 17 = j17, getL l' 18 = j18, getL l' 19 = j19 at hl
  subst hl
  replace H := hG4 _ H
  try dsimp only at H
  refine hK2 _ _ ?_
  refine HT_seq_k ?_
  intro K71 hK71
  refine HT_region ?_
  refine HL_cons rfl ?_
  refine o_move ?_
  try dsimp only [putL, setL, evL, getL]
  refine HL_cons rfl ?_
  refine o_assign ?_
  try dsimp only [putL, setL, evL, getL]
  refine HL_nil ?_
  refine hK71 _ _ ?_
  refine HT_ret ?_
  exact hQr _ _ [.int .i64 x37] ⟨rfl, trivial⟩ (retH (fun r => laws_heldIntS.post sb s F0 r _ _) (show some _ = some r from H) ⟨rfl, hH⟩)
def laws_heldIntSS.l1 (p0 : List (List (Int))) : Nat → Int → Int → Option (Lo Int Int)
 | 0, _, _ => none
 | kf + 1, x55, x56 => if (decide (x56 < (p0.length : Int))) = true then ((rd? p0 x56).bind fun u76 => (laws_heldIntS.f u76 x55).bind fun u78 => if (decide (u78 < 0)) = true then ((some (-1)).bind fun z => some (Lo.ret z)) else (laws_heldIntSS.l1 p0 kf u78 (IntKind.i64.wrap (x56 + 1)))) else (some (Lo.go x55))
def laws_heldIntSS.f (p0 : List (List (Int))) (p1 : Int) : Option Int := (laws_heldIntSS.l1 p0 ((((p0.length : Int)) - (0)).toNat + 2) p1 0).bind fun (o : Lo Int Int) => match o with | .go x43 => (some x43) | .ret z => some z
def laws_heldIntSS.post (sb s : St) (F0 : Fp) (r : Int) : Value → St → Prop := fun v s' => v = .int .i64 r ∧ Hp sb s F0 s' []
set_option maxRecDepth 100000 in
set_option maxHeartbeats 4000000 in
theorem laws_heldIntSS.ok (sb s : St) (F0 : Fp) (A0p : Option Addr) (c0p : Nat) (p0 : List (List (Int))) (p1 : Int) (HRp0 : Rd (Kd.sl KI) sb A0p c0p p0) (hH : Hp sb s F0 s []) (r : Int) (H : laws_heldIntSS.f p0 p1 = some r) : GCall Try.prog 97 #[.slice A0p p0.length c0p, .int .i64 p1] s (laws_heldIntSS.post sb s F0 r) := by
 refine GCall_ofk [.tmp 4] [.slice A0p p0.length c0p, .int .i64 p1, undef, undef, undef, undef, undef, undef, undef, undef, undef, undef, undef, undef, undef, undef, undef, undef, undef, undef, undef] Try.func97 rfl rfl rfl ?_
 intro w Q hQr hQn hQp
 replace H := topE H
 unfold laws_heldIntSS.f at H
 refine HT_seq_k ?_
 intro K1 hK1
 refine HT_region ?_
 refine HL_cons rfl ?_
 refine o_assign ?_
 try dsimp only [putL, setL, evL, getL]
 refine HL_nil ?_
 refine hK1 _ _ ?_
 refine HT_seq_k ?_
 intro K2 hK2
 refine HT_seq_k ?_
 intro K3 hK3
 refine HT_region ?_
 refine HL_cons rfl ?_
 refine o_assign ?_
 try dsimp only [putL, setL, evL, getL]
 refine HL_nil ?_
 refine hK3 _ _ ?_
 refine joinH H fun G4 hG4 H => ?_
 refine HT_toK (fun l' s' => ∃ (x43 : Int), G4 (.go x43) = some r ∧ l' = [.slice A0p p0.length c0p, .int .i64 x43, undef, undef, getL l' 4, getL l' 5, getL l' 6, getL l' 7, getL l' 8, getL l' 9, getL l' 10, getL l' 11, getL l' 12, getL l' 13, getL l' 14, getL l' 15, getL l' 16, getL l' 17, getL l' 18, getL l' 19, undef] ∧ Hp sb s F0 s' []) ?_ ?_
 ·intro K4 hK4
  refine HT_block ?_
  refine HT_loopK (fun kf l' s' => ∃ (x55 : Int) (x56 : Int), (laws_heldIntSS.l1 p0 kf x55 x56).bind G4 = some r ∧ l' = [.slice A0p p0.length c0p, .int .i64 x55, undef, undef, getL l' 4, .int .i64 x56, getL l' 6, getL l' 7, getL l' 8, getL l' 9, getL l' 10, getL l' 11, getL l' 12, getL l' 13, getL l' 14, getL l' 15, getL l' 16, getL l' 17, getL l' 18, getL l' 19, undef] ∧ Hp sb s F0 s' []) ((((p0.length : Int)) - (0)).toNat + 2) ⟨p1, 0, H, rfl, hH⟩ ?_
  rintro kf l' s70 ⟨x55, x56, H, hl, hH⟩ K70 hK70
  generalize getL l' 4 = j4, getL l' 6 = j6, getL l' 7 = j7, getL l' 8 = j8, getL l' 9 = j9, getL l' 10 = j10, getL l' 11 = j11, getL l' 12 = j12, getL l' 13 = j13, getL l' 14 = j14, getL l' 15 = j15, getL l' 16 = j16, getL l' 17 = j17, getL l' 18 = j18, getL l' 19 = j19 at hl
  subst hl
  cases kf with
  | zero => simp [laws_heldIntSS.l1] at H
  | succ kf =>
   rw [laws_heldIntSS.l1] at H
   refine HT_seq_k ?_
   intro K71 hK71
   refine HT_seq_k ?_
   intro K72 hK72
   refine HT_region ?_
   refine HL_cons rfl ?_
   refine o_move ?_
   try dsimp only [putL, setL, evL, getL]
   refine HL_cons rfl ?_
   refine o_move ?_
   try dsimp only [putL, setL, evL, getL]
   refine HL_cons rfl ?_
   refine o_len rfl Try.underlying105 ?_
   try dsimp only [putL, setL, evL, getL]
   refine HL_cons rfl ?_
   refine o_bin rfl rfl rfl ?_
   try dsimp only [putL, setL, evL, getL]
   refine HL_nil ?_
   refine hK72 _ _ ?_
   rcases Bool.eq_false_or_eq_true (decide (x56 < (p0.length : Int))) with hb73 | hb73
   ·replace H := iteT hb73 H
    refine HT_true (congrArg Value.bool hb73) ?_
    refine HT_skip ?_
    refine hK71 _ _ ?_
    refine HT_seq_k ?_
    intro K74 hK74
    refine HT_block ?_
    refine HT_seq_k ?_
    intro K75 hK75
    refine HT_region ?_
    refine HL_cons rfl ?_
    refine o_move ?_
    try dsimp only [putL, setL, evL, getL]
    refine HL_cons rfl ?_
    refine o_move ?_
    try dsimp only [putL, setL, evL, getL]
    replace H := headE H
    obtain ⟨u76, hu76, H⟩ := H
    obtain ⟨b76, o76, cs76, hr76, hh76, hel76⟩ := Rd.elb HRp0 hu76
    obtain ⟨A77, c77, rfl, D77⟩ := hr76
    refine HL_cons rfl ?_
    refine hel76 s70 rfl rfl Try.underlying105 tI24 ?_
    try dsimp only [putL, setL, evL, getL]
    refine HL_cons rfl ?_
    refine o_load' rfl Try.underlying24 rfl ((hh76 hH.bs.mono) 0 _ rfl) ?_
    try dsimp only [putL, setL, evL, getL]
    refine HL_cons rfl ?_
    refine o_move ?_
    try dsimp only [putL, setL, evL, getL]
    replace H := headE H
    obtain ⟨u78, hu78, H⟩ := H
    refine HL_cons rfl ?_
    refine o_call (args := #[.slice A77 u76.length c77, .int .i64 x55]) Try.func90 rfl rfl rfl (laws_heldIntS.ok sb s70 no A77 c77 u76 x55 D77 (Hp.own hH.bs) _ hu78) ?_
    rintro _ s78 ⟨rfl, hD⟩
    replace hH := hH.back0 hD (Up.refl _ _ _)
    clear hD
    dsimp only [addC, setC, rmC, selC, getC] at hH
    try dsimp only [putL, setL, evL, getL]
    refine HL_cons rfl ?_
    refine o_assign ?_
    try dsimp only [putL, setL, evL, getL]
    refine HL_nil ?_
    refine hK75 _ _ ?_
    refine HT_seq_k ?_
    intro K79 hK79
    refine HT_region ?_
    refine HL_cons rfl ?_
    refine o_move ?_
    try dsimp only [putL, setL, evL, getL]
    refine HL_cons rfl ?_
    refine o_bin rfl rfl rfl ?_
    try dsimp only [putL, setL, evL, getL]
    refine HL_nil ?_
    refine hK79 _ _ ?_
    rcases Bool.eq_false_or_eq_true (decide (u78 < 0)) with hb80 | hb80
    ·replace H := iteT hb80 H
     refine HT_true (congrArg Value.bool hb80) ?_
     refine HT_seq_k ?_
     intro K81 hK81
     refine HT_region ?_
     refine HL_cons rfl ?_
     refine o_assign ?_
     try dsimp only [putL, setL, evL, getL]
     refine HL_nil ?_
     refine hK81 _ _ ?_
     refine HT_ret ?_
     replace H := escH (fun z hz => hG4 _ hz) H
     exact hQr _ _ [.int .i64 (-1)] ⟨rfl, trivial⟩ (retH (fun r => laws_heldIntSS.post sb s F0 r _ _) (show some _ = some r from H) ⟨rfl, hH⟩)
    ·replace H := iteF hb80 H
     refine HT_false (congrArg Value.bool hb80) ?_
     refine HT_skip ?_
     refine hK74 _ _ ?_
     refine HT_region ?_
     refine HL_cons rfl ?_
     refine o_move ?_
     try dsimp only [putL, setL, evL, getL]
     refine HL_cons rfl ?_
     refine o_bin rfl rfl rfl ?_
     try dsimp only [putL, setL, evL, getL]
     refine HL_cons rfl ?_
     refine o_assign ?_
     try dsimp only [putL, setL, evL, getL]
     refine HL_nil ?_
     exact hK70 _ _ ⟨kf, Nat.lt_succ_self kf, u78, IntKind.i64.wrap (x56 + 1), H, rfl, hH⟩
   ·replace H := iteF hb73 H
    refine HT_false (congrArg Value.bool hb73) ?_
    refine HT_exit ?_
    exact hK4 _ _ ⟨x55, H, rfl, hH⟩
 ·rintro l' s82 ⟨x43, H, hl, hH⟩
  generalize getL l' 4 = j4, getL l' 5 = j5, getL l' 6 = j6, getL l' 7 = j7, getL l' 8 = j8, getL l' 9 = j9, getL l' 10 = j10, getL l' 11 = j11, getL l' 12 = j12, getL l' 13 = j13, getL l' 14 = j14, getL l' 15 = j15, getL l' 16 = j16, getL l' 17 = j17, getL l' 18 = j18, getL l' 19 = j19 at hl
  subst hl
  replace H := hG4 _ H
  try dsimp only at H
  refine hK2 _ _ ?_
  refine HT_seq_k ?_
  intro K83 hK83
  refine HT_region ?_
  refine HL_cons rfl ?_
  refine o_move ?_
  try dsimp only [putL, setL, evL, getL]
  refine HL_cons rfl ?_
  refine o_assign ?_
  try dsimp only [putL, setL, evL, getL]
  refine HL_nil ?_
  refine hK83 _ _ ?_
  refine HT_ret ?_
  exact hQr _ _ [.int .i64 x43] ⟨rfl, trivial⟩ (retH (fun r => laws_heldIntSS.post sb s F0 r _ _) (show some _ = some r from H) ⟨rfl, hH⟩)
def laws_FnExactSplitBy.f (p0 : List ((Int) × (List (Int)))) (p1 : List (Int)) : Option Bool := if (decide ((p1.length : Int) > 1048576)) = true then (some true) else ((laws_szReS.f p0 1048576).bind fun u8 => if (decide (u8 < 0)) = true then (some true) else ((laws_toReS.f p0).bind fun u14 => (laws_toIntS.f p1).bind fun u16 => (spec_SplitBy.f u14 u16).bind fun u18 => (laws_toReS.f p0).bind fun u21 => (laws_toIntS.f p1).bind fun u24 => (impl_SplitBy.f u21 u24).bind fun u27 => ((laws_eqIntSS.f u27.1 u18.1).bind fun u44 => if (!u44) = true then (some true) else (some (u27.2 != u18.2))).bind fun (o : Bool) => match o with | x43 => (if x43 = true then (some false) else ((laws_toReS.f p0).bind fun u51 => (laws_eqReS.f u21 u51).bind fun u53 => if (!u53) = true then (some false) else ((laws_toIntS.f p1).bind fun u58 => (laws_eqIntS.f u24 u58).bind fun u60 => if (!u60) = true then (some false) else ((laws_markReS.f u21 1).bind fun u65 => (laws_markIntS.f u24 u65.1).bind fun u68 => (if (decide (u68.1 < 0)) = true then (some true) else ((laws_eqIntSS.f u27.1 u18.1).bind fun u89 => if (!u89) = true then (some true) else (some (u27.2 != u18.2)))).bind fun (o : Bool) => match o with | x87 => (if x87 = true then (some false) else ((laws_markIntSS.f u27.1 1).bind fun u96 => (laws_heldIntSS.f u96.2 1).bind fun u100 => if (decide (u100 < 0)) = true then (some false) else (if (u100 != u96.1) = true then (some false) else ((laws_toReS.f p0).bind fun u110 => (laws_toIntS.f p1).bind fun u112 => (impl_SplitBy.f u110 u112).bind fun u114 => ((laws_eqIntSS.f u114.1 u18.1).bind fun u131 => if (!u131) = true then (some true) else (some (u114.2 != u18.2))).bind fun (o : Bool) => match o with | x130 => (if x130 = true then (some false) else ((laws_heldIntSS.f u96.2 1).bind fun u138 => if (decide (u138 < 0)) = true then (some false) else (if (u138 != u96.1) = true then (some false) else (some true))))))))))))))
def laws_FnExactSplitBy.post (sb s : St) (F0 : Fp) (r : Bool) : Value → St → Prop := fun v s' => v = .bool r ∧ Hp sb s F0 s' []
set_option maxRecDepth 100000 in
set_option maxHeartbeats 4000000 in
theorem laws_FnExactSplitBy.ok (sb s : St) (F0 : Fp) (A0p : Option Addr) (c0p : Nat) (p0 : List ((Int) × (List (Int)))) (A1p : Option Addr) (c1p : Nat) (p1 : List (Int)) (HRp0 : Rd KS135 sb A0p c0p p0) (HRp1 : Rd KI sb A1p c1p p1) (hH : Hp sb s F0 s []) (r : Bool) (H : laws_FnExactSplitBy.f p0 p1 = some r) : GCall Try.prog 13 #[.slice A0p p0.length c0p, .slice A1p p1.length c1p] s (laws_FnExactSplitBy.post sb s F0 r) := by
 refine GCall_ofk [.tmp 4] [.slice A0p p0.length c0p, .slice A1p p1.length c1p, undef, undef, undef, undef, undef, undef, undef, undef, undef, undef, undef, undef, undef, undef, undef, undef, undef, undef, undef, undef, undef, undef, undef, undef, undef, undef, undef, undef, undef, undef, undef, undef, undef, undef, undef, undef, undef, undef, undef, undef, undef, undef, undef, undef, undef, undef, undef, undef, undef, undef, undef, undef, undef, undef, undef, undef, undef, undef, undef, undef, undef, undef, undef, undef, undef, undef, undef, undef, undef, undef, undef, undef, undef, undef, undef, undef, undef, undef, undef, undef, undef, undef, undef, undef, undef, undef, undef, undef, undef, undef, undef, undef, undef, undef, undef, undef, undef, undef, undef, undef, undef, undef, undef, undef, undef, undef, undef, undef, undef, undef, undef, undef, undef, undef, undef] Try.func13 rfl rfl rfl ?_
 intro w Q hQr hQn hQp
 replace H := topE H
 unfold laws_FnExactSplitBy.f at H
 refine HT_seq_k ?_
 intro K1 hK1
 refine HT_region ?_
 refine HL_cons rfl ?_
 refine o_assign ?_
 try dsimp only [putL, setL, evL, getL]
 refine HL_nil ?_
 refine hK1 _ _ ?_
 refine HT_seq_k ?_
 intro K2 hK2
 refine HT_seq_k ?_
 intro K3 hK3
 refine HT_region ?_
 refine HL_cons rfl ?_
 refine o_move ?_
 try dsimp only [putL, setL, evL, getL]
 refine HL_cons rfl ?_
 refine o_len rfl Try.underlying24 ?_
 try dsimp only [putL, setL, evL, getL]
 refine HL_cons rfl ?_
 refine o_bin rfl rfl rfl ?_
 try dsimp only [putL, setL, evL, getL]
 refine HL_nil ?_
 refine hK3 _ _ ?_
 rcases Bool.eq_false_or_eq_true (decide ((p1.length : Int) > 1048576)) with hb4 | hb4
 ·replace H := iteT hb4 H
  refine HT_true (congrArg Value.bool hb4) ?_
  refine HT_seq_k ?_
  intro K5 hK5
  refine HT_region ?_
  refine HL_cons rfl ?_
  refine o_assign ?_
  try dsimp only [putL, setL, evL, getL]
  refine HL_nil ?_
  refine hK5 _ _ ?_
  refine HT_ret ?_
  exact hQr _ _ [.bool true] ⟨rfl, trivial⟩ (retH (fun r => laws_FnExactSplitBy.post sb s F0 r _ _) (show some _ = some r from H) ⟨rfl, hH⟩)
 ·replace H := iteF hb4 H
  refine HT_false (congrArg Value.bool hb4) ?_
  refine HT_skip ?_
  refine hK2 _ _ ?_
  refine HT_seq_k ?_
  intro K6 hK6
  refine HT_region ?_
  refine HL_cons rfl ?_
  refine o_assign ?_
  try dsimp only [putL, setL, evL, getL]
  refine HL_nil ?_
  refine hK6 _ _ ?_
  refine HT_seq_k ?_
  intro K7 hK7
  refine HT_region ?_
  refine HL_cons rfl ?_
  refine o_move ?_
  try dsimp only [putL, setL, evL, getL]
  refine HL_cons rfl ?_
  refine o_move ?_
  try dsimp only [putL, setL, evL, getL]
  replace H := headE H
  obtain ⟨u8, hu8, H⟩ := H
  refine HL_cons rfl ?_
  refine o_call (args := #[.slice A0p p0.length c0p, .int .i64 1048576]) Try.func37 rfl rfl rfl (laws_szReS.ok sb s no A0p c0p p0 1048576 HRp0 (Hp.own hH.bs) _ hu8) ?_
  rintro _ s8 ⟨rfl, hD⟩
  replace hH := hH.back0 hD (Up.refl _ _ _)
  clear hD
  dsimp only [addC, setC, rmC, selC, getC] at hH
  try dsimp only [putL, setL, evL, getL]
  refine HL_cons rfl ?_
  refine o_assign ?_
  try dsimp only [putL, setL, evL, getL]
  refine HL_nil ?_
  refine hK7 _ _ ?_
  refine HT_seq_k ?_
  intro K9 hK9
  refine HT_seq_k ?_
  intro K10 hK10
  refine HT_region ?_
  refine HL_cons rfl ?_
  refine o_move ?_
  try dsimp only [putL, setL, evL, getL]
  refine HL_cons rfl ?_
  refine o_bin rfl rfl rfl ?_
  try dsimp only [putL, setL, evL, getL]
  refine HL_nil ?_
  refine hK10 _ _ ?_
  rcases Bool.eq_false_or_eq_true (decide (u8 < 0)) with hb11 | hb11
  ·replace H := iteT hb11 H
   refine HT_true (congrArg Value.bool hb11) ?_
   refine HT_seq_k ?_
   intro K12 hK12
   refine HT_region ?_
   refine HL_cons rfl ?_
   refine o_assign ?_
   try dsimp only [putL, setL, evL, getL]
   refine HL_nil ?_
   refine hK12 _ _ ?_
   refine HT_ret ?_
   exact hQr _ _ [.bool true] ⟨rfl, trivial⟩ (retH (fun r => laws_FnExactSplitBy.post sb s F0 r _ _) (show some _ = some r from H) ⟨rfl, hH⟩)
  ·replace H := iteF hb11 H
   refine HT_false (congrArg Value.bool hb11) ?_
   refine HT_skip ?_
   refine hK9 _ _ ?_
   refine HT_seq_k ?_
   intro K13 hK13
   refine HT_region ?_
   refine HL_cons rfl ?_
   refine o_move ?_
   try dsimp only [putL, setL, evL, getL]
   replace H := headE H
   obtain ⟨u14, hu14, H⟩ := H
   refine HL_cons rfl ?_
   refine o_call (args := #[.slice A0p p0.length c0p]) Try.func40 rfl rfl rfl (laws_toReS.ok sb s8 no A0p c0p p0 HRp0 (Hp.own hH.bs) _ hu14) ?_
   rintro _ s14 ⟨A15, c15, rfl, hD⟩
   replace hH := hH.back0 hD (Up.refl _ _ _)
   clear hD
   dsimp only [addC, setC, rmC, selC, getC] at hH
   try dsimp only [putL, setL, evL, getL]
   refine HL_cons rfl ?_
   refine o_move ?_
   try dsimp only [putL, setL, evL, getL]
   replace H := headE H
   obtain ⟨u16, hu16, H⟩ := H
   refine HL_cons rfl ?_
   refine o_call (args := #[.slice A1p p1.length c1p]) Try.func61 rfl rfl rfl (laws_toIntS.ok sb s14 no A1p c1p p1 HRp1 (Hp.own hH.bs) _ hu16) ?_
   rintro _ s16 ⟨A17, c17, rfl, hD⟩
   replace hH := hH.back0 hD (Up.refl _ _ _)
   clear hD
   dsimp only [addC, setC, rmC, selC, getC] at hH
   try dsimp only [putL, setL, evL, getL]
   replace H := headE H
   obtain ⟨u18, hu18, H⟩ := H
   refine HL_cons rfl ?_
   refine o_call (args := #[.slice A15 u14.length c15, .slice A17 u16.length c17]) Try.func93 rfl rfl rfl (spec_SplitBy.ok s16 s16 no A15 c15 u14 A17 c17 u16 (hH.rd 0 rfl) (hH.rd 1 rfl) (Hp.own (Bs.refl s16)) _ hu18) ?_
   rintro _ s18 ⟨A19, c19, rfl, hD⟩
   replace hH := hH.back0T hD
   clear hD
   dsimp only [addC, setC, rmC, selC, getC] at hH
   try dsimp only [putL, setL, evL, getL]
   refine HL_cons rfl ?_
   refine o_move ?_
   try dsimp only [putL, setL, evL, getL]
   refine HL_cons rfl ?_
   refine o_extract rfl rfl ?_
   try dsimp only [putL, setL, evL, getL]
   refine HL_cons rfl ?_
   refine o_extract rfl rfl ?_
   try dsimp only [putL, setL, evL, getL]
   refine HL_cons rfl ?_
   refine o_assign ?_
   try dsimp only [putL, setL, evL, getL]
   refine HL_cons rfl ?_
   refine o_assign ?_
   try dsimp only [putL, setL, evL, getL]
   refine HL_nil ?_
   refine hK13 _ _ ?_
   refine HT_seq_k ?_
   intro K20 hK20
   refine HT_region ?_
   refine HL_cons rfl ?_
   refine o_move ?_
   try dsimp only [putL, setL, evL, getL]
   replace H := headE H
   obtain ⟨u21, hu21, H⟩ := H
   refine HL_cons rfl ?_
   refine o_call (args := #[.slice A0p p0.length c0p]) Try.func40 rfl rfl rfl (laws_toReS.ok sb s18 no A0p c0p p0 HRp0 (Hp.own hH.bs) _ hu21) ?_
   rintro _ s21 ⟨A22, c22, rfl, hD⟩
   replace hH := hH.back0 hD (Up.refl _ _ _)
   clear hD
   dsimp only [addC, setC, rmC, selC, getC] at hH
   try dsimp only [putL, setL, evL, getL]
   refine HL_cons rfl ?_
   refine o_assign ?_
   try dsimp only [putL, setL, evL, getL]
   refine HL_nil ?_
   refine hK20 _ _ ?_
   refine HT_seq_k ?_
   intro K23 hK23
   refine HT_region ?_
   refine HL_cons rfl ?_
   refine o_move ?_
   try dsimp only [putL, setL, evL, getL]
   replace H := headE H
   obtain ⟨u24, hu24, H⟩ := H
   refine HL_cons rfl ?_
   refine o_call (args := #[.slice A1p p1.length c1p]) Try.func61 rfl rfl rfl (laws_toIntS.ok sb s21 no A1p c1p p1 HRp1 (Hp.own hH.bs) _ hu24) ?_
   rintro _ s24 ⟨A25, c25, rfl, hD⟩
   replace hH := hH.back0 hD (Up.refl _ _ _)
   clear hD
   dsimp only [addC, setC, rmC, selC, getC] at hH
   try dsimp only [putL, setL, evL, getL]
   refine HL_cons rfl ?_
   refine o_assign ?_
   try dsimp only [putL, setL, evL, getL]
   refine HL_nil ?_
   refine hK23 _ _ ?_
   refine HT_seq_k ?_
   intro K26 hK26
   refine HT_region ?_
   refine HL_cons rfl ?_
   refine o_move ?_
   try dsimp only [putL, setL, evL, getL]
   refine HL_cons rfl ?_
   refine o_move ?_
   try dsimp only [putL, setL, evL, getL]
   replace H := headE H
   obtain ⟨u27, hu27, H⟩ := H
   refine HL_cons rfl ?_
   refine o_call (args := #[.slice A22 u21.length c22, .slice A25 u24.length c25]) Try.func94 rfl rfl rfl (impl_SplitBy.ok s24 s24 no A22 c22 u21 A25 c25 u24 (hH.rd 3 rfl) (hH.rd 4 rfl) (Hp.own (Bs.refl s24)) _ hu27) ?_
   rintro _ s27 ⟨A28, c28, rfl, hD⟩
   replace hH := hH.back0T hD
   clear hD
   dsimp only [addC, setC, rmC, selC, getC] at hH
   try dsimp only [putL, setL, evL, getL]
   refine HL_cons rfl ?_
   refine o_move ?_
   try dsimp only [putL, setL, evL, getL]
   refine HL_cons rfl ?_
   refine o_extract rfl rfl ?_
   try dsimp only [putL, setL, evL, getL]
   refine HL_cons rfl ?_
   refine o_extract rfl rfl ?_
   try dsimp only [putL, setL, evL, getL]
   refine HL_cons rfl ?_
   refine o_assign ?_
   try dsimp only [putL, setL, evL, getL]
   refine HL_cons rfl ?_
   refine o_assign ?_
   try dsimp only [putL, setL, evL, getL]
   refine HL_nil ?_
   refine hK26 _ _ ?_
   refine HT_seq_k ?_
   intro K39 hK39
   refine joinH H fun G40 hG40 H => ?_
   refine HT_joinK (fun l' s' => ∃ (x43 : Bool), G40 x43 = some r ∧ l' = [.slice A0p p0.length c0p, .slice A1p p1.length c1p, undef, undef, .bool false, .int .i64 u8, .slice A19 u18.1.length c19, .bool u18.2, .slice A22 u21.length c22, .slice A25 u24.length c25, .slice A28 u27.1.length c28, .bool u27.2, undef, undef, undef, undef, undef, .slice A1p p1.length c1p, .int .i64 (p1.length : Int), .bool (decide ((p1.length : Int) > 1048576)), .slice A0p p0.length c0p, .int .i64 1048576, .int .i64 u8, .int .i64 u8, .bool (decide (u8 < 0)), .tuple #[.slice A19 u18.1.length c19, .bool u18.2], .slice A0p p0.length c0p, .slice A15 u14.length c15, .slice A1p p1.length c1p, .slice A17 u16.length c17, .tuple #[.slice A19 u18.1.length c19, .bool u18.2], .slice A19 u18.1.length c19, .bool u18.2, .slice A0p p0.length c0p, .slice A22 u21.length c22, .slice A1p p1.length c1p, .slice A25 u24.length c25, .tuple #[.slice A28 u27.1.length c28, .bool u27.2], .slice A22 u21.length c22, .slice A25 u24.length c25, .tuple #[.slice A28 u27.1.length c28, .bool u27.2], .slice A28 u27.1.length c28, .bool u27.2, getL l' 43, getL l' 44, getL l' 45, getL l' 46, getL l' 47, getL l' 48, getL l' 49, getL l' 50, .bool x43, undef, undef, undef, undef, undef, undef, undef, undef, undef, undef, undef, undef, undef, undef, undef, undef, undef, undef, undef, undef, undef, undef, undef, undef, undef, undef, undef, undef, undef, undef, undef, undef, undef, undef, undef, undef, undef, undef, undef, undef, undef, undef, undef, undef, undef, undef, undef, undef, undef, undef, undef, undef, undef, undef, undef, undef, undef, undef, undef, undef, undef, undef, undef, undef, undef] ∧ Hp sb s F0 s' [Ck.ol (Ow.sl OI 3) 24 A19 c19 u18.1, Ck.ol OS139 139 A22 c22 u21, Ck.ol OI 3 A25 c25 u24, Ck.ol (Ow.sl OI 3) 24 A28 c28 u27.1]) ?_ ?_
   ·intro K40 hK40
    refine HT_region ?_
    refine HL_cons rfl ?_
    refine o_move ?_
    try dsimp only [putL, setL, evL, getL]
    refine HL_cons rfl ?_
    refine o_move ?_
    try dsimp only [putL, setL, evL, getL]
    replace H := headE H
    obtain ⟨u44, hu44, H⟩ := H
    refine HL_cons rfl ?_
    refine o_call (args := #[.slice A28 u27.1.length c28, .slice A19 u18.1.length c19]) Try.func95 rfl rfl rfl (laws_eqIntSS.ok s27 s27 no A28 c28 u27.1 A19 c19 u18.1 (hH.rd 5 rfl) (hH.rd 2 rfl) (Hp.own (Bs.refl s27)) _ hu44) ?_
    rintro _ s44 ⟨rfl, hD⟩
    replace hH := hH.back0T hD
    clear hD
    dsimp only [addC, setC, rmC, selC, getC] at hH
    try dsimp only [putL, setL, evL, getL]
    refine HL_cons rfl ?_
    refine o_not rfl ?_
    try dsimp only [putL, setL, evL, getL]
    refine HL_cons rfl ?_
    refine o_move ?_
    try dsimp only [putL, setL, evL, getL]
    rcases Bool.eq_false_or_eq_true (!u44) with hb45 | hb45
    ·replace H := iteT hb45 H
     refine HL_skip ?_ ?_
     ·exact wantF (j := 4) (b := false) (t := 47) (c := !u44) rfl rfl rfl rfl hb45
     try dsimp only [putL, setL, evL, getL]
     refine HL_skip ?_ ?_
     ·exact wantF (j := 4) (b := false) (t := 47) (c := !u44) rfl rfl rfl rfl hb45
     try dsimp only [putL, setL, evL, getL]
     refine HL_skip ?_ ?_
     ·exact wantF (j := 4) (b := false) (t := 47) (c := !u44) rfl rfl rfl rfl hb45
     try dsimp only [putL, setL, evL, getL]
     refine HL_cons rfl ?_
     refine o_pickT rfl hb45 ?_
     try dsimp only [putL, setL, evL, getL]
     refine HL_nil ?_
     exact hK40 _ _ ⟨true, H, rfl, hH.sel [2, 3, 4, 5] (by decide)⟩
    ·replace H := iteF hb45 H
     refine HL_want ?_ ?_
     ·exact wantT (j := 4) (b := false) (t := 47) (c := !u44) rfl rfl rfl rfl hb45
     refine o_move ?_
     try dsimp only [putL, setL, evL, getL]
     refine HL_want ?_ ?_
     ·exact wantT (j := 4) (b := false) (t := 47) (c := !u44) rfl rfl rfl rfl hb45
     refine o_move ?_
     try dsimp only [putL, setL, evL, getL]
     refine HL_want ?_ ?_
     ·exact wantT (j := 4) (b := false) (t := 47) (c := !u44) rfl rfl rfl rfl hb45
     refine o_neb rfl rfl Try.underlying4 ?_
     try dsimp only [putL, setL, evL, getL]
     refine HL_cons rfl ?_
     refine o_pickF rfl hb45 ?_
     try dsimp only [putL, setL, evL, getL]
     refine HL_nil ?_
     exact hK40 _ _ ⟨u27.2 != u18.2, H, rfl, hH.sel [2, 3, 4, 5] (by decide)⟩
   ·rintro l' s46 ⟨x43, H, hl, hH⟩
    generalize getL l' 43 = j43, getL l' 44 = j44, getL l' 45 = j45, getL l' 46 = j46, getL l' 47 = j47, getL l' 48 = j48, getL l' 49 = j49, getL l' 50 = j50 at hl
    subst hl
    replace H := hG40 _ H
    try dsimp only at H
    rcases Bool.eq_false_or_eq_true x43 with hb47 | hb47
    ·replace H := iteT hb47 H
     refine HT_true (congrArg Value.bool hb47) ?_
     refine HT_seq_k ?_
     intro K48 hK48
     refine HT_region ?_
     refine HL_cons rfl ?_
     refine o_assign ?_
     try dsimp only [putL, setL, evL, getL]
     refine HL_nil ?_
     refine hK48 _ _ ?_
     refine HT_ret ?_
     exact hQr _ _ [.bool false] ⟨rfl, trivial⟩ (retH (fun r => laws_FnExactSplitBy.post sb s F0 r _ _) (show some _ = some r from H) ⟨rfl, hH.sel [] (by decide)⟩)
    ·replace H := iteF hb47 H
     refine HT_false (congrArg Value.bool hb47) ?_
     refine HT_skip ?_
     refine hK39 _ _ ?_
     refine HT_seq_k ?_
     intro K49 hK49
     refine HT_seq_k ?_
     intro K50 hK50
     refine HT_region ?_
     refine HL_cons rfl ?_
     refine o_move ?_
     try dsimp only [putL, setL, evL, getL]
     refine HL_cons rfl ?_
     refine o_move ?_
     try dsimp only [putL, setL, evL, getL]
     replace H := headE H
     obtain ⟨u51, hu51, H⟩ := H
     refine HL_cons rfl ?_
     refine o_call (args := #[.slice A0p p0.length c0p]) Try.func40 rfl rfl rfl (laws_toReS.ok sb s46 no A0p c0p p0 HRp0 (Hp.own hH.bs) _ hu51) ?_
     rintro _ s51 ⟨A52, c52, rfl, hD⟩
     replace hH := hH.back0 hD (Up.refl _ _ _)
     clear hD
     dsimp only [addC, setC, rmC, selC, getC] at hH
     try dsimp only [putL, setL, evL, getL]
     replace H := headE H
     obtain ⟨u53, hu53, H⟩ := H
     refine HL_cons rfl ?_
     refine o_call (args := #[.slice A22 u21.length c22, .slice A52 u51.length c52]) Try.func44 rfl rfl rfl (laws_eqReS.ok s51 s51 no A22 c22 u21 A52 c52 u51 (hH.rd 1 rfl) (hH.rd 4 rfl) (Hp.own (Bs.refl s51)) _ hu53) ?_
     rintro _ s53 ⟨rfl, hD⟩
     replace hH := hH.back0T hD
     clear hD
     dsimp only [addC, setC, rmC, selC, getC] at hH
     try dsimp only [putL, setL, evL, getL]
     refine HL_cons rfl ?_
     refine o_not rfl ?_
     try dsimp only [putL, setL, evL, getL]
     refine HL_nil ?_
     refine hK50 _ _ ?_
     rcases Bool.eq_false_or_eq_true (!u53) with hb54 | hb54
     ·replace H := iteT hb54 H
      refine HT_true (congrArg Value.bool hb54) ?_
      refine HT_seq_k ?_
      intro K55 hK55
      refine HT_region ?_
      refine HL_cons rfl ?_
      refine o_assign ?_
      try dsimp only [putL, setL, evL, getL]
      refine HL_nil ?_
      refine hK55 _ _ ?_
      refine HT_ret ?_
      exact hQr _ _ [.bool false] ⟨rfl, trivial⟩ (retH (fun r => laws_FnExactSplitBy.post sb s F0 r _ _) (show some _ = some r from H) ⟨rfl, hH.sel [] (by decide)⟩)
     ·replace H := iteF hb54 H
      refine HT_false (congrArg Value.bool hb54) ?_
      refine HT_skip ?_
      refine hK49 _ _ ?_
      refine HT_seq_k ?_
      intro K56 hK56
      refine HT_seq_k ?_
      intro K57 hK57
      refine HT_region ?_
      refine HL_cons rfl ?_
      refine o_move ?_
      try dsimp only [putL, setL, evL, getL]
      refine HL_cons rfl ?_
      refine o_move ?_
      try dsimp only [putL, setL, evL, getL]
      replace H := headE H
      obtain ⟨u58, hu58, H⟩ := H
      refine HL_cons rfl ?_
      refine o_call (args := #[.slice A1p p1.length c1p]) Try.func61 rfl rfl rfl (laws_toIntS.ok sb s53 no A1p c1p p1 HRp1 (Hp.own hH.bs) _ hu58) ?_
      rintro _ s58 ⟨A59, c59, rfl, hD⟩
      replace hH := hH.back0 hD (Up.refl _ _ _)
      clear hD
      dsimp only [addC, setC, rmC, selC, getC] at hH
      try dsimp only [putL, setL, evL, getL]
      replace H := headE H
      obtain ⟨u60, hu60, H⟩ := H
      refine HL_cons rfl ?_
      refine o_call (args := #[.slice A25 u24.length c25, .slice A59 u58.length c59]) Try.func63 rfl rfl rfl (laws_eqIntS.ok s58 s58 no A25 c25 u24 A59 c59 u58 (hH.rd 2 rfl) (hH.rd 5 rfl) (Hp.own (Bs.refl s58)) _ hu60) ?_
      rintro _ s60 ⟨rfl, hD⟩
      replace hH := hH.back0T hD
      clear hD
      dsimp only [addC, setC, rmC, selC, getC] at hH
      try dsimp only [putL, setL, evL, getL]
      refine HL_cons rfl ?_
      refine o_not rfl ?_
      try dsimp only [putL, setL, evL, getL]
      refine HL_nil ?_
      refine hK57 _ _ ?_
      rcases Bool.eq_false_or_eq_true (!u60) with hb61 | hb61
      ·replace H := iteT hb61 H
       refine HT_true (congrArg Value.bool hb61) ?_
       refine HT_seq_k ?_
       intro K62 hK62
       refine HT_region ?_
       refine HL_cons rfl ?_
       refine o_assign ?_
       try dsimp only [putL, setL, evL, getL]
       refine HL_nil ?_
       refine hK62 _ _ ?_
       refine HT_ret ?_
       exact hQr _ _ [.bool false] ⟨rfl, trivial⟩ (retH (fun r => laws_FnExactSplitBy.post sb s F0 r _ _) (show some _ = some r from H) ⟨rfl, hH.sel [] (by decide)⟩)
      ·replace H := iteF hb61 H
       refine HT_false (congrArg Value.bool hb61) ?_
       refine HT_skip ?_
       refine hK56 _ _ ?_
       refine HT_seq_k ?_
       intro K63 hK63
       refine HT_region ?_
       refine HL_cons rfl ?_
       refine o_assign ?_
       try dsimp only [putL, setL, evL, getL]
       refine HL_nil ?_
       refine hK63 _ _ ?_
       refine HT_seq_k ?_
       intro K64 hK64
       refine HT_region ?_
       refine HL_cons rfl ?_
       refine o_move ?_
       try dsimp only [putL, setL, evL, getL]
       refine HL_cons rfl ?_
       refine o_move ?_
       try dsimp only [putL, setL, evL, getL]
       replace H := headE H
       obtain ⟨u65, hu65, H⟩ := H
       obtain ⟨F1, hA, hB⟩ := hH.take [1] (by decide)
       dsimp only [addC, setC, rmC, selC, getC] at hA
       refine HL_cons rfl ?_
       refine o_call (args := #[.slice A22 u21.length c22, .int .i64 1]) Try.func45 rfl rfl rfl (laws_markReS.ok sb s60 F1 A22 c22 u21 1 hA _ hu65) ?_
       rintro _ s65 ⟨rfl, hD, hl66⟩
       replace hH := hB _ _ _ (Up.refl _ _ _) hD
       clear hD hA hB
       dsimp only [addC, setC, rmC, selC, getC] at hH
       try dsimp only [putL, setL, evL, getL]
       refine HL_cons rfl ?_
       refine o_assign ?_
       try dsimp only [putL, setL, evL, getL]
       refine HL_nil ?_
       refine hK64 _ _ ?_
       refine HT_seq_k ?_
       intro K67 hK67
       refine HT_region ?_
       refine HL_cons rfl ?_
       refine o_move ?_
       try dsimp only [putL, setL, evL, getL]
       refine HL_cons rfl ?_
       refine o_move ?_
       try dsimp only [putL, setL, evL, getL]
       replace H := headE H
       obtain ⟨u68, hu68, H⟩ := H
       obtain ⟨F1, hA, hB⟩ := hH.take [2] (by decide)
       dsimp only [addC, setC, rmC, selC, getC] at hA
       refine HL_cons rfl ?_
       refine o_call (args := #[.slice A25 u24.length c25, .int .i64 u65.1]) Try.func89 rfl rfl rfl (laws_markIntS.ok sb s65 F1 A25 c25 u24 u65.1 hA _ hu68) ?_
       rintro _ s68 ⟨rfl, hD, hl69⟩
       replace hH := hB _ _ _ (Up.refl _ _ _) hD
       clear hD hA hB
       dsimp only [addC, setC, rmC, selC, getC] at hH
       try dsimp only [putL, setL, evL, getL]
       refine HL_cons rfl ?_
       refine o_assign ?_
       try dsimp only [putL, setL, evL, getL]
       refine HL_nil ?_
       refine hK67 _ _ ?_
       refine HT_seq_k ?_
       intro K82 hK82
       refine joinH H fun G83 hG83 H => ?_
       refine HT_joinK (fun l' s' => ∃ (x87 : Bool), G83 x87 = some r ∧ l' = [.slice A0p p0.length c0p, .slice A1p p1.length c1p, undef, undef, .bool false, .int .i64 u8, .slice A19 u18.1.length c19, .bool u18.2, .slice A22 u21.length c22, .slice A25 u24.length c25, .slice A28 u27.1.length c28, .bool u27.2, .int .i64 u68.1, undef, undef, undef, undef, .slice A1p p1.length c1p, .int .i64 (p1.length : Int), .bool (decide ((p1.length : Int) > 1048576)), .slice A0p p0.length c0p, .int .i64 1048576, .int .i64 u8, .int .i64 u8, .bool (decide (u8 < 0)), .tuple #[.slice A19 u18.1.length c19, .bool u18.2], .slice A0p p0.length c0p, .slice A15 u14.length c15, .slice A1p p1.length c1p, .slice A17 u16.length c17, .tuple #[.slice A19 u18.1.length c19, .bool u18.2], .slice A19 u18.1.length c19, .bool u18.2, .slice A0p p0.length c0p, .slice A22 u21.length c22, .slice A1p p1.length c1p, .slice A25 u24.length c25, .tuple #[.slice A28 u27.1.length c28, .bool u27.2], .slice A22 u21.length c22, .slice A25 u24.length c25, .tuple #[.slice A28 u27.1.length c28, .bool u27.2], .slice A28 u27.1.length c28, .bool u27.2, j43, j44, j45, j46, j47, j48, j49, j50, .bool x43, .slice A22 u21.length c22, .slice A0p p0.length c0p, .slice A52 u51.length c52, .bool u53, .bool (!u53), .slice A25 u24.length c25, .slice A1p p1.length c1p, .slice A59 u58.length c59, .bool u60, .bool (!u60), .slice A22 u21.length c22, .int .i64 1, .int .i64 u65.1, .slice A25 u24.length c25, .int .i64 u65.1, .int .i64 u68.1, getL l' 68, getL l' 69, getL l' 70, getL l' 71, getL l' 72, getL l' 73, getL l' 74, getL l' 75, getL l' 76, getL l' 77, getL l' 78, getL l' 79, .bool x87, undef, undef, undef, undef, undef, undef, undef, undef, undef, undef, undef, undef, undef, undef, undef, undef, undef, undef, undef, undef, undef, undef, undef, undef, undef, undef, undef, undef, undef, undef, undef, undef, undef, undef, undef, undef] ∧ Hp sb s F0 s' [Ck.ol (Ow.sl OI 3) 24 A19 c19 u18.1, Ck.ol (Ow.sl OI 3) 24 A28 c28 u27.1]) ?_ ?_
       ·intro K83 hK83
        refine HT_region ?_
        refine HL_cons rfl ?_
        refine o_move ?_
        try dsimp only [putL, setL, evL, getL]
        refine HL_cons rfl ?_
        refine o_bin rfl rfl rfl ?_
        try dsimp only [putL, setL, evL, getL]
        refine HL_cons rfl ?_
        refine o_move ?_
        try dsimp only [putL, setL, evL, getL]
        rcases Bool.eq_false_or_eq_true (decide (u68.1 < 0)) with hb88 | hb88
        ·replace H := iteT hb88 H
         refine HL_skip ?_ ?_
         ·exact wantF (j := 2) (b := false) (t := 70) (c := decide (u68.1 < 0)) rfl rfl rfl rfl hb88
         try dsimp only [putL, setL, evL, getL]
         refine HL_skip ?_ ?_
         ·exact wantF (j := 2) (b := false) (t := 70) (c := decide (u68.1 < 0)) rfl rfl rfl rfl hb88
         try dsimp only [putL, setL, evL, getL]
         refine HL_skip ?_ ?_
         ·exact wantF (j := 2) (b := false) (t := 70) (c := decide (u68.1 < 0)) rfl rfl rfl rfl hb88
         try dsimp only [putL, setL, evL, getL]
         refine HL_skip ?_ ?_
         ·exact wantF (j := 2) (b := false) (t := 70) (c := decide (u68.1 < 0)) rfl rfl rfl rfl hb88
         try dsimp only [putL, setL, evL, getL]
         refine HL_cons rfl ?_
         refine o_pickT rfl hb88 ?_
         try dsimp only [putL, setL, evL, getL]
         refine HL_cons rfl ?_
         refine o_move ?_
         try dsimp only [putL, setL, evL, getL]
         refine HL_skip ?_ ?_
         ·exact wantF (j := 8) (b := false) (t := 76) (c := true) rfl rfl rfl rfl rfl
         try dsimp only [putL, setL, evL, getL]
         refine HL_skip ?_ ?_
         ·exact wantF (j := 8) (b := false) (t := 76) (c := true) rfl rfl rfl rfl rfl
         try dsimp only [putL, setL, evL, getL]
         refine HL_skip ?_ ?_
         ·exact wantF (j := 8) (b := false) (t := 76) (c := true) rfl rfl rfl rfl rfl
         try dsimp only [putL, setL, evL, getL]
         refine HL_cons rfl ?_
         refine o_pickT rfl rfl ?_
         try dsimp only [putL, setL, evL, getL]
         refine HL_nil ?_
         exact hK83 _ _ ⟨true, H, rfl, hH.sel [0, 3] (by decide)⟩
        ·replace H := iteF hb88 H
         refine HL_want ?_ ?_
         ·exact wantT (j := 2) (b := false) (t := 70) (c := decide (u68.1 < 0)) rfl rfl rfl rfl hb88
         refine o_move ?_
         try dsimp only [putL, setL, evL, getL]
         refine HL_want ?_ ?_
         ·exact wantT (j := 2) (b := false) (t := 70) (c := decide (u68.1 < 0)) rfl rfl rfl rfl hb88
         refine o_move ?_
         try dsimp only [putL, setL, evL, getL]
         replace H := headE H
         obtain ⟨u89, hu89, H⟩ := H
         refine HL_want ?_ ?_
         ·exact wantT (j := 2) (b := false) (t := 70) (c := decide (u68.1 < 0)) rfl rfl rfl rfl hb88
         refine o_call (args := #[.slice A28 u27.1.length c28, .slice A19 u18.1.length c19]) Try.func95 rfl rfl rfl (laws_eqIntSS.ok s68 s68 no A28 c28 u27.1 A19 c19 u18.1 (hH.rd 3 rfl) (hH.rd 0 rfl) (Hp.own (Bs.refl s68)) _ hu89) ?_
         rintro _ s89 ⟨rfl, hD⟩
         replace hH := hH.back0T hD
         clear hD
         dsimp only [addC, setC, rmC, selC, getC] at hH
         try dsimp only [putL, setL, evL, getL]
         refine HL_want ?_ ?_
         ·exact wantT (j := 2) (b := false) (t := 70) (c := decide (u68.1 < 0)) rfl rfl rfl rfl hb88
         refine o_not rfl ?_
         try dsimp only [putL, setL, evL, getL]
         refine HL_cons rfl ?_
         refine o_pickF rfl hb88 ?_
         try dsimp only [putL, setL, evL, getL]
         refine HL_cons rfl ?_
         refine o_move ?_
         try dsimp only [putL, setL, evL, getL]
         rcases Bool.eq_false_or_eq_true (!u89) with hb90 | hb90
         ·replace H := iteT hb90 H
          refine HL_skip ?_ ?_
          ·exact wantF (j := 8) (b := false) (t := 76) (c := !u89) rfl rfl rfl rfl hb90
          try dsimp only [putL, setL, evL, getL]
          refine HL_skip ?_ ?_
          ·exact wantF (j := 8) (b := false) (t := 76) (c := !u89) rfl rfl rfl rfl hb90
          try dsimp only [putL, setL, evL, getL]
          refine HL_skip ?_ ?_
          ·exact wantF (j := 8) (b := false) (t := 76) (c := !u89) rfl rfl rfl rfl hb90
          try dsimp only [putL, setL, evL, getL]
          refine HL_cons rfl ?_
          refine o_pickT rfl hb90 ?_
          try dsimp only [putL, setL, evL, getL]
          refine HL_nil ?_
          exact hK83 _ _ ⟨true, H, rfl, hH.sel [0, 3] (by decide)⟩
         ·replace H := iteF hb90 H
          refine HL_want ?_ ?_
          ·exact wantT (j := 8) (b := false) (t := 76) (c := !u89) rfl rfl rfl rfl hb90
          refine o_move ?_
          try dsimp only [putL, setL, evL, getL]
          refine HL_want ?_ ?_
          ·exact wantT (j := 8) (b := false) (t := 76) (c := !u89) rfl rfl rfl rfl hb90
          refine o_move ?_
          try dsimp only [putL, setL, evL, getL]
          refine HL_want ?_ ?_
          ·exact wantT (j := 8) (b := false) (t := 76) (c := !u89) rfl rfl rfl rfl hb90
          refine o_neb rfl rfl Try.underlying4 ?_
          try dsimp only [putL, setL, evL, getL]
          refine HL_cons rfl ?_
          refine o_pickF rfl hb90 ?_
          try dsimp only [putL, setL, evL, getL]
          refine HL_nil ?_
          exact hK83 _ _ ⟨u27.2 != u18.2, H, rfl, hH.sel [0, 3] (by decide)⟩
       ·rintro l' s91 ⟨x87, H, hl, hH⟩
        generalize getL l' 68 = j68, getL l' 69 = j69, getL l' 70 = j70, getL l' 71 = j71, getL l' 72 = j72, getL l' 73 = j73, getL l' 74 = j74, getL l' 75 = j75, getL l' 76 = j76, getL l' 77 = j77, getL l' 78 = j78, getL l' 79 = j79 at hl
        subst hl
        replace H := hG83 _ H
        try dsimp only at H
        rcases Bool.eq_false_or_eq_true x87 with hb92 | hb92
        ·replace H := iteT hb92 H
         refine HT_true (congrArg Value.bool hb92) ?_
         refine HT_seq_k ?_
         intro K93 hK93
         refine HT_region ?_
         refine HL_cons rfl ?_
         refine o_assign ?_
         try dsimp only [putL, setL, evL, getL]
         refine HL_nil ?_
         refine hK93 _ _ ?_
         refine HT_ret ?_
         exact hQr _ _ [.bool false] ⟨rfl, trivial⟩ (retH (fun r => laws_FnExactSplitBy.post sb s F0 r _ _) (show some _ = some r from H) ⟨rfl, hH.sel [] (by decide)⟩)
        ·replace H := iteF hb92 H
         refine HT_false (congrArg Value.bool hb92) ?_
         refine HT_skip ?_
         refine hK82 _ _ ?_
         refine HT_seq_k ?_
         intro K94 hK94
         refine HT_region ?_
         refine HL_cons rfl ?_
         refine o_assign ?_
         try dsimp only [putL, setL, evL, getL]
         refine HL_nil ?_
         refine hK94 _ _ ?_
         refine HT_seq_k ?_
         intro K95 hK95
         refine HT_region ?_
         refine HL_cons rfl ?_
         refine o_move ?_
         try dsimp only [putL, setL, evL, getL]
         refine HL_cons rfl ?_
         refine o_move ?_
         try dsimp only [putL, setL, evL, getL]
         replace H := headE H
         obtain ⟨u96, hu96, H⟩ := H
         obtain ⟨F1, hA, hB⟩ := hH.take [1] (by decide)
         dsimp only [addC, setC, rmC, selC, getC] at hA
         refine HL_cons rfl ?_
         refine o_call (args := #[.slice A28 u27.1.length c28, .int .i64 1]) Try.func96 rfl rfl rfl (laws_markIntSS.ok sb s91 F1 A28 c28 u27.1 1 hA _ hu96) ?_
         rintro _ s96 ⟨rfl, hD, hl97⟩
         replace hH := hB _ _ _ (Up.refl _ _ _) hD
         clear hD hA hB
         dsimp only [addC, setC, rmC, selC, getC] at hH
         try dsimp only [putL, setL, evL, getL]
         refine HL_cons rfl ?_
         refine o_assign ?_
         try dsimp only [putL, setL, evL, getL]
         refine HL_nil ?_
         refine hK95 _ _ ?_
         refine HT_seq_k ?_
         intro K98 hK98
         refine HT_region ?_
         refine HL_cons rfl ?_
         refine o_assign ?_
         try dsimp only [putL, setL, evL, getL]
         refine HL_nil ?_
         refine hK98 _ _ ?_
         refine HT_seq_k ?_
         intro K99 hK99
         refine HT_region ?_
         refine HL_cons rfl ?_
         refine o_move ?_
         try dsimp only [putL, setL, evL, getL]
         refine HL_cons rfl ?_
         refine o_move ?_
         try dsimp only [putL, setL, evL, getL]
         replace H := headE H
         obtain ⟨u100, hu100, H⟩ := H
         refine HL_cons rfl ?_
         refine o_call (args := #[.slice A28 u96.2.length c28, .int .i64 1]) Try.func97 rfl rfl (by show ([.slice A28 u27.1.length c28, .int .i64 1] : List Value) = [.slice A28 u96.2.length c28, .int .i64 1]; rw [hl97]; first | done | rfl) (laws_heldIntSS.ok s96 s96 no A28 c28 u96.2 1 (hH.rd 2 rfl) (Hp.own (Bs.refl s96)) _ hu100) ?_
         rintro _ s100 ⟨rfl, hD⟩
         replace hH := hH.back0T hD
         clear hD
         dsimp only [addC, setC, rmC, selC, getC] at hH
         try dsimp only [putL, setL, evL, getL]
         refine HL_cons rfl ?_
         refine o_assign ?_
         try dsimp only [putL, setL, evL, getL]
         refine HL_nil ?_
         refine hK99 _ _ ?_
         refine HT_seq_k ?_
         intro K101 hK101
         refine HT_seq_k ?_
         intro K102 hK102
         refine HT_region ?_
         refine HL_cons rfl ?_
         refine o_move ?_
         try dsimp only [putL, setL, evL, getL]
         refine HL_cons rfl ?_
         refine o_bin rfl rfl rfl ?_
         try dsimp only [putL, setL, evL, getL]
         refine HL_nil ?_
         refine hK102 _ _ ?_
         rcases Bool.eq_false_or_eq_true (decide (u100 < 0)) with hb103 | hb103
         ·replace H := iteT hb103 H
          refine HT_true (congrArg Value.bool hb103) ?_
          refine HT_seq_k ?_
          intro K104 hK104
          refine HT_region ?_
          refine HL_cons rfl ?_
          refine o_assign ?_
          try dsimp only [putL, setL, evL, getL]
          refine HL_nil ?_
          refine hK104 _ _ ?_
          refine HT_ret ?_
          exact hQr _ _ [.bool false] ⟨rfl, trivial⟩ (retH (fun r => laws_FnExactSplitBy.post sb s F0 r _ _) (show some _ = some r from H) ⟨rfl, hH.sel [] (by decide)⟩)
         ·replace H := iteF hb103 H
          refine HT_false (congrArg Value.bool hb103) ?_
          refine HT_skip ?_
          refine hK101 _ _ ?_
          refine HT_seq_k ?_
          intro K105 hK105
          refine HT_seq_k ?_
          intro K106 hK106
          refine HT_region ?_
          refine HL_cons rfl ?_
          refine o_move ?_
          try dsimp only [putL, setL, evL, getL]
          refine HL_cons rfl ?_
          refine o_move ?_
          try dsimp only [putL, setL, evL, getL]
          refine HL_cons rfl ?_
          refine o_bin rfl rfl rfl ?_
          try dsimp only [putL, setL, evL, getL]
          refine HL_nil ?_
          refine hK106 _ _ ?_
          rcases Bool.eq_false_or_eq_true (u100 != u96.1) with hb107 | hb107
          ·replace H := iteT hb107 H
           refine HT_true (congrArg Value.bool hb107) ?_
           refine HT_seq_k ?_
           intro K108 hK108
           refine HT_region ?_
           refine HL_cons rfl ?_
           refine o_assign ?_
           try dsimp only [putL, setL, evL, getL]
           refine HL_nil ?_
           refine hK108 _ _ ?_
           refine HT_ret ?_
           exact hQr _ _ [.bool false] ⟨rfl, trivial⟩ (retH (fun r => laws_FnExactSplitBy.post sb s F0 r _ _) (show some _ = some r from H) ⟨rfl, hH.sel [] (by decide)⟩)
          ·replace H := iteF hb107 H
           refine HT_false (congrArg Value.bool hb107) ?_
           refine HT_skip ?_
           refine hK105 _ _ ?_
           refine HT_seq_k ?_
           intro K109 hK109
           refine HT_region ?_
           refine HL_cons rfl ?_
           refine o_move ?_
           try dsimp only [putL, setL, evL, getL]
           replace H := headE H
           obtain ⟨u110, hu110, H⟩ := H
           refine HL_cons rfl ?_
           refine o_call (args := #[.slice A0p p0.length c0p]) Try.func40 rfl rfl rfl (laws_toReS.ok sb s100 no A0p c0p p0 HRp0 (Hp.own hH.bs) _ hu110) ?_
           rintro _ s110 ⟨A111, c111, rfl, hD⟩
           replace hH := hH.back0 hD (Up.refl _ _ _)
           clear hD
           dsimp only [addC, setC, rmC, selC, getC] at hH
           try dsimp only [putL, setL, evL, getL]
           refine HL_cons rfl ?_
           refine o_move ?_
           try dsimp only [putL, setL, evL, getL]
           replace H := headE H
           obtain ⟨u112, hu112, H⟩ := H
           refine HL_cons rfl ?_
           refine o_call (args := #[.slice A1p p1.length c1p]) Try.func61 rfl rfl rfl (laws_toIntS.ok sb s110 no A1p c1p p1 HRp1 (Hp.own hH.bs) _ hu112) ?_
           rintro _ s112 ⟨A113, c113, rfl, hD⟩
           replace hH := hH.back0 hD (Up.refl _ _ _)
           clear hD
           dsimp only [addC, setC, rmC, selC, getC] at hH
           try dsimp only [putL, setL, evL, getL]
           replace H := headE H
           obtain ⟨u114, hu114, H⟩ := H
           refine HL_cons rfl ?_
           refine o_call (args := #[.slice A111 u110.length c111, .slice A113 u112.length c113]) Try.func94 rfl rfl rfl (impl_SplitBy.ok s112 s112 no A111 c111 u110 A113 c113 u112 (hH.rd 3 rfl) (hH.rd 4 rfl) (Hp.own (Bs.refl s112)) _ hu114) ?_
           rintro _ s114 ⟨A115, c115, rfl, hD⟩
           replace hH := hH.back0T hD
           clear hD
           dsimp only [addC, setC, rmC, selC, getC] at hH
           try dsimp only [putL, setL, evL, getL]
           refine HL_cons rfl ?_
           refine o_move ?_
           try dsimp only [putL, setL, evL, getL]
           refine HL_cons rfl ?_
           refine o_extract rfl rfl ?_
           try dsimp only [putL, setL, evL, getL]
           refine HL_cons rfl ?_
           refine o_extract rfl rfl ?_
           try dsimp only [putL, setL, evL, getL]
           refine HL_cons rfl ?_
           refine o_assign ?_
           try dsimp only [putL, setL, evL, getL]
           refine HL_cons rfl ?_
           refine o_assign ?_
           try dsimp only [putL, setL, evL, getL]
           refine HL_nil ?_
           refine hK109 _ _ ?_
           refine HT_seq_k ?_
           intro K126 hK126
           refine joinH H fun G127 hG127 H => ?_
           refine HT_joinK (fun l' s' => ∃ (x130 : Bool), G127 x130 = some r ∧ l' = [.slice A0p p0.length c0p, .slice A1p p1.length c1p, undef, undef, .bool false, .int .i64 u8, .slice A19 u18.1.length c19, .bool u18.2, .slice A22 u21.length c22, .slice A25 u24.length c25, .slice A28 u27.1.length c28, .bool u27.2, .int .i64 u68.1, .int .i64 u96.1, .int .i64 u100, .slice A115 u114.1.length c115, .bool u114.2, .slice A1p p1.length c1p, .int .i64 (p1.length : Int), .bool (decide ((p1.length : Int) > 1048576)), .slice A0p p0.length c0p, .int .i64 1048576, .int .i64 u8, .int .i64 u8, .bool (decide (u8 < 0)), .tuple #[.slice A19 u18.1.length c19, .bool u18.2], .slice A0p p0.length c0p, .slice A15 u14.length c15, .slice A1p p1.length c1p, .slice A17 u16.length c17, .tuple #[.slice A19 u18.1.length c19, .bool u18.2], .slice A19 u18.1.length c19, .bool u18.2, .slice A0p p0.length c0p, .slice A22 u21.length c22, .slice A1p p1.length c1p, .slice A25 u24.length c25, .tuple #[.slice A28 u27.1.length c28, .bool u27.2], .slice A22 u21.length c22, .slice A25 u24.length c25, .tuple #[.slice A28 u27.1.length c28, .bool u27.2], .slice A28 u27.1.length c28, .bool u27.2, j43, j44, j45, j46, j47, j48, j49, j50, .bool x43, .slice A22 u21.length c22, .slice A0p p0.length c0p, .slice A52 u51.length c52, .bool u53, .bool (!u53), .slice A25 u24.length c25, .slice A1p p1.length c1p, .slice A59 u58.length c59, .bool u60, .bool (!u60), .slice A22 u21.length c22, .int .i64 1, .int .i64 u65.1, .slice A25 u24.length c25, .int .i64 u65.1, .int .i64 u68.1, j68, j69, j70, j71, j72, j73, j74, j75, j76, j77, j78, j79, .bool x87, .slice A28 u27.1.length c28, .int .i64 1, .int .i64 u96.1, .slice A28 u27.1.length c28, .int .i64 1, .int .i64 u100, .int .i64 u100, .bool (decide (u100 < 0)), .int .i64 u100, .int .i64 u96.1, .bool (u100 != u96.1), .tuple #[.slice A115 u114.1.length c115, .bool u114.2], .slice A0p p0.length c0p, .slice A111 u110.length c111, .slice A1p p1.length c1p, .slice A113 u112.length c113, .tuple #[.slice A115 u114.1.length c115, .bool u114.2], .slice A115 u114.1.length c115, .bool u114.2, getL l' 100, getL l' 101, getL l' 102, getL l' 103, getL l' 104, getL l' 105, getL l' 106, getL l' 107, .bool x130, undef, undef, undef, undef, undef, undef, undef, undef] ∧ Hp sb s F0 s' [Ck.ol (Ow.sl OI 3) 24 A28 c28 u96.2]) ?_ ?_
           ·intro K127 hK127
            refine HT_region ?_
            refine HL_cons rfl ?_
            refine o_move ?_
            try dsimp only [putL, setL, evL, getL]
            refine HL_cons rfl ?_
            refine o_move ?_
            try dsimp only [putL, setL, evL, getL]
            replace H := headE H
            obtain ⟨u131, hu131, H⟩ := H
            refine HL_cons rfl ?_
            refine o_call (args := #[.slice A115 u114.1.length c115, .slice A19 u18.1.length c19]) Try.func95 rfl rfl rfl (laws_eqIntSS.ok s114 s114 no A115 c115 u114.1 A19 c19 u18.1 (hH.rd 5 rfl) (hH.rd 0 rfl) (Hp.own (Bs.refl s114)) _ hu131) ?_
            rintro _ s131 ⟨rfl, hD⟩
            replace hH := hH.back0T hD
            clear hD
            dsimp only [addC, setC, rmC, selC, getC] at hH
            try dsimp only [putL, setL, evL, getL]
            refine HL_cons rfl ?_
            refine o_not rfl ?_
            try dsimp only [putL, setL, evL, getL]
            refine HL_cons rfl ?_
            refine o_move ?_
            try dsimp only [putL, setL, evL, getL]
            rcases Bool.eq_false_or_eq_true (!u131) with hb132 | hb132
            ·replace H := iteT hb132 H
             refine HL_skip ?_ ?_
             ·exact wantF (j := 4) (b := false) (t := 104) (c := !u131) rfl rfl rfl rfl hb132
             try dsimp only [putL, setL, evL, getL]
             refine HL_skip ?_ ?_
             ·exact wantF (j := 4) (b := false) (t := 104) (c := !u131) rfl rfl rfl rfl hb132
             try dsimp only [putL, setL, evL, getL]
             refine HL_skip ?_ ?_
             ·exact wantF (j := 4) (b := false) (t := 104) (c := !u131) rfl rfl rfl rfl hb132
             try dsimp only [putL, setL, evL, getL]
             refine HL_cons rfl ?_
             refine o_pickT rfl hb132 ?_
             try dsimp only [putL, setL, evL, getL]
             refine HL_nil ?_
             exact hK127 _ _ ⟨true, H, rfl, hH.sel [2] (by decide)⟩
            ·replace H := iteF hb132 H
             refine HL_want ?_ ?_
             ·exact wantT (j := 4) (b := false) (t := 104) (c := !u131) rfl rfl rfl rfl hb132
             refine o_move ?_
             try dsimp only [putL, setL, evL, getL]
             refine HL_want ?_ ?_
             ·exact wantT (j := 4) (b := false) (t := 104) (c := !u131) rfl rfl rfl rfl hb132
             refine o_move ?_
             try dsimp only [putL, setL, evL, getL]
             refine HL_want ?_ ?_
             ·exact wantT (j := 4) (b := false) (t := 104) (c := !u131) rfl rfl rfl rfl hb132
             refine o_neb rfl rfl Try.underlying4 ?_
             try dsimp only [putL, setL, evL, getL]
             refine HL_cons rfl ?_
             refine o_pickF rfl hb132 ?_
             try dsimp only [putL, setL, evL, getL]
             refine HL_nil ?_
             exact hK127 _ _ ⟨u114.2 != u18.2, H, rfl, hH.sel [2] (by decide)⟩
           ·rintro l' s133 ⟨x130, H, hl, hH⟩
            generalize getL l' 100 = j100, getL l' 101 = j101, getL l' 102 = j102, getL l' 103 = j103, getL l' 104 = j104, getL l' 105 = j105, getL l' 106 = j106, getL l' 107 = j107 at hl
            subst hl
            replace H := hG127 _ H
            try dsimp only at H
            rcases Bool.eq_false_or_eq_true x130 with hb134 | hb134
            ·replace H := iteT hb134 H
             refine HT_true (congrArg Value.bool hb134) ?_
             refine HT_seq_k ?_
             intro K135 hK135
             refine HT_region ?_
             refine HL_cons rfl ?_
             refine o_assign ?_
             try dsimp only [putL, setL, evL, getL]
             refine HL_nil ?_
             refine hK135 _ _ ?_
             refine HT_ret ?_
             exact hQr _ _ [.bool false] ⟨rfl, trivial⟩ (retH (fun r => laws_FnExactSplitBy.post sb s F0 r _ _) (show some _ = some r from H) ⟨rfl, hH.sel [] (by decide)⟩)
            ·replace H := iteF hb134 H
             refine HT_false (congrArg Value.bool hb134) ?_
             refine HT_skip ?_
             refine hK126 _ _ ?_
             refine HT_seq_k ?_
             intro K136 hK136
             refine HT_region ?_
             refine HL_cons rfl ?_
             refine o_assign ?_
             try dsimp only [putL, setL, evL, getL]
             refine HL_nil ?_
             refine hK136 _ _ ?_
             refine HT_seq_k ?_
             intro K137 hK137
             refine HT_region ?_
             refine HL_cons rfl ?_
             refine o_move ?_
             try dsimp only [putL, setL, evL, getL]
             refine HL_cons rfl ?_
             refine o_move ?_
             try dsimp only [putL, setL, evL, getL]
             replace H := headE H
             obtain ⟨u138, hu138, H⟩ := H
             refine HL_cons rfl ?_
             refine o_call (args := #[.slice A28 u96.2.length c28, .int .i64 1]) Try.func97 rfl rfl (by show ([.slice A28 u27.1.length c28, .int .i64 1] : List Value) = [.slice A28 u96.2.length c28, .int .i64 1]; rw [hl97]; first | done | rfl) (laws_heldIntSS.ok s133 s133 no A28 c28 u96.2 1 (hH.rd 0 rfl) (Hp.own (Bs.refl s133)) _ hu138) ?_
             rintro _ s138 ⟨rfl, hD⟩
             replace hH := hH.back0T hD
             clear hD
             dsimp only [addC, setC, rmC, selC, getC] at hH
             try dsimp only [putL, setL, evL, getL]
             refine HL_cons rfl ?_
             refine o_assign ?_
             try dsimp only [putL, setL, evL, getL]
             refine HL_nil ?_
             refine hK137 _ _ ?_
             refine HT_seq_k ?_
             intro K139 hK139
             refine HT_seq_k ?_
             intro K140 hK140
             refine HT_region ?_
             refine HL_cons rfl ?_
             refine o_move ?_
             try dsimp only [putL, setL, evL, getL]
             refine HL_cons rfl ?_
             refine o_bin rfl rfl rfl ?_
             try dsimp only [putL, setL, evL, getL]
             refine HL_nil ?_
             refine hK140 _ _ ?_
             rcases Bool.eq_false_or_eq_true (decide (u138 < 0)) with hb141 | hb141
             ·replace H := iteT hb141 H
              refine HT_true (congrArg Value.bool hb141) ?_
              refine HT_seq_k ?_
              intro K142 hK142
              refine HT_region ?_
              refine HL_cons rfl ?_
              refine o_assign ?_
              try dsimp only [putL, setL, evL, getL]
              refine HL_nil ?_
              refine hK142 _ _ ?_
              refine HT_ret ?_
              exact hQr _ _ [.bool false] ⟨rfl, trivial⟩ (retH (fun r => laws_FnExactSplitBy.post sb s F0 r _ _) (show some _ = some r from H) ⟨rfl, hH.sel [] (by decide)⟩)
             ·replace H := iteF hb141 H
              refine HT_false (congrArg Value.bool hb141) ?_
              refine HT_skip ?_
              refine hK139 _ _ ?_
              refine HT_seq_k ?_
              intro K143 hK143
              refine HT_seq_k ?_
              intro K144 hK144
              refine HT_region ?_
              refine HL_cons rfl ?_
              refine o_move ?_
              try dsimp only [putL, setL, evL, getL]
              refine HL_cons rfl ?_
              refine o_move ?_
              try dsimp only [putL, setL, evL, getL]
              refine HL_cons rfl ?_
              refine o_bin rfl rfl rfl ?_
              try dsimp only [putL, setL, evL, getL]
              refine HL_nil ?_
              refine hK144 _ _ ?_
              rcases Bool.eq_false_or_eq_true (u138 != u96.1) with hb145 | hb145
              ·replace H := iteT hb145 H
               refine HT_true (congrArg Value.bool hb145) ?_
               refine HT_seq_k ?_
               intro K146 hK146
               refine HT_region ?_
               refine HL_cons rfl ?_
               refine o_assign ?_
               try dsimp only [putL, setL, evL, getL]
               refine HL_nil ?_
               refine hK146 _ _ ?_
               refine HT_ret ?_
               exact hQr _ _ [.bool false] ⟨rfl, trivial⟩ (retH (fun r => laws_FnExactSplitBy.post sb s F0 r _ _) (show some _ = some r from H) ⟨rfl, hH.sel [] (by decide)⟩)
              ·replace H := iteF hb145 H
               refine HT_false (congrArg Value.bool hb145) ?_
               refine HT_skip ?_
               refine hK143 _ _ ?_
               refine HT_seq_k ?_
               intro K147 hK147
               refine HT_region ?_
               refine HL_cons rfl ?_
               refine o_assign ?_
               try dsimp only [putL, setL, evL, getL]
               refine HL_nil ?_
               refine hK147 _ _ ?_
               refine HT_ret ?_
               exact hQr _ _ [.bool true] ⟨rfl, trivial⟩ (retH (fun r => laws_FnExactSplitBy.post sb s F0 r _ _) (show some _ = some r from H) ⟨rfl, hH.sel [] (by decide)⟩)
end Go.Proofs.Ytkieinlcpkpcjaa
