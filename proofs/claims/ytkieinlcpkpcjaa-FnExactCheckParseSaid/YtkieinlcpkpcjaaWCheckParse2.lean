/- The functions that the law reaches, as plain functions, each with its contract: printed by a program of the prover's. No conditions: lemmas. -/
import Derived.Test.YtkieinlcpkpcjaaWCheckParse1
set_option linter.unusedVariables false
set_option linter.unusedSimpArgs false
namespace Go.Proofs.Ytkieinlcpkpcjaa
open Go Go.Proofs.GL
attribute [local irreducible] HL HT HX HK
def laws_eqRe.f (p0_0 : Int) (p0_1 : List (Int)) (p1_0 : Int) (p1_1 : List (Int)) : Option Bool := if (p0_0 != p1_0) = true then (some false) else ((laws_eqIntS.f p0_1 p1_1).bind fun u10 => if (!u10) = true then (some false) else (some true))
def laws_eqRe.post (sb s : St) (F0 : Fp) (r : Bool) : Value → St → Prop := fun v s' => v = .bool r ∧ Hp sb s F0 s' []
set_option maxRecDepth 100000 in
set_option maxHeartbeats 4000000 in
theorem laws_eqRe.ok (sb s : St) (F0 : Fp) (p0_0 : Int) (A0_1p : Option Addr) (c0_1p : Nat) (p0_1 : List (Int)) (p1_0 : Int) (A1_1p : Option Addr) (c1_1p : Nat) (p1_1 : List (Int)) (HRp0_1 : Rd KI sb A0_1p c0_1p p0_1) (HRp1_1 : Rd KI sb A1_1p c1_1p p1_1) (hH : Hp sb s F0 s []) (r : Bool) (H : laws_eqRe.f p0_0 p0_1 p1_0 p1_1 = some r) : GCall Try.prog 138 #[.agg #[.int .i64 p0_0, .slice A0_1p p0_1.length c0_1p], .agg #[.int .i64 p1_0, .slice A1_1p p1_1.length c1_1p]] s (laws_eqRe.post sb s F0 r) := by
 refine GCall_ofr (laws_eqRe.post sb s F0) [.tmp 4] (ud [.agg #[.int .i64 p0_0, .slice A0_1p p0_1.length c0_1p], .agg #[.int .i64 p1_0, .slice A1_1p p1_1.length c1_1p]] 14) Try.func138 rfl rfl rfl fun w Q hQr hQn hQp => ?_
 replace H := topE H
 unfold laws_eqRe.f at H
 dsimp only [ud, un]
 refine sr fun K1 hK1 => hc (o_boxH hH rfl ?_)
 clear hH
 intro b2 s2 hH _
 refine hc (o_boxH hH rfl ?_)
 clear hH
 intro b3 s3 hH _
 refine ag (HL_nil (hK1 _ _ ?_))
 dsimp only [putL, setL, evL, getL]
 refine HT_seq_k fun K4 hK4 => sr fun K5 hK5 => hc (o_faddr' (ft := 3) (off := 0) rfl Try.underlying139 rfl tI3 (by decide) (hc (o_load' rfl Try.underlying3 rfl (hH.hasv 0 rfl rfl) (hc (o_faddr' (ft := 3) (off := 0) rfl Try.underlying139 rfl tI3 (by decide) ?_)))))
 dsimp only [putL, setL, evL, getL]
 refine hc (o_load' rfl Try.underlying3 rfl (hH.hasv 1 rfl rfl) (bn rfl rfl rfl (HL_nil (hK5 _ _ ?_))))
 dsimp only [putL, setL, evL, getL]
 revert H
 refine ct rfl (fun hb6 H => ?_) (fun hb6 H => ?_)
 ·refine sr fun K7 hK7 => ag (HL_nil (hK7 _ _ ?_))
  dsimp only [putL, setL, evL, getL]
  refine HT_ret ?_
  exact hQr _ _ [.bool false] _ ⟨rfl, trivial⟩ H ⟨rfl, hH.sel [] (by decide)⟩
 ·refine HT_skip (hK4 _ _ (HT_seq_k fun K8 hK8 => (sr fun K9 hK9 => (hc (o_faddr' (ft := 24) (off := 1) rfl Try.underlying139 rfl tI24 (by decide) (hc (o_load' rfl Try.underlying24 rfl (hH.hasv 0 rfl rfl) (hc (o_faddr' (ft := 24) (off := 1) rfl Try.underlying139 rfl tI24 (by decide) ?_)))))))))
  dsimp only [putL, setL, evL, getL]
  refine hc (o_load' rfl Try.underlying24 rfl (hH.hasv 1 rfl rfl) ?_)
  replace H := headE H
  obtain ⟨u10, hu10, H⟩ := H
  refine hc (o_call (args := #[.slice A0_1p p0_1.length c0_1p, .slice A1_1p p1_1.length c1_1p]) Try.func63 rfl rfl rfl (laws_eqIntS.ok sb s3 no A0_1p c0_1p p0_1 A1_1p c1_1p p1_1 HRp0_1 HRp1_1 (Hp.own hH.bs) _ hu10) ?_)
  rintro _ s10 ⟨rfl, hD⟩
  replace hH := hH.back0 hD (Up.refl _ _ _)
  clear hD
  refine hc (o_not rfl (HL_nil (hK9 _ _ ?_)))
  dsimp only [putL, setL, evL, getL]
  revert H
  refine ct rfl (fun hb11 H => ?_) (fun hb11 H => ?_)
  ·refine sr fun K12 hK12 => ag (HL_nil (hK12 _ _ ?_))
   dsimp only [putL, setL, evL, getL]
   refine HT_ret ?_
   exact hQr _ _ [.bool false] _ ⟨rfl, trivial⟩ H ⟨rfl, hH.sel [] (by decide)⟩
  ·refine HT_skip (hK8 _ _ (sr fun K13 hK13 => (ag (HL_nil (hK13 _ _ ?_)))))
   dsimp only [putL, setL, evL, getL]
   refine HT_ret ?_
   exact hQr _ _ [.bool true] _ ⟨rfl, trivial⟩ H ⟨rfl, hH.sel [] (by decide)⟩
def laws_eqReS.l1 (p0 : List ((Int) × (List (Int)))) (p1 : List ((Int) × (List (Int)))) : Nat → Int → Option (Lo Unit Bool)
 | 0, _ => none
 | kf + 1, x60 => if (decide (x60 < (p0.length : Int))) = true then ((rd? p0 x60).bind fun u80 => (rd? p1 x60).bind fun u82 => (laws_eqRe.f u80.1 u80.2 u82.1 u82.2).bind fun u84 => if (!u84) = true then ((some false).bind fun z => some (Lo.ret z)) else (laws_eqReS.l1 p0 p1 kf (IntKind.i64.wrap (x60 + 1)))) else (some (Lo.go ()))
def laws_eqReS.f (p0 : List ((Int) × (List (Int)))) (p1 : List ((Int) × (List (Int)))) : Option Bool := if ((p0.length : Int) != (p1.length : Int)) = true then (some false) else ((laws_eqReS.l1 p0 p1 ((((p0.length : Int)) - (0)).toNat + 2) 0).bind fun (o : Lo Unit Bool) => match o with | .go () => (some true) | .ret z => some z)
def laws_eqReS.post (sb s : St) (F0 : Fp) (r : Bool) : Value → St → Prop := fun v s' => v = .bool r ∧ Hp sb s F0 s' []
set_option maxRecDepth 100000 in
set_option maxHeartbeats 4000000 in
theorem laws_eqReS.ok (sb s : St) (F0 : Fp) (A0p : Option Addr) (c0p : Nat) (p0 : List ((Int) × (List (Int)))) (A1p : Option Addr) (c1p : Nat) (p1 : List ((Int) × (List (Int)))) (HRp0 : Rd KS139 sb A0p c0p p0) (HRp1 : Rd KS139 sb A1p c1p p1) (hH : Hp sb s F0 s []) (r : Bool) (H : laws_eqReS.f p0 p1 = some r) : GCall Try.prog 44 #[.slice A0p p0.length c0p, .slice A1p p1.length c1p] s (laws_eqReS.post sb s F0 r) := by
 refine GCall_ofr (laws_eqReS.post sb s F0) [.tmp 4] (ud [.slice A0p p0.length c0p, .slice A1p p1.length c1p] 25) Try.func44 rfl rfl rfl fun w Q hQr hQn hQp => ?_
 replace H := topE H
 unfold laws_eqReS.f at H
 dsimp only [ud, un]
 refine sr fun K1 hK1 => ag (HL_nil (hK1 _ _ ?_))
 dsimp only [putL, setL, evL, getL]
 refine HT_seq_k fun K2 hK2 => sr fun K3 hK3 => mv (hc (o_len rfl Try.underlying57 (mv ?_)))
 dsimp only [putL, setL, evL, getL]
 refine hc (o_len rfl Try.underlying57 (bn rfl rfl rfl (HL_nil (hK3 _ _ ?_))))
 dsimp only [putL, setL, evL, getL]
 revert H
 refine ct rfl (fun hb4 H => ?_) (fun hb4 H => ?_)
 ·refine sr fun K5 hK5 => ag (HL_nil (hK5 _ _ ?_))
  dsimp only [putL, setL, evL, getL]
  refine HT_ret ?_
  exact hQr _ _ [.bool false] _ ⟨rfl, trivial⟩ H ⟨rfl, hH⟩
 ·refine HT_skip (hK2 _ _ (HT_seq_k fun K6 hK6 => (sr fun K7 hK7 => (ag (HL_nil (hK7 _ _ ?_))))))
  dsimp only [putL, setL, evL, getL]
  refine joinH H fun G8 hG8 H => ?_
  refine HT_toK (fun l' s' => G8 (.go ()) = some r ∧ skim [] l' = ([], 28) ∧ Hp sb s F0 s' []) ?_ ?_
  ·intro K8 hK8
   refine HT_block ?_
   refine HT_loopK (fun kf l' s' => ∃ (x60 : Int), (laws_eqReS.l1 p0 p1 kf x60).bind G8 = some r ∧ skim [0, 0, 3] l' = ([.slice A0p p0.length c0p, .slice A1p p1.length c1p, .int .i64 x60], 22) ∧ Hp sb s F0 s' []) ((((p0.length : Int)) - (0)).toNat + 2) ⟨0, H, rfl, hH⟩ ?_
   rintro kf l' s74 ⟨x60, H, hl, hH⟩ K74 hK74
   revert l'
   refine skA ?_
   dsimp only [Al, Sk]
   intros
   cases kf with
   | zero => simp [laws_eqReS.l1] at H
   | succ kf =>
    rw [laws_eqReS.l1] at H
    refine HT_seq_k fun K75 hK75 => sr fun K76 hK76 => mv (mv (hc (o_len rfl Try.underlying57 ?_)))
    dsimp only [putL, setL, evL, getL]
    refine bn rfl rfl rfl (HL_nil (hK76 _ _ ?_))
    dsimp only [putL, setL, evL, getL]
    revert H
    refine ct rfl (fun hb77 H => ?_) (fun hb77 H => ?_)
    ·refine HT_skip (hK75 _ _ (HT_seq_k fun K78 hK78 => (HT_block ?_)))
     refine sx hMix fun K79 hK79 => ?_
     refine HX_lim (R := fun _ => True) (k := 0) (fun s' => Gro s74 s') 11 ?_
     have hR := Gro.refl s74
     have hH0 := hH
     refine HK_readP 0 (v := .slice A0p p0.length c0p) rfl (by kernel_rfl) hQp rfl (fun s' K hK => o_move hK) rfl rfl (fun _ => hR) ?_
     refine HK_readP 1 (v := .int .i64 x60) rfl (by kernel_rfl) hQp rfl (fun s' K hK => o_move hK) rfl rfl (fun _ => hR) ?_
     replace H := headE H
     obtain ⟨u80, hu80, H⟩ := H
     obtain ⟨b80, o80, cs80, hr80, hh80, hel80⟩ := Rd.elb HRp0 hu80
     obtain ⟨_, _, rfl, rfl, ⟨A81, c81, rfl, D81⟩⟩ := hr80
     try dsimp only [putL, setL, evL, getL]
     refine HK_readP 2 (v := .pointer (some ⟨b80, o80, none⟩)) rfl (by kernel_rfl) hQp rfl (fun s' K hK => hel80 s' rfl rfl Try.underlying57 tI139 hK) rfl rfl (fun _ => hR) ?_
     refine HK_read 3 (v := .agg #[.int .i64 u80.1, .slice A81 u80.2.length c81]) rfl (by kernel_rfl) hQp rfl (fun s' hR' K hK => o_loads' [.int .i64 u80.1, .slice A81 u80.2.length c81] rfl Try.underlying139 rfl tI139 rfl (fun j v hj => (hh80 (hH0.bs.mono.trans hR'.mono)) j v hj) hK) rfl rfl hR ?_
     refine HK_readP 4 (v := .slice A1p p1.length c1p) rfl (by kernel_rfl) hQp rfl (fun s' K hK => o_move hK) rfl rfl (fun _ => hR) ?_
     try dsimp only [putL, setL, evL, getL]
     refine HK_readP 5 (v := .int .i64 x60) rfl (by kernel_rfl) hQp rfl (fun s' K hK => o_move hK) rfl rfl (fun _ => hR) ?_
     replace H := headE H
     obtain ⟨u82, hu82, H⟩ := H
     obtain ⟨b82, o82, cs82, hr82, hh82, hel82⟩ := Rd.elb HRp1 hu82
     obtain ⟨_, _, rfl, rfl, ⟨A83, c83, rfl, D83⟩⟩ := hr82
     refine HK_readP 6 (v := .pointer (some ⟨b82, o82, none⟩)) rfl (by kernel_rfl) hQp rfl (fun s' K hK => hel82 s' rfl rfl Try.underlying57 tI139 hK) rfl rfl (fun _ => hR) ?_
     refine HK_read 7 (v := .agg #[.int .i64 u82.1, .slice A83 u82.2.length c83]) rfl (by kernel_rfl) hQp rfl (fun s' hR' K hK => o_loads' [.int .i64 u82.1, .slice A83 u82.2.length c83] rfl Try.underlying139 rfl tI139 rfl (fun j v hj => (hh82 (hH0.bs.mono.trans hR'.mono)) j v hj) hK) rfl rfl hR ?_
     try dsimp only [putL, setL, evL, getL]
     refine HK_more [8] (by kernel_rfl) rfl (fun _ => hR) ⟨⟨_, rfl, Or.inl ⟨rfl, ?_⟩⟩, trivial⟩
     replace H := headE H
     obtain ⟨u84, hu84, H⟩ := H
     skip
     refine o_call (args := #[.agg #[.int .i64 u80.1, .slice A81 u80.2.length c81], .agg #[.int .i64 u82.1, .slice A83 u82.2.length c83]]) Try.func138 rfl rfl rfl (laws_eqRe.ok sb s74 no u80.1 A81 c81 u80.2 u82.1 A83 c83 u82.2 D81 D83 (Hp.own hH.bs) _ hu84) ?_
     rintro _ s84 ⟨rfl, hD⟩
     replace hR := hR.trans hD.gro
     replace hH := hH.back0 hD (Up.refl _ _ _)
     clear hD
     refine HK_readP 9 (v := .bool (!u84)) rfl (by kernel_rfl) hQp rfl (fun s' K hK => o_not rfl hK) rfl rfl (fun _ => hR) ?_
     refine HK_done (fun _ => hR) (by kernel_rfl) ?_
     refine hK79 _ _ ?_
     try dsimp only [putL, setL, evL, getL]
     revert H
     refine ct rfl (fun hb85 H => ?_) (fun hb85 H => ?_)
     ·refine sr fun K86 hK86 => ag (HL_nil (hK86 _ _ ?_))
      dsimp only [putL, setL, evL, getL]
      refine HT_ret ?_
      replace H := escH (fun z hz => hG8 _ hz) H
      exact hQr _ _ [.bool false] _ ⟨rfl, trivial⟩ H ⟨rfl, hH⟩
     ·refine HT_skip (hK78 _ _ ?_)
      refine HT_region ?_
      refine mv (bn rfl rfl rfl (ag (HL_nil ?_)))
      exact hK74 _ _ ⟨kf, Nat.lt_succ_self kf, IntKind.i64.wrap (x60 + 1), H, rfl, hH⟩
    ·refine HT_exit ?_
     exact hK8 _ _ ⟨H, rfl, hH⟩
  ·rintro l' s87 ⟨H, hl, hH⟩
   revert l'
   refine skA ?_
   dsimp only [Al, Sk]
   intros
   replace H := hG8 _ H
   try dsimp only at H
   refine hK6 _ _ ?_
   refine sr fun K88 hK88 => ?_
   try dsimp only [putL, setL, evL, getL]
   refine ag (HL_nil (hK88 _ _ ?_))
   dsimp only [putL, setL, evL, getL]
   refine HT_ret ?_
   exact hQr _ _ [.bool true] _ ⟨rfl, trivial⟩ H ⟨rfl, hH⟩
def laws_eqSpan.f (p0_0 : Int) (p0_1 : Int) (p0_2 : Int) (p1_0 : Int) (p1_1 : Int) (p1_2 : Int) : Option Bool := if (p0_0 != p1_0) = true then (some false) else (if (p0_1 != p1_1) = true then (some false) else (if (p0_2 != p1_2) = true then (some false) else (some true)))
def laws_eqSpan.post (sb s : St) (F0 : Fp) (r : Bool) : Value → St → Prop := fun v s' => v = .bool r ∧ Hp sb s F0 s' []
set_option maxRecDepth 100000 in
set_option maxHeartbeats 4000000 in
theorem laws_eqSpan.ok (sb s : St) (F0 : Fp) (p0_0 : Int) (p0_1 : Int) (p0_2 : Int) (p1_0 : Int) (p1_1 : Int) (p1_2 : Int) (hH : Hp sb s F0 s []) (r : Bool) (H : laws_eqSpan.f p0_0 p0_1 p0_2 p1_0 p1_1 p1_2 = some r) : GCall Try.prog 137 #[.agg #[.int .i64 p0_0, .int .i64 p0_1, .int .i64 p0_2], .agg #[.int .i64 p1_0, .int .i64 p1_1, .int .i64 p1_2]] s (laws_eqSpan.post sb s F0 r) := by
 refine GCall_ofr (laws_eqSpan.post sb s F0) [.tmp 4] (ud [.agg #[.int .i64 p0_0, .int .i64 p0_1, .int .i64 p0_2], .agg #[.int .i64 p1_0, .int .i64 p1_1, .int .i64 p1_2]] 18) Try.func137 rfl rfl rfl fun w Q hQr hQn hQp => ?_
 replace H := topE H
 unfold laws_eqSpan.f at H
 dsimp only [ud, un]
 refine sr fun K1 hK1 => hc (o_boxH hH rfl ?_)
 clear hH
 intro b2 s2 hH _
 refine hc (o_boxH hH rfl ?_)
 clear hH
 intro b3 s3 hH _
 refine ag (HL_nil (hK1 _ _ ?_))
 dsimp only [putL, setL, evL, getL]
 refine HT_seq_k fun K4 hK4 => sr fun K5 hK5 => hc (o_faddr' (ft := 3) (off := 0) rfl Try.underlying138 rfl tI3 (by decide) (hc (o_load' rfl Try.underlying3 rfl (hH.hasv 0 rfl rfl) (hc (o_faddr' (ft := 3) (off := 0) rfl Try.underlying138 rfl tI3 (by decide) ?_)))))
 dsimp only [putL, setL, evL, getL]
 refine hc (o_load' rfl Try.underlying3 rfl (hH.hasv 1 rfl rfl) (bn rfl rfl rfl (HL_nil (hK5 _ _ ?_))))
 dsimp only [putL, setL, evL, getL]
 revert H
 refine ct rfl (fun hb6 H => ?_) (fun hb6 H => ?_)
 ·refine sr fun K7 hK7 => ag (HL_nil (hK7 _ _ ?_))
  dsimp only [putL, setL, evL, getL]
  refine HT_ret ?_
  exact hQr _ _ [.bool false] _ ⟨rfl, trivial⟩ H ⟨rfl, hH.sel [] (by decide)⟩
 ·refine HT_skip (hK4 _ _ (HT_seq_k fun K8 hK8 => (sr fun K9 hK9 => (hc (o_faddr' (ft := 3) (off := 1) rfl Try.underlying138 rfl tI3 (by decide) (hc (o_load' rfl Try.underlying3 rfl (hH.hasv 0 rfl rfl) (hc (o_faddr' (ft := 3) (off := 1) rfl Try.underlying138 rfl tI3 (by decide) ?_)))))))))
  dsimp only [putL, setL, evL, getL]
  refine hc (o_load' rfl Try.underlying3 rfl (hH.hasv 1 rfl rfl) (bn rfl rfl rfl (HL_nil (hK9 _ _ ?_))))
  dsimp only [putL, setL, evL, getL]
  revert H
  refine ct rfl (fun hb10 H => ?_) (fun hb10 H => ?_)
  ·refine sr fun K11 hK11 => ag (HL_nil (hK11 _ _ ?_))
   dsimp only [putL, setL, evL, getL]
   refine HT_ret ?_
   exact hQr _ _ [.bool false] _ ⟨rfl, trivial⟩ H ⟨rfl, hH.sel [] (by decide)⟩
  ·refine HT_skip (hK8 _ _ (HT_seq_k fun K12 hK12 => (sr fun K13 hK13 => (hc (o_faddr' (ft := 3) (off := 2) rfl Try.underlying138 rfl tI3 (by decide) (hc (o_load' rfl Try.underlying3 rfl (hH.hasv 0 rfl rfl) (hc (o_faddr' (ft := 3) (off := 2) rfl Try.underlying138 rfl tI3 (by decide) ?_)))))))))
   dsimp only [putL, setL, evL, getL]
   refine hc (o_load' rfl Try.underlying3 rfl (hH.hasv 1 rfl rfl) (bn rfl rfl rfl (HL_nil (hK13 _ _ ?_))))
   dsimp only [putL, setL, evL, getL]
   revert H
   refine ct rfl (fun hb14 H => ?_) (fun hb14 H => ?_)
   ·refine sr fun K15 hK15 => ag (HL_nil (hK15 _ _ ?_))
    dsimp only [putL, setL, evL, getL]
    refine HT_ret ?_
    exact hQr _ _ [.bool false] _ ⟨rfl, trivial⟩ H ⟨rfl, hH.sel [] (by decide)⟩
   ·refine HT_skip (hK12 _ _ (sr fun K16 hK16 => (ag (HL_nil (hK16 _ _ ?_)))))
    dsimp only [putL, setL, evL, getL]
    refine HT_ret ?_
    exact hQr _ _ [.bool true] _ ⟨rfl, trivial⟩ H ⟨rfl, hH.sel [] (by decide)⟩
def laws_eqSpanS.l1 (p0 : List ((Int) × (Int) × (Int))) (p1 : List ((Int) × (Int) × (Int))) : Nat → Int → Option (Lo Unit Bool)
 | 0, _ => none
 | kf + 1, x52 => if (decide (x52 < (p0.length : Int))) = true then ((rd? p0 x52).bind fun u70 => (rd? p1 x52).bind fun u71 => (laws_eqSpan.f u70.1 u70.2.1 u70.2.2 u71.1 u71.2.1 u71.2.2).bind fun u72 => if (!u72) = true then ((some false).bind fun z => some (Lo.ret z)) else (laws_eqSpanS.l1 p0 p1 kf (IntKind.i64.wrap (x52 + 1)))) else (some (Lo.go ()))
def laws_eqSpanS.f (p0 : List ((Int) × (Int) × (Int))) (p1 : List ((Int) × (Int) × (Int))) : Option Bool := if ((p0.length : Int) != (p1.length : Int)) = true then (some false) else ((laws_eqSpanS.l1 p0 p1 ((((p0.length : Int)) - (0)).toNat + 2) 0).bind fun (o : Lo Unit Bool) => match o with | .go () => (some true) | .ret z => some z)
def laws_eqSpanS.post (sb s : St) (F0 : Fp) (r : Bool) : Value → St → Prop := fun v s' => v = .bool r ∧ Hp sb s F0 s' []
set_option maxRecDepth 100000 in
set_option maxHeartbeats 4000000 in
theorem laws_eqSpanS.ok (sb s : St) (F0 : Fp) (A0p : Option Addr) (c0p : Nat) (p0 : List ((Int) × (Int) × (Int))) (A1p : Option Addr) (c1p : Nat) (p1 : List ((Int) × (Int) × (Int))) (HRp0 : Rd KS138 sb A0p c0p p0) (HRp1 : Rd KS138 sb A1p c1p p1) (hH : Hp sb s F0 s []) (r : Bool) (H : laws_eqSpanS.f p0 p1 = some r) : GCall Try.prog 43 #[.slice A0p p0.length c0p, .slice A1p p1.length c1p] s (laws_eqSpanS.post sb s F0 r) := by
 refine GCall_ofr (laws_eqSpanS.post sb s F0) [.tmp 4] (ud [.slice A0p p0.length c0p, .slice A1p p1.length c1p] 25) Try.func43 rfl rfl rfl fun w Q hQr hQn hQp => ?_
 replace H := topE H
 unfold laws_eqSpanS.f at H
 dsimp only [ud, un]
 refine sr fun K1 hK1 => ag (HL_nil (hK1 _ _ ?_))
 dsimp only [putL, setL, evL, getL]
 refine HT_seq_k fun K2 hK2 => sr fun K3 hK3 => mv (hc (o_len rfl Try.underlying54 (mv ?_)))
 dsimp only [putL, setL, evL, getL]
 refine hc (o_len rfl Try.underlying54 (bn rfl rfl rfl (HL_nil (hK3 _ _ ?_))))
 dsimp only [putL, setL, evL, getL]
 revert H
 refine ct rfl (fun hb4 H => ?_) (fun hb4 H => ?_)
 ·refine sr fun K5 hK5 => ag (HL_nil (hK5 _ _ ?_))
  dsimp only [putL, setL, evL, getL]
  refine HT_ret ?_
  exact hQr _ _ [.bool false] _ ⟨rfl, trivial⟩ H ⟨rfl, hH⟩
 ·refine HT_skip (hK2 _ _ (HT_seq_k fun K6 hK6 => (sr fun K7 hK7 => (ag (HL_nil (hK7 _ _ ?_))))))
  dsimp only [putL, setL, evL, getL]
  refine joinH H fun G8 hG8 H => ?_
  refine HT_toK (fun l' s' => G8 (.go ()) = some r ∧ skim [] l' = ([], 28) ∧ Hp sb s F0 s' []) ?_ ?_
  ·intro K8 hK8
   refine HT_block ?_
   refine HT_loopK (fun kf l' s' => ∃ (x52 : Int), (laws_eqSpanS.l1 p0 p1 kf x52).bind G8 = some r ∧ skim [0, 0, 3] l' = ([.slice A0p p0.length c0p, .slice A1p p1.length c1p, .int .i64 x52], 22) ∧ Hp sb s F0 s' []) ((((p0.length : Int)) - (0)).toNat + 2) ⟨0, H, rfl, hH⟩ ?_
   rintro kf l' s64 ⟨x52, H, hl, hH⟩ K64 hK64
   revert l'
   refine skA ?_
   dsimp only [Al, Sk]
   intros
   cases kf with
   | zero => simp [laws_eqSpanS.l1] at H
   | succ kf =>
    rw [laws_eqSpanS.l1] at H
    refine HT_seq_k fun K65 hK65 => sr fun K66 hK66 => mv (mv (hc (o_len rfl Try.underlying54 ?_)))
    dsimp only [putL, setL, evL, getL]
    refine bn rfl rfl rfl (HL_nil (hK66 _ _ ?_))
    dsimp only [putL, setL, evL, getL]
    revert H
    refine ct rfl (fun hb67 H => ?_) (fun hb67 H => ?_)
    ·refine HT_skip (hK65 _ _ (HT_seq_k fun K68 hK68 => (HT_block ?_)))
     refine sx hMix fun K69 hK69 => ?_
     refine HX_lim (R := fun _ => True) (k := 0) (fun s' => Gro s64 s') 11 ?_
     have hR := Gro.refl s64
     have hH0 := hH
     refine HK_readP 0 (v := .slice A0p p0.length c0p) rfl (by kernel_rfl) hQp rfl (fun s' K hK => o_move hK) rfl rfl (fun _ => hR) ?_
     refine HK_readP 1 (v := .int .i64 x52) rfl (by kernel_rfl) hQp rfl (fun s' K hK => o_move hK) rfl rfl (fun _ => hR) ?_
     replace H := headE H
     obtain ⟨u70, hu70, H⟩ := H
     obtain ⟨b70, o70, cs70, hr70, hh70, hel70⟩ := Rd.elb HRp0 hu70
     obtain ⟨_, _, rfl, rfl, ⟨_, _, rfl, rfl, rfl⟩⟩ := hr70
     try dsimp only [putL, setL, evL, getL]
     refine HK_readP 2 (v := .pointer (some ⟨b70, o70, none⟩)) rfl (by kernel_rfl) hQp rfl (fun s' K hK => hel70 s' rfl rfl Try.underlying54 tI138 hK) rfl rfl (fun _ => hR) ?_
     refine HK_read 3 (v := .agg #[.int .i64 u70.1, .int .i64 u70.2.1, .int .i64 u70.2.2]) rfl (by kernel_rfl) hQp rfl (fun s' hR' K hK => o_loads' [.int .i64 u70.1, .int .i64 u70.2.1, .int .i64 u70.2.2] rfl Try.underlying138 rfl tI138 rfl (fun j v hj => (hh70 (hH0.bs.mono.trans hR'.mono)) j v hj) hK) rfl rfl hR ?_
     refine HK_readP 4 (v := .slice A1p p1.length c1p) rfl (by kernel_rfl) hQp rfl (fun s' K hK => o_move hK) rfl rfl (fun _ => hR) ?_
     try dsimp only [putL, setL, evL, getL]
     refine HK_readP 5 (v := .int .i64 x52) rfl (by kernel_rfl) hQp rfl (fun s' K hK => o_move hK) rfl rfl (fun _ => hR) ?_
     replace H := headE H
     obtain ⟨u71, hu71, H⟩ := H
     obtain ⟨b71, o71, cs71, hr71, hh71, hel71⟩ := Rd.elb HRp1 hu71
     obtain ⟨_, _, rfl, rfl, ⟨_, _, rfl, rfl, rfl⟩⟩ := hr71
     refine HK_readP 6 (v := .pointer (some ⟨b71, o71, none⟩)) rfl (by kernel_rfl) hQp rfl (fun s' K hK => hel71 s' rfl rfl Try.underlying54 tI138 hK) rfl rfl (fun _ => hR) ?_
     refine HK_read 7 (v := .agg #[.int .i64 u71.1, .int .i64 u71.2.1, .int .i64 u71.2.2]) rfl (by kernel_rfl) hQp rfl (fun s' hR' K hK => o_loads' [.int .i64 u71.1, .int .i64 u71.2.1, .int .i64 u71.2.2] rfl Try.underlying138 rfl tI138 rfl (fun j v hj => (hh71 (hH0.bs.mono.trans hR'.mono)) j v hj) hK) rfl rfl hR ?_
     try dsimp only [putL, setL, evL, getL]
     refine HK_more [8] (by kernel_rfl) rfl (fun _ => hR) ⟨⟨_, rfl, Or.inl ⟨rfl, ?_⟩⟩, trivial⟩
     replace H := headE H
     obtain ⟨u72, hu72, H⟩ := H
     skip
     refine o_call (args := #[.agg #[.int .i64 u70.1, .int .i64 u70.2.1, .int .i64 u70.2.2], .agg #[.int .i64 u71.1, .int .i64 u71.2.1, .int .i64 u71.2.2]]) Try.func137 rfl rfl rfl (laws_eqSpan.ok sb s64 no u70.1 u70.2.1 u70.2.2 u71.1 u71.2.1 u71.2.2 (Hp.own hH.bs) _ hu72) ?_
     rintro _ s72 ⟨rfl, hD⟩
     replace hR := hR.trans hD.gro
     replace hH := hH.back0 hD (Up.refl _ _ _)
     clear hD
     refine HK_readP 9 (v := .bool (!u72)) rfl (by kernel_rfl) hQp rfl (fun s' K hK => o_not rfl hK) rfl rfl (fun _ => hR) ?_
     refine HK_done (fun _ => hR) (by kernel_rfl) ?_
     refine hK69 _ _ ?_
     try dsimp only [putL, setL, evL, getL]
     revert H
     refine ct rfl (fun hb73 H => ?_) (fun hb73 H => ?_)
     ·refine sr fun K74 hK74 => ag (HL_nil (hK74 _ _ ?_))
      dsimp only [putL, setL, evL, getL]
      refine HT_ret ?_
      replace H := escH (fun z hz => hG8 _ hz) H
      exact hQr _ _ [.bool false] _ ⟨rfl, trivial⟩ H ⟨rfl, hH⟩
     ·refine HT_skip (hK68 _ _ ?_)
      refine HT_region ?_
      refine mv (bn rfl rfl rfl (ag (HL_nil ?_)))
      exact hK64 _ _ ⟨kf, Nat.lt_succ_self kf, IntKind.i64.wrap (x52 + 1), H, rfl, hH⟩
    ·refine HT_exit ?_
     exact hK8 _ _ ⟨H, rfl, hH⟩
  ·rintro l' s75 ⟨H, hl, hH⟩
   revert l'
   refine skA ?_
   dsimp only [Al, Sk]
   intros
   replace H := hG8 _ H
   try dsimp only at H
   refine hK6 _ _ ?_
   refine sr fun K76 hK76 => ?_
   try dsimp only [putL, setL, evL, getL]
   refine ag (HL_nil (hK76 _ _ ?_))
   dsimp only [putL, setL, evL, getL]
   refine HT_ret ?_
   exact hQr _ _ [.bool true] _ ⟨rfl, trivial⟩ H ⟨rfl, hH⟩
def laws_FnExactCheckParse.f (p0 : List ((Int) × (List (Int)))) (p1 : List (Int)) (p2 : List ((Int) × (Int) × (Int))) : Option Bool := if (decide ((p1.length : Int) > 1048576)) = true then (some true) else ((laws_szReS.f p0 1048576).bind fun u8 => if (decide (u8 < 0)) = true then (some true) else ((laws_szSpanS.f p2 u8).bind fun u14 => if (decide (u14 < 0)) = true then (some true) else ((laws_toReS.f p0).bind fun u20 => (laws_toIntS.f p1).bind fun u22 => (laws_toSpanS.f p2).bind fun u24 => (spec_CheckParse.f u20 u22 u24).bind fun u26 => (laws_toReS.f p0).bind fun u28 => (laws_toIntS.f p1).bind fun u31 => (laws_toSpanS.f p2).bind fun u34 => (impl_CheckParse.f u28 u31 u34).bind fun u37 => (if (u37.1 != u26.1) = true then (some true) else (some (u37.2 != u26.2))).bind fun (o : Bool) => match o with | x49 => (if x49 = true then (some false) else ((laws_toReS.f p0).bind fun u56 => (laws_eqReS.f u28 u56).bind fun u58 => if (!u58) = true then (some false) else ((laws_toIntS.f p1).bind fun u63 => (laws_eqIntS.f u31 u63).bind fun u65 => if (!u65) = true then (some false) else ((laws_toSpanS.f p2).bind fun u70 => (laws_eqSpanS.f u34 u70).bind fun u72 => if (!u72) = true then (some false) else (some true))))))))
def laws_FnExactCheckParse.post (sb s : St) (F0 : Fp) (r : Bool) : Value → St → Prop := fun v s' => v = .bool r ∧ Hp sb s F0 s' []
set_option maxRecDepth 100000 in
set_option maxHeartbeats 4000000 in
theorem laws_FnExactCheckParse.ok (sb s : St) (F0 : Fp) (A0p : Option Addr) (c0p : Nat) (p0 : List ((Int) × (List (Int)))) (A1p : Option Addr) (c1p : Nat) (p1 : List (Int)) (A2p : Option Addr) (c2p : Nat) (p2 : List ((Int) × (Int) × (Int))) (HRp0 : Rd KS135 sb A0p c0p p0) (HRp1 : Rd KI sb A1p c1p p1) (HRp2 : Rd KS142 sb A2p c2p p2) (hH : Hp sb s F0 s []) (r : Bool) (H : laws_FnExactCheckParse.f p0 p1 p2 = some r) : GCall Try.prog 8 #[.slice A0p p0.length c0p, .slice A1p p1.length c1p, .slice A2p p2.length c2p] s (laws_FnExactCheckParse.post sb s F0 r) := by
 refine GCall_ofr (laws_FnExactCheckParse.post sb s F0) [.tmp 6] (ud [.slice A0p p0.length c0p, .slice A1p p1.length c1p, .slice A2p p2.length c2p] 71) Try.func8 rfl rfl rfl fun w Q hQr hQn hQp => ?_
 replace H := topE H
 unfold laws_FnExactCheckParse.f at H
 dsimp only [ud, un]
 refine sr fun K1 hK1 => ag (HL_nil (hK1 _ _ ?_))
 dsimp only [putL, setL, evL, getL]
 refine HT_seq_k fun K2 hK2 => sr fun K3 hK3 => mv (hc (o_len rfl Try.underlying24 (bn rfl rfl rfl (HL_nil (hK3 _ _ ?_)))))
 dsimp only [putL, setL, evL, getL]
 revert H
 refine ct rfl (fun hb4 H => ?_) (fun hb4 H => ?_)
 ·refine sr fun K5 hK5 => ag (HL_nil (hK5 _ _ ?_))
  dsimp only [putL, setL, evL, getL]
  refine HT_ret ?_
  exact hQr _ _ [.bool true] _ ⟨rfl, trivial⟩ H ⟨rfl, hH⟩
 ·refine HT_skip (hK2 _ _ (sr fun K6 hK6 => (ag (HL_nil (hK6 _ _ ?_)))))
  dsimp only [putL, setL, evL, getL]
  refine sr fun K7 hK7 => mv (mv ?_)
  replace H := headE H
  obtain ⟨u8, hu8, H⟩ := H
  refine hc (o_call (args := #[.slice A0p p0.length c0p, .int .i64 1048576]) Try.func37 rfl rfl rfl (laws_szReS.ok sb s no A0p c0p p0 1048576 HRp0 (Hp.own hH.bs) _ hu8) ?_)
  rintro _ s8 ⟨rfl, hD⟩
  replace hH := hH.back0 hD (Up.refl _ _ _)
  clear hD
  try dsimp only [putL, setL, evL, getL]
  refine ag (HL_nil (hK7 _ _ ?_))
  dsimp only [putL, setL, evL, getL]
  refine HT_seq_k fun K9 hK9 => sr fun K10 hK10 => mv (bn rfl rfl rfl (HL_nil (hK10 _ _ ?_)))
  dsimp only [putL, setL, evL, getL]
  revert H
  refine ct rfl (fun hb11 H => ?_) (fun hb11 H => ?_)
  ·refine sr fun K12 hK12 => ag (HL_nil (hK12 _ _ ?_))
   dsimp only [putL, setL, evL, getL]
   refine HT_ret ?_
   exact hQr _ _ [.bool true] _ ⟨rfl, trivial⟩ H ⟨rfl, hH⟩
  ·refine HT_skip (hK9 _ _ (sr fun K13 hK13 => (mv (mv ?_))))
   replace H := headE H
   obtain ⟨u14, hu14, H⟩ := H
   refine hc (o_call (args := #[.slice A2p p2.length c2p, .int .i64 u8]) Try.func38 rfl rfl rfl (laws_szSpanS.ok sb s8 no A2p c2p p2 u8 HRp2 (Hp.own hH.bs) _ hu14) ?_)
   rintro _ s14 ⟨rfl, hD⟩
   replace hH := hH.back0 hD (Up.refl _ _ _)
   clear hD
   try dsimp only [putL, setL, evL, getL]
   refine ag (HL_nil (hK13 _ _ ?_))
   dsimp only [putL, setL, evL, getL]
   refine HT_seq_k fun K15 hK15 => sr fun K16 hK16 => mv (bn rfl rfl rfl (HL_nil (hK16 _ _ ?_)))
   dsimp only [putL, setL, evL, getL]
   revert H
   refine ct rfl (fun hb17 H => ?_) (fun hb17 H => ?_)
   ·refine sr fun K18 hK18 => ag (HL_nil (hK18 _ _ ?_))
    dsimp only [putL, setL, evL, getL]
    refine HT_ret ?_
    exact hQr _ _ [.bool true] _ ⟨rfl, trivial⟩ H ⟨rfl, hH⟩
   ·refine HT_skip (hK15 _ _ (sr fun K19 hK19 => (mv ?_)))
    replace H := headE H
    obtain ⟨u20, hu20, H⟩ := H
    refine hc (o_call (args := #[.slice A0p p0.length c0p]) Try.func40 rfl rfl rfl (laws_toReS.ok sb s14 no A0p c0p p0 HRp0 (Hp.own hH.bs) _ hu20) ?_)
    rintro _ s20 ⟨A21, c21, rfl, hD⟩
    replace hH := hH.back0 hD (Up.refl _ _ _)
    clear hD
    refine mv ?_
    replace H := headE H
    obtain ⟨u22, hu22, H⟩ := H
    try dsimp only [putL, setL, evL, getL]
    refine hc (o_call (args := #[.slice A1p p1.length c1p]) Try.func61 rfl rfl rfl (laws_toIntS.ok sb s20 no A1p c1p p1 HRp1 (Hp.own hH.bs) _ hu22) ?_)
    rintro _ s22 ⟨A23, c23, rfl, hD⟩
    replace hH := hH.back0 hD (Up.refl _ _ _)
    clear hD
    refine mv ?_
    replace H := headE H
    obtain ⟨u24, hu24, H⟩ := H
    refine hc (o_call (args := #[.slice A2p p2.length c2p]) Try.func41 rfl rfl rfl (laws_toSpanS.ok sb s22 no A2p c2p p2 HRp2 (Hp.own hH.bs) _ hu24) ?_)
    rintro _ s24 ⟨A25, c25, rfl, hD⟩
    replace hH := hH.back0 hD (Up.refl _ _ _)
    clear hD
    replace H := headE H
    obtain ⟨u26, hu26, H⟩ := H
    try dsimp only [putL, setL, evL, getL]
    refine hc (o_call (args := #[.slice A21 u20.length c21, .slice A23 u22.length c23, .slice A25 u24.length c25]) Try.func64 rfl rfl rfl (spec_CheckParse.ok s24 s24 no A21 c21 u20 A23 c23 u22 A25 c25 u24 (hH.rd 0 rfl) (hH.rd 1 rfl) (hH.rd 2 rfl) (Hp.own (Bs.refl s24)) _ hu26) ?_)
    rintro _ s26 ⟨rfl, hD⟩
    replace hH := hH.back0T hD
    clear hD
    refine mv (hc (o_extract rfl rfl ?_))
    dsimp only [putL, setL, evL, getL]
    refine hc (o_extract rfl rfl (ag (ag (HL_nil (hK19 _ _ ?_)))))
    dsimp only [putL, setL, evL, getL]
    refine sr fun K27 hK27 => mv ?_
    replace H := headE H
    obtain ⟨u28, hu28, H⟩ := H
    refine hc (o_call (args := #[.slice A0p p0.length c0p]) Try.func40 rfl rfl rfl (laws_toReS.ok sb s26 no A0p c0p p0 HRp0 (Hp.own hH.bs) _ hu28) ?_)
    rintro _ s28 ⟨A29, c29, rfl, hD⟩
    replace hH := hH.back0 hD (Up.refl _ _ _)
    clear hD
    refine ag (HL_nil (hK27 _ _ ?_))
    dsimp only [putL, setL, evL, getL]
    refine sr fun K30 hK30 => mv ?_
    replace H := headE H
    obtain ⟨u31, hu31, H⟩ := H
    refine hc (o_call (args := #[.slice A1p p1.length c1p]) Try.func61 rfl rfl rfl (laws_toIntS.ok sb s28 no A1p c1p p1 HRp1 (Hp.own hH.bs) _ hu31) ?_)
    rintro _ s31 ⟨A32, c32, rfl, hD⟩
    replace hH := hH.back0 hD (Up.refl _ _ _)
    clear hD
    refine ag (HL_nil (hK30 _ _ ?_))
    dsimp only [putL, setL, evL, getL]
    refine sr fun K33 hK33 => mv ?_
    replace H := headE H
    obtain ⟨u34, hu34, H⟩ := H
    refine hc (o_call (args := #[.slice A2p p2.length c2p]) Try.func41 rfl rfl rfl (laws_toSpanS.ok sb s31 no A2p c2p p2 HRp2 (Hp.own hH.bs) _ hu34) ?_)
    rintro _ s34 ⟨A35, c35, rfl, hD⟩
    replace hH := hH.back0 hD (Up.refl _ _ _)
    clear hD
    refine ag (HL_nil (hK33 _ _ ?_))
    dsimp only [putL, setL, evL, getL]
    refine sr fun K36 hK36 => mv (mv (mv ?_))
    replace H := headE H
    obtain ⟨u37, hu37, H⟩ := H
    try dsimp only [putL, setL, evL, getL]
    refine hc (o_call (args := #[.slice A29 u28.length c29, .slice A32 u31.length c32, .slice A35 u34.length c35]) Try.func65 rfl rfl rfl (impl_CheckParse.ok s34 s34 no A29 c29 u28 A32 c32 u31 A35 c35 u34 (hH.rd 3 rfl) (hH.rd 4 rfl) (hH.rd 5 rfl) (Hp.own (Bs.refl s34)) _ hu37) ?_)
    rintro _ s37 ⟨rfl, hD⟩
    replace hH := hH.back0T hD
    clear hD
    refine mv (hc (o_extract rfl rfl ?_))
    dsimp only [putL, setL, evL, getL]
    refine hc (o_extract rfl rfl (ag (ag (HL_nil (hK36 _ _ ?_)))))
    dsimp only [putL, setL, evL, getL]
    refine HT_seq_k fun K46 hK46 => ?_
    refine joinH H fun G47 hG47 H => ?_
    refine HT_joinK (fun l' s' => ∃ (x49 : Bool), G47 x49 = some r ∧ skim [0, 0, 0, 7, 0, 0, 45] l' = ([.slice A0p p0.length c0p, .slice A1p p1.length c1p, .slice A2p p2.length c2p, .slice A29 u28.length c29, .slice A32 u31.length c32, .slice A35 u34.length c35, .bool x49], 16) ∧ Hp sb s F0 s' [Ck.ol OS139 139 A29 c29 u28, Ck.ol OI 3 A32 c32 u31, Ck.ol OS138 138 A35 c35 u34]) ?_ ?_
    ·intro K47 hK47
     refine HT_region ?_
     refine mv (mv (hc (o_neb rfl rfl Try.underlying4 ?_)))
     dsimp only [putL, setL, evL, getL]
     refine mv ?_
     revert H
     refine it (fun hb50 H => ?_) (fun hb50 H => ?_)
     ·refine wf rfl rfl rfl rfl hb50 (wf rfl rfl rfl rfl hb50 ?_)
      dsimp only [putL, setL, evL, getL]
      refine wf rfl rfl rfl rfl hb50 (hc (o_pickT rfl hb50 (HL_nil ?_)))
      exact hK47 _ _ ⟨true, H, rfl, hH.sel [3, 4, 5] (by decide)⟩
     ·refine wt rfl rfl rfl rfl hb50 (o_move ?_)
      dsimp only [putL, setL, evL, getL]
      refine wt rfl rfl rfl rfl hb50 (o_move (wt rfl rfl rfl rfl hb50 (o_neb rfl rfl Try.underlying4 (hc (o_pickF rfl hb50 (HL_nil ?_))))))
      exact hK47 _ _ ⟨u37.2 != u26.2, H, rfl, hH.sel [3, 4, 5] (by decide)⟩
    ·rintro l' s51 ⟨x49, H, hl, hH⟩
     revert l'
     refine skA ?_
     dsimp only [Al, Sk]
     intros
     replace H := hG47 _ H
     try dsimp only at H
     revert H
     refine ct rfl (fun hb52 H => ?_) (fun hb52 H => ?_)
     ·refine sr fun K53 hK53 => ?_
      try dsimp only [putL, setL, evL, getL]
      refine ag (HL_nil (hK53 _ _ ?_))
      dsimp only [putL, setL, evL, getL]
      refine HT_ret ?_
      exact hQr _ _ [.bool false] _ ⟨rfl, trivial⟩ H ⟨rfl, hH.sel [] (by decide)⟩
     ·refine HT_skip (hK46 _ _ (HT_seq_k fun K54 hK54 => (sr fun K55 hK55 => (mv (mv ?_)))))
      replace H := headE H
      obtain ⟨u56, hu56, H⟩ := H
      refine hc (o_call (args := #[.slice A0p p0.length c0p]) Try.func40 rfl rfl rfl (laws_toReS.ok sb s51 no A0p c0p p0 HRp0 (Hp.own hH.bs) _ hu56) ?_)
      rintro _ s56 ⟨A57, c57, rfl, hD⟩
      replace hH := hH.back0 hD (Up.refl _ _ _)
      clear hD
      replace H := headE H
      obtain ⟨u58, hu58, H⟩ := H
      try dsimp only [putL, setL, evL, getL]
      refine hc (o_call (args := #[.slice A29 u28.length c29, .slice A57 u56.length c57]) Try.func44 rfl rfl rfl (laws_eqReS.ok s56 s56 no A29 c29 u28 A57 c57 u56 (hH.rd 0 rfl) (hH.rd 3 rfl) (Hp.own (Bs.refl s56)) _ hu58) ?_)
      rintro _ s58 ⟨rfl, hD⟩
      replace hH := hH.back0T hD
      clear hD
      refine hc (o_not rfl (HL_nil (hK55 _ _ ?_)))
      dsimp only [putL, setL, evL, getL]
      revert H
      refine ct rfl (fun hb59 H => ?_) (fun hb59 H => ?_)
      ·refine sr fun K60 hK60 => ag (HL_nil (hK60 _ _ ?_))
       dsimp only [putL, setL, evL, getL]
       refine HT_ret ?_
       exact hQr _ _ [.bool false] _ ⟨rfl, trivial⟩ H ⟨rfl, hH.sel [] (by decide)⟩
      ·refine HT_skip (hK54 _ _ (HT_seq_k fun K61 hK61 => (sr fun K62 hK62 => (mv (mv ?_)))))
       replace H := headE H
       obtain ⟨u63, hu63, H⟩ := H
       refine hc (o_call (args := #[.slice A1p p1.length c1p]) Try.func61 rfl rfl rfl (laws_toIntS.ok sb s58 no A1p c1p p1 HRp1 (Hp.own hH.bs) _ hu63) ?_)
       rintro _ s63 ⟨A64, c64, rfl, hD⟩
       replace hH := hH.back0 hD (Up.refl _ _ _)
       clear hD
       replace H := headE H
       obtain ⟨u65, hu65, H⟩ := H
       try dsimp only [putL, setL, evL, getL]
       refine hc (o_call (args := #[.slice A32 u31.length c32, .slice A64 u63.length c64]) Try.func63 rfl rfl rfl (laws_eqIntS.ok s63 s63 no A32 c32 u31 A64 c64 u63 (hH.rd 1 rfl) (hH.rd 4 rfl) (Hp.own (Bs.refl s63)) _ hu65) ?_)
       rintro _ s65 ⟨rfl, hD⟩
       replace hH := hH.back0T hD
       clear hD
       refine hc (o_not rfl (HL_nil (hK62 _ _ ?_)))
       dsimp only [putL, setL, evL, getL]
       revert H
       refine ct rfl (fun hb66 H => ?_) (fun hb66 H => ?_)
       ·refine sr fun K67 hK67 => ag (HL_nil (hK67 _ _ ?_))
        dsimp only [putL, setL, evL, getL]
        refine HT_ret ?_
        exact hQr _ _ [.bool false] _ ⟨rfl, trivial⟩ H ⟨rfl, hH.sel [] (by decide)⟩
       ·refine HT_skip (hK61 _ _ (HT_seq_k fun K68 hK68 => (sr fun K69 hK69 => (mv (mv ?_)))))
        replace H := headE H
        obtain ⟨u70, hu70, H⟩ := H
        refine hc (o_call (args := #[.slice A2p p2.length c2p]) Try.func41 rfl rfl rfl (laws_toSpanS.ok sb s65 no A2p c2p p2 HRp2 (Hp.own hH.bs) _ hu70) ?_)
        rintro _ s70 ⟨A71, c71, rfl, hD⟩
        replace hH := hH.back0 hD (Up.refl _ _ _)
        clear hD
        replace H := headE H
        obtain ⟨u72, hu72, H⟩ := H
        try dsimp only [putL, setL, evL, getL]
        refine hc (o_call (args := #[.slice A35 u34.length c35, .slice A71 u70.length c71]) Try.func43 rfl rfl rfl (laws_eqSpanS.ok s70 s70 no A35 c35 u34 A71 c71 u70 (hH.rd 2 rfl) (hH.rd 5 rfl) (Hp.own (Bs.refl s70)) _ hu72) ?_)
        rintro _ s72 ⟨rfl, hD⟩
        replace hH := hH.back0T hD
        clear hD
        refine hc (o_not rfl (HL_nil (hK69 _ _ ?_)))
        dsimp only [putL, setL, evL, getL]
        revert H
        refine ct rfl (fun hb73 H => ?_) (fun hb73 H => ?_)
        ·refine sr fun K74 hK74 => ag (HL_nil (hK74 _ _ ?_))
         dsimp only [putL, setL, evL, getL]
         refine HT_ret ?_
         exact hQr _ _ [.bool false] _ ⟨rfl, trivial⟩ H ⟨rfl, hH.sel [] (by decide)⟩
        ·refine HT_skip (hK68 _ _ (sr fun K75 hK75 => (ag (HL_nil (hK75 _ _ ?_)))))
         dsimp only [putL, setL, evL, getL]
         refine HT_ret ?_
         exact hQr _ _ [.bool true] _ ⟨rfl, trivial⟩ H ⟨rfl, hH.sel [] (by decide)⟩
end Go.Proofs.Ytkieinlcpkpcjaa
