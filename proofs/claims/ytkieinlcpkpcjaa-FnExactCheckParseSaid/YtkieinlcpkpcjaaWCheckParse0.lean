/- The functions that the law reaches, as plain functions, each with its contract: printed by a program of the prover's. No conditions: lemmas. -/
import Derived.Test.YtkieinlcpkpcjaaProg
import Derived.Test.YtkieinlcpkpcjaaGP
set_option linter.unusedVariables false
set_option linter.unusedSimpArgs false
namespace Go.Proofs.Ytkieinlcpkpcjaa
open Go Go.Proofs.GL
attribute [local irreducible] HL HT HX HK
abbrev KS135 := (Kd.pair KI (Kd.sl KI))
abbrev OS135 : Ow KS135 := (Ow.pair OI (Ow.sl OI 3))
abbrev OL135 : Ow KS135 := (Ow.pair OI (Ow.lent (Kd.sl KI)))
abbrev KS142 := (Kd.pair KI (Kd.pair KI KI))
abbrev OS142 : Ow KS142 := (Ow.pair OI (Ow.pair OI OI))
abbrev KS139 := (Kd.pair KI (Kd.sl KI))
abbrev OS139 : Ow KS139 := (Ow.pair OI (Ow.sl OI 3))
abbrev OL139 : Ow KS139 := (Ow.pair OI (Ow.lent (Kd.sl KI)))
abbrev KS138 := (Kd.pair KI (Kd.pair KI KI))
abbrev OS138 : Ow KS138 := (Ow.pair OI (Ow.pair OI OI))
abbrev KS219 := (Kd.pair KI KI)
abbrev OS219 : Ow KS219 := (Ow.pair OI OI)
theorem tI3 : TI Try.prog 3 (.int .i64 0) 1 8 := by unfold TI; kernel_rfl
theorem tI24 : TI Try.prog 24 (.slice none 0 0) 1 24 := by unfold TI; kernel_rfl
theorem tI54 : TI Try.prog 54 (.slice none 0 0) 1 24 := by unfold TI; kernel_rfl
theorem tI57 : TI Try.prog 57 (.slice none 0 0) 1 24 := by unfold TI; kernel_rfl
theorem tI105 : TI Try.prog 105 (.slice none 0 0) 1 24 := by unfold TI; kernel_rfl
theorem tI135 : TI Try.prog 135 (.agg #[.int .i64 0, .slice none 0 0]) 2 32 := by unfold TI; kernel_rfl
theorem tI138 : TI Try.prog 138 (.agg #[.int .i64 0, .int .i64 0, .int .i64 0]) 3 24 := by unfold TI; kernel_rfl
theorem tI139 : TI Try.prog 139 (.agg #[.int .i64 0, .slice none 0 0]) 2 32 := by unfold TI; kernel_rfl
theorem tI142 : TI Try.prog 142 (.agg #[.int .i64 0, .int .i64 0, .int .i64 0]) 3 24 := by unfold TI; kernel_rfl
theorem tI162 : TI Try.prog 162 (.pointer none) 1 8 := by unfold TI; kernel_rfl
theorem tI165 : TI Try.prog 165 (.agg #[.slice none 0 0, .slice none 0 0, .slice none 0 0, .slice none 0 0]) 4 96 := by unfold TI; kernel_rfl
theorem tI167 : TI Try.prog 167 (.agg #[.pointer none, .slice none 0 0]) 2 32 := by unfold TI; kernel_rfl
theorem tI219 : TI Try.prog 219 (.agg #[.int .i64 0, .int .i64 0]) 2 16 := by unfold TI; kernel_rfl
theorem hMix : Try.prog.follows .mixedOrders = true := by kernel_rfl
def laws_szIntS.f (p0 : List (Int)) (p1 : Int) : Option Int := if (decide ((IntKind.i64.wrap (p1 - (p0.length : Int))) < 0)) = true then (some (-1)) else (some (IntKind.i64.wrap (p1 - (p0.length : Int))))
def laws_szIntS.post (sb s : St) (F0 : Fp) (r : Int) : Value → St → Prop := fun v s' => v = .int .i64 r ∧ Hp sb s F0 s' []
set_option maxRecDepth 100000 in
set_option maxHeartbeats 4000000 in
theorem laws_szIntS.ok (sb s : St) (F0 : Fp) (A0p : Option Addr) (c0p : Nat) (p0 : List (Int)) (p1 : Int) (HRp0 : Rd KI sb A0p c0p p0) (hH : Hp sb s F0 s []) (r : Int) (H : laws_szIntS.f p0 p1 = some r) : GCall Try.prog 188 #[.slice A0p p0.length c0p, .int .i64 p1] s (laws_szIntS.post sb s F0 r) := by
 refine GCall_ofr (laws_szIntS.post sb s F0) [.tmp 4] (ud [.slice A0p p0.length c0p, .int .i64 p1] 10) Try.func188 rfl rfl rfl fun w Q hQr hQn hQp => ?_
 replace H := topE H
 unfold laws_szIntS.f at H
 dsimp only [ud, un]
 refine sr fun K1 hK1 => ag (HL_nil (hK1 _ _ ?_))
 dsimp only [putL, setL, evL, getL]
 refine sr fun K2 hK2 => mv (mv (hc (o_len rfl Try.underlying24 ?_)))
 dsimp only [putL, setL, evL, getL]
 refine bn rfl rfl rfl (ag (HL_nil (hK2 _ _ ?_)))
 dsimp only [putL, setL, evL, getL]
 refine HT_seq_k fun K3 hK3 => sr fun K4 hK4 => mv (bn rfl rfl rfl (HL_nil (hK4 _ _ ?_)))
 dsimp only [putL, setL, evL, getL]
 revert H
 refine ct rfl (fun hb5 H => ?_) (fun hb5 H => ?_)
 ·refine sr fun K6 hK6 => ag (HL_nil (hK6 _ _ ?_))
  dsimp only [putL, setL, evL, getL]
  refine HT_ret ?_
  exact hQr _ _ [.int .i64 (-1)] _ ⟨rfl, trivial⟩ H ⟨rfl, hH⟩
 ·refine HT_skip (hK3 _ _ (sr fun K7 hK7 => (mv (ag (HL_nil (hK7 _ _ ?_))))))
  dsimp only [putL, setL, evL, getL]
  refine HT_ret ?_
  exact hQr _ _ [.int .i64 (IntKind.i64.wrap (p1 - (p0.length : Int)))] _ ⟨rfl, trivial⟩ H ⟨rfl, hH⟩
def laws_szRe.f (p0_0 : Int) (p0_1 : List (Int)) (p1 : Int) : Option Int := (laws_szIntS.f p0_1 p1).bind fun u4 => if (decide (u4 < 0)) = true then (some (-1)) else (some u4)
def laws_szRe.post (sb s : St) (F0 : Fp) (r : Int) : Value → St → Prop := fun v s' => v = .int .i64 r ∧ Hp sb s F0 s' []
set_option maxRecDepth 100000 in
set_option maxHeartbeats 4000000 in
theorem laws_szRe.ok (sb s : St) (F0 : Fp) (p0_0 : Int) (A0_1p : Option Addr) (c0_1p : Nat) (p0_1 : List (Int)) (p1 : Int) (HRp0_1 : Rd KI sb A0_1p c0_1p p0_1) (hH : Hp sb s F0 s []) (r : Int) (H : laws_szRe.f p0_0 p0_1 p1 = some r) : GCall Try.prog 127 #[.agg #[.int .i64 p0_0, .slice A0_1p p0_1.length c0_1p], .int .i64 p1] s (laws_szRe.post sb s F0 r) := by
 refine GCall_ofr (laws_szRe.post sb s F0) [.tmp 4] (ud [.agg #[.int .i64 p0_0, .slice A0_1p p0_1.length c0_1p], .int .i64 p1] 10) Try.func127 rfl rfl rfl fun w Q hQr hQn hQp => ?_
 replace H := topE H
 unfold laws_szRe.f at H
 dsimp only [ud, un]
 refine sr fun K1 hK1 => hc (o_boxH hH rfl ?_)
 clear hH
 intro b2 s2 hH _
 refine ag (HL_nil (hK1 _ _ ?_))
 dsimp only [putL, setL, evL, getL]
 refine sr fun K3 hK3 => hc (o_faddr' (ft := 24) (off := 1) rfl Try.underlying135 rfl tI24 (by decide) (hc (o_load' rfl Try.underlying24 rfl (hH.hasv 0 rfl rfl) (mv ?_))))
 replace H := headE H
 obtain ⟨u4, hu4, H⟩ := H
 try dsimp only [putL, setL, evL, getL]
 refine hc (o_call (args := #[.slice A0_1p p0_1.length c0_1p, .int .i64 p1]) Try.func188 rfl rfl rfl (laws_szIntS.ok sb s2 no A0_1p c0_1p p0_1 p1 HRp0_1 (Hp.own hH.bs) _ hu4) ?_)
 rintro _ s4 ⟨rfl, hD⟩
 replace hH := hH.back0 hD (Up.refl _ _ _)
 clear hD
 refine ag (HL_nil (hK3 _ _ ?_))
 dsimp only [putL, setL, evL, getL]
 refine HT_seq_k fun K5 hK5 => sr fun K6 hK6 => mv (bn rfl rfl rfl (HL_nil (hK6 _ _ ?_)))
 dsimp only [putL, setL, evL, getL]
 revert H
 refine ct rfl (fun hb7 H => ?_) (fun hb7 H => ?_)
 ·refine sr fun K8 hK8 => ag (HL_nil (hK8 _ _ ?_))
  dsimp only [putL, setL, evL, getL]
  refine HT_ret ?_
  exact hQr _ _ [.int .i64 (-1)] _ ⟨rfl, trivial⟩ H ⟨rfl, hH.sel [] (by decide)⟩
 ·refine HT_skip (hK5 _ _ (sr fun K9 hK9 => (mv (ag (HL_nil (hK9 _ _ ?_))))))
  dsimp only [putL, setL, evL, getL]
  refine HT_ret ?_
  exact hQr _ _ [.int .i64 u4] _ ⟨rfl, trivial⟩ H ⟨rfl, hH.sel [] (by decide)⟩
def laws_szReS.l1 (p0 : List ((Int) × (List (Int)))) : Nat → Int → Int → Option (Lo Int Int)
 | 0, _, _ => none
 | kf + 1, x60, x61 => if (decide (x61 < (p0.length : Int))) = true then ((rd? p0 x61).bind fun u81 => (laws_szRe.f u81.1 u81.2 x60).bind fun u83 => if (decide (u83 < 0)) = true then ((some (-1)).bind fun z => some (Lo.ret z)) else (laws_szReS.l1 p0 kf u83 (IntKind.i64.wrap (x61 + 1)))) else (some (Lo.go x60))
def laws_szReS.f (p0 : List ((Int) × (List (Int)))) (p1 : Int) : Option Int := if (decide ((IntKind.i64.wrap (p1 - (p0.length : Int))) < 0)) = true then (some (-1)) else ((laws_szReS.l1 p0 ((((p0.length : Int)) - (0)).toNat + 2) (IntKind.i64.wrap (p1 - (p0.length : Int))) 0).bind fun (o : Lo Int Int) => match o with | .go x48 => (some x48) | .ret z => some z)
def laws_szReS.post (sb s : St) (F0 : Fp) (r : Int) : Value → St → Prop := fun v s' => v = .int .i64 r ∧ Hp sb s F0 s' []
set_option maxRecDepth 100000 in
set_option maxHeartbeats 4000000 in
theorem laws_szReS.ok (sb s : St) (F0 : Fp) (A0p : Option Addr) (c0p : Nat) (p0 : List ((Int) × (List (Int)))) (p1 : Int) (HRp0 : Rd KS135 sb A0p c0p p0) (hH : Hp sb s F0 s []) (r : Int) (H : laws_szReS.f p0 p1 = some r) : GCall Try.prog 37 #[.slice A0p p0.length c0p, .int .i64 p1] s (laws_szReS.post sb s F0 r) := by
 refine GCall_ofr (laws_szReS.post sb s F0) [.tmp 4] (ud [.slice A0p p0.length c0p, .int .i64 p1] 25) Try.func37 rfl rfl rfl fun w Q hQr hQn hQp => ?_
 replace H := topE H
 unfold laws_szReS.f at H
 dsimp only [ud, un]
 refine sr fun K1 hK1 => ag (HL_nil (hK1 _ _ ?_))
 dsimp only [putL, setL, evL, getL]
 refine sr fun K2 hK2 => mv (mv (hc (o_len rfl Try.underlying50 ?_)))
 dsimp only [putL, setL, evL, getL]
 refine bn rfl rfl rfl (ag (HL_nil (hK2 _ _ ?_)))
 dsimp only [putL, setL, evL, getL]
 refine HT_seq_k fun K3 hK3 => sr fun K4 hK4 => mv (bn rfl rfl rfl (HL_nil (hK4 _ _ ?_)))
 dsimp only [putL, setL, evL, getL]
 revert H
 refine ct rfl (fun hb5 H => ?_) (fun hb5 H => ?_)
 ·refine sr fun K6 hK6 => ag (HL_nil (hK6 _ _ ?_))
  dsimp only [putL, setL, evL, getL]
  refine HT_ret ?_
  exact hQr _ _ [.int .i64 (-1)] _ ⟨rfl, trivial⟩ H ⟨rfl, hH⟩
 ·refine HT_skip (hK3 _ _ (HT_seq_k fun K7 hK7 => (sr fun K8 hK8 => (ag (HL_nil (hK8 _ _ ?_))))))
  dsimp only [putL, setL, evL, getL]
  refine joinH H fun G9 hG9 H => ?_
  refine HT_toK (fun l' s' => ∃ (x48 : Int), G9 (.go x48) = some r ∧ skim [1] l' = ([.int .i64 x48], 26) ∧ Hp sb s F0 s' []) ?_ ?_
  ·intro K9 hK9
   refine HT_block ?_
   refine HT_loopK (fun kf l' s' => ∃ (x60 : Int) (x61 : Int), (laws_szReS.l1 p0 kf x60 x61).bind G9 = some r ∧ skim [0, 0, 3] l' = ([.slice A0p p0.length c0p, .int .i64 x60, .int .i64 x61], 22) ∧ Hp sb s F0 s' []) ((((p0.length : Int)) - (0)).toNat + 2) ⟨IntKind.i64.wrap (p1 - (p0.length : Int)), 0, H, rfl, hH⟩ ?_
   rintro kf l' s75 ⟨x60, x61, H, hl, hH⟩ K75 hK75
   revert l'
   refine skA ?_
   dsimp only [Al, Sk]
   intros
   cases kf with
   | zero => simp [laws_szReS.l1] at H
   | succ kf =>
    rw [laws_szReS.l1] at H
    refine HT_seq_k fun K76 hK76 => sr fun K77 hK77 => mv (mv (hc (o_len rfl Try.underlying50 ?_)))
    dsimp only [putL, setL, evL, getL]
    refine bn rfl rfl rfl (HL_nil (hK77 _ _ ?_))
    dsimp only [putL, setL, evL, getL]
    revert H
    refine ct rfl (fun hb78 H => ?_) (fun hb78 H => ?_)
    ·refine HT_skip (hK76 _ _ (HT_seq_k fun K79 hK79 => (HT_block (sr fun K80 hK80 => (mv (mv ?_))))))
     replace H := headE H
     obtain ⟨u81, hu81, H⟩ := H
     obtain ⟨b81, o81, cs81, hr81, hh81, hel81⟩ := Rd.elb HRp0 hu81
     obtain ⟨_, _, rfl, rfl, ⟨A82, c82, rfl, D82⟩⟩ := hr81
     refine hc (hel81 s75 rfl rfl Try.underlying50 tI135 ?_)
     dsimp only [putL, setL, evL, getL]
     refine hc (o_loads' [.int .i64 u81.1, .slice A82 u81.2.length c82] rfl Try.underlying135 rfl tI135 rfl (fun j v hj => (hh81 hH.bs.mono) j v hj) (mv ?_))
     replace H := headE H
     obtain ⟨u83, hu83, H⟩ := H
     refine hc (o_call (args := #[.agg #[.int .i64 u81.1, .slice A82 u81.2.length c82], .int .i64 x60]) Try.func127 rfl rfl rfl (laws_szRe.ok sb s75 no u81.1 A82 c82 u81.2 x60 D82 (Hp.own hH.bs) _ hu83) ?_)
     rintro _ s83 ⟨rfl, hD⟩
     replace hH := hH.back0 hD (Up.refl _ _ _)
     clear hD
     try dsimp only [putL, setL, evL, getL]
     refine ag (HL_nil (hK80 _ _ ?_))
     dsimp only [putL, setL, evL, getL]
     refine sr fun K84 hK84 => mv (bn rfl rfl rfl (HL_nil (hK84 _ _ ?_)))
     dsimp only [putL, setL, evL, getL]
     revert H
     refine ct rfl (fun hb85 H => ?_) (fun hb85 H => ?_)
     ·refine sr fun K86 hK86 => ag (HL_nil (hK86 _ _ ?_))
      dsimp only [putL, setL, evL, getL]
      refine HT_ret ?_
      replace H := escH (fun z hz => hG9 _ hz) H
      exact hQr _ _ [.int .i64 (-1)] _ ⟨rfl, trivial⟩ H ⟨rfl, hH⟩
     ·refine HT_skip (hK79 _ _ ?_)
      refine HT_region ?_
      refine mv (bn rfl rfl rfl (ag (HL_nil ?_)))
      exact hK75 _ _ ⟨kf, Nat.lt_succ_self kf, u83, IntKind.i64.wrap (x61 + 1), H, rfl, hH⟩
    ·refine HT_exit ?_
     exact hK9 _ _ ⟨x60, H, rfl, hH⟩
  ·rintro l' s87 ⟨x48, H, hl, hH⟩
   revert l'
   refine skA ?_
   dsimp only [Al, Sk]
   intros
   replace H := hG9 _ H
   try dsimp only at H
   refine hK7 _ _ ?_
   refine sr fun K88 hK88 => ?_
   try dsimp only [putL, setL, evL, getL]
   refine mv (ag (HL_nil (hK88 _ _ ?_)))
   dsimp only [putL, setL, evL, getL]
   refine HT_ret ?_
   exact hQr _ _ [.int .i64 x48] _ ⟨rfl, trivial⟩ H ⟨rfl, hH⟩
def laws_szSpanS.f (p0 : List ((Int) × (Int) × (Int))) (p1 : Int) : Option Int := if (decide ((IntKind.i64.wrap (p1 - (p0.length : Int))) < 0)) = true then (some (-1)) else (some (IntKind.i64.wrap (p1 - (p0.length : Int))))
def laws_szSpanS.post (sb s : St) (F0 : Fp) (r : Int) : Value → St → Prop := fun v s' => v = .int .i64 r ∧ Hp sb s F0 s' []
set_option maxRecDepth 100000 in
set_option maxHeartbeats 4000000 in
theorem laws_szSpanS.ok (sb s : St) (F0 : Fp) (A0p : Option Addr) (c0p : Nat) (p0 : List ((Int) × (Int) × (Int))) (p1 : Int) (HRp0 : Rd KS142 sb A0p c0p p0) (hH : Hp sb s F0 s []) (r : Int) (H : laws_szSpanS.f p0 p1 = some r) : GCall Try.prog 38 #[.slice A0p p0.length c0p, .int .i64 p1] s (laws_szSpanS.post sb s F0 r) := by
 refine GCall_ofr (laws_szSpanS.post sb s F0) [.tmp 4] (ud [.slice A0p p0.length c0p, .int .i64 p1] 10) Try.func38 rfl rfl rfl fun w Q hQr hQn hQp => ?_
 replace H := topE H
 unfold laws_szSpanS.f at H
 dsimp only [ud, un]
 refine sr fun K1 hK1 => ag (HL_nil (hK1 _ _ ?_))
 dsimp only [putL, setL, evL, getL]
 refine sr fun K2 hK2 => mv (mv (hc (o_len rfl Try.underlying51 ?_)))
 dsimp only [putL, setL, evL, getL]
 refine bn rfl rfl rfl (ag (HL_nil (hK2 _ _ ?_)))
 dsimp only [putL, setL, evL, getL]
 refine HT_seq_k fun K3 hK3 => sr fun K4 hK4 => mv (bn rfl rfl rfl (HL_nil (hK4 _ _ ?_)))
 dsimp only [putL, setL, evL, getL]
 revert H
 refine ct rfl (fun hb5 H => ?_) (fun hb5 H => ?_)
 ·refine sr fun K6 hK6 => ag (HL_nil (hK6 _ _ ?_))
  dsimp only [putL, setL, evL, getL]
  refine HT_ret ?_
  exact hQr _ _ [.int .i64 (-1)] _ ⟨rfl, trivial⟩ H ⟨rfl, hH⟩
 ·refine HT_skip (hK3 _ _ (sr fun K7 hK7 => (mv (ag (HL_nil (hK7 _ _ ?_))))))
  dsimp only [putL, setL, evL, getL]
  refine HT_ret ?_
  exact hQr _ _ [.int .i64 (IntKind.i64.wrap (p1 - (p0.length : Int)))] _ ⟨rfl, trivial⟩ H ⟨rfl, hH⟩
def laws_toIntS.l1 (p0 : List (Int)) : Nat → (List (Int)) → Int → Option (List (Int))
 | 0, _, _ => none
 | kf + 1, x41, x42 => if (decide (x42 < (p0.length : Int))) = true then ((rd? p0 x42).bind fun u57 => (rd? x41 x42).bind fun u58 => (st? x41 x42 u57).bind fun x59 => laws_toIntS.l1 p0 kf x59 (IntKind.i64.wrap (x42 + 1))) else (some x41)
def laws_toIntS.f (p0 : List (Int)) : Option (List (Int)) := (mk? 17592186044416 0 (p0.length : Int)).bind fun x3 => (laws_toIntS.l1 p0 ((((p0.length : Int)) - (0)).toNat + 2) x3 0).bind fun (o : (List (Int))) => match o with | x33 => (some x33)
def laws_toIntS.post (sb s : St) (F0 : Fp) (r : (List (Int))) : Value → St → Prop := fun v s' => ∃ (A0 : Option Addr) (c0 : Nat), v = .slice A0 r.length c0 ∧ Hp sb s F0 s' [Ck.ol OI 3 A0 c0 r]
set_option maxRecDepth 100000 in
set_option maxHeartbeats 4000000 in
theorem laws_toIntS.ok (sb s : St) (F0 : Fp) (A0p : Option Addr) (c0p : Nat) (p0 : List (Int)) (HRp0 : Rd KI sb A0p c0p p0) (hH : Hp sb s F0 s []) (r : (List (Int))) (H : laws_toIntS.f p0 = some r) : GCall Try.prog 61 #[.slice A0p p0.length c0p] s (laws_toIntS.post sb s F0 r) := by
 refine GCall_ofr (laws_toIntS.post sb s F0) [.tmp 2] (ud [.slice A0p p0.length c0p] 21) Try.func61 rfl rfl rfl fun w Q hQr hQn hQp => ?_
 replace H := topE H
 unfold laws_toIntS.f at H
 dsimp only [ud, un]
 refine sr fun K1 hK1 => ag (HL_nil (hK1 _ _ ?_))
 dsimp only [putL, setL, evL, getL]
 refine sr fun K2 hK2 => mv (hc (o_len rfl Try.underlying24 ?_))
 replace H := headE H
 obtain ⟨x3, hx3, H⟩ := H
 refine hc (o_makeH (K := KI) (O := OI) (x0 := 0) hH rfl Try.underlying24 tI3 rfl (by decide) (by decide) (by decide) (Own0.fl fun _ => rfl) hx3 ?_)
 clear hH
 intro A3 c3 s3 hH _
 try dsimp only [putL, setL, evL, getL]
 refine ag (HL_nil (hK2 _ _ ?_))
 dsimp only [putL, setL, evL, getL]
 refine HT_seq_k fun K4 hK4 => sr fun K5 hK5 => ag (HL_nil (hK5 _ _ ?_))
 dsimp only [putL, setL, evL, getL]
 refine joinH H fun G6 hG6 H => ?_
 refine HT_toK (fun l' s' => ∃ (x33 : List (Int)), G6 x33 = some r ∧ skim [3] l' = ([.slice A3 x3.length c3], 19) ∧ Hp sb s F0 s' [Ck.ol OI 3 A3 c3 x33] ∧ x33.length = x3.length) ?_ ?_
 ·intro K6 hK6
  refine HT_block ?_
  refine HT_loopK (fun kf l' s' => ∃ (x41 : List (Int)) (x42 : Int), (laws_toIntS.l1 p0 kf x41 x42).bind G6 = some r ∧ skim [0, 2, 0] l' = ([.slice A0p p0.length c0p, .slice A3 x3.length c3, .int .i64 x42], 18) ∧ Hp sb s F0 s' [Ck.ol OI 3 A3 c3 x41] ∧ x41.length = x3.length) ((((p0.length : Int)) - (0)).toNat + 2) ⟨x3, 0, H, rfl, hH, rfl⟩ ?_
  rintro kf l' s52 ⟨x41, x42, H, hl, hH, hl41⟩ K52 hK52
  revert l'
  refine skA ?_
  dsimp only [Al, Sk]
  intros
  cases kf with
  | zero => simp [laws_toIntS.l1] at H
  | succ kf =>
   rw [laws_toIntS.l1] at H
   refine HT_seq_k fun K53 hK53 => sr fun K54 hK54 => mv (mv (hc (o_len rfl Try.underlying24 ?_)))
   dsimp only [putL, setL, evL, getL]
   refine bn rfl rfl rfl (HL_nil (hK54 _ _ ?_))
   dsimp only [putL, setL, evL, getL]
   revert H
   refine ct rfl (fun hb55 H => ?_) (fun hb55 H => ?_)
   ·refine HT_skip (hK53 _ _ (HT_seq_k fun K56 hK56 => (HT_block ?_)))
    refine HT_region ?_
    refine mv (mv (mv ?_))
    dsimp only [putL, setL, evL, getL]
    refine mv ?_
    replace H := headE H
    obtain ⟨u57, hu57, H⟩ := H
    obtain ⟨b57, o57, cs57, hr57, hh57, hel57⟩ := Rd.elb HRp0 hu57
    obtain rfl := hr57
    refine hc (hel57 s52 rfl rfl Try.underlying24 tI3 (hc (o_load' rfl Try.underlying3 rfl ((hh57 hH.bs.mono) 0 _ rfl) ?_)))
    replace H := headE H
    obtain ⟨u58, hu58, H⟩ := H
    obtain ⟨b58, o58, cs58, hA58, hr58, hh58, hel58⟩ := hH.elo 0 rfl hu58
    obtain rfl := hr58
    try dsimp only [putL, setL, evL, getL]
    refine hc (hel58 s52 (sliceLen hl41) rfl Try.underlying24 tI3 ?_)
    replace H := headE H
    obtain ⟨x59, hx59, H⟩ := H
    refine hc (o_setF (vs := [.int .i64 u57]) (u := u57) hH 0 rfl rfl rfl rfl rfl tI3 hA58 hx59 (Ent.own (Ent.flat rfl)) ?_)
    clear hH
    intro s59 hH
    have hl59 := (st?_len hx59).trans hl41
    refine HL_nil (hK56 _ _ ?_)
    try dsimp only [putL, setL, evL, getL]
    refine HT_region ?_
    refine mv (bn rfl rfl rfl (ag (HL_nil ?_)))
    exact hK52 _ _ ⟨kf, Nat.lt_succ_self kf, x59, IntKind.i64.wrap (x42 + 1), H, rfl, hH, hl59⟩
   ·refine HT_exit ?_
    exact hK6 _ _ ⟨x41, H, rfl, hH, hl41⟩
 ·rintro l' s60 ⟨x33, H, hl, hH, hl33⟩
  revert l'
  refine skA ?_
  dsimp only [Al, Sk]
  intros
  replace H := hG6 _ H
  try dsimp only at H
  refine hK4 _ _ ?_
  refine sr fun K61 hK61 => ?_
  try dsimp only [putL, setL, evL, getL]
  refine mv (ag (HL_nil (hK61 _ _ ?_)))
  dsimp only [putL, setL, evL, getL]
  refine HT_ret ?_
  exact hQr _ _ [.slice A3 x3.length c3] _ ⟨rfl, trivial⟩ H ⟨A3, c3, (by first | (rw [hl33]; first | done | rfl) | rfl), hH⟩
def laws_toRe.f (p0_0 : Int) (p0_1 : List (Int)) : Option (Int × (List (Int))) := (laws_toIntS.f p0_1).bind fun u9 => some (p0_0, u9)
def laws_toRe.post (sb s : St) (F0 : Fp) (r : Int × (List (Int))) : Value → St → Prop := fun v s' => ∃ (A1 : Option Addr) (c1 : Nat), v = .agg #[.int .i64 r.1, .slice A1 r.2.length c1] ∧ Hp sb s F0 s' [Ck.ol OI 3 A1 c1 r.2]
set_option maxRecDepth 100000 in
set_option maxHeartbeats 4000000 in
theorem laws_toRe.ok (sb s : St) (F0 : Fp) (p0_0 : Int) (A0_1p : Option Addr) (c0_1p : Nat) (p0_1 : List (Int)) (HRp0_1 : Rd KI sb A0_1p c0_1p p0_1) (hH : Hp sb s F0 s []) (r : Int × (List (Int))) (H : laws_toRe.f p0_0 p0_1 = some r) : GCall Try.prog 129 #[.agg #[.int .i64 p0_0, .slice A0_1p p0_1.length c0_1p]] s (laws_toRe.post sb s F0 r) := by
 refine GCall_ofr (laws_toRe.post sb s F0) [.cell 2 139] (ud [.agg #[.int .i64 p0_0, .slice A0_1p p0_1.length c0_1p]] 11) Try.func129 rfl rfl rfl fun w Q hQr hQn hQp => ?_
 replace H := topE H
 unfold laws_toRe.f at H
 dsimp only [ud, un]
 refine sr fun K1 hK1 => hc (o_boxH hH rfl ?_)
 clear hH
 intro b2 s2 hH _
 refine hc (o_allocH hH tI139 ?_)
 clear hH
 intro b3 s3 hH _
 refine HL_nil (hK1 _ _ ?_)
 try dsimp only [putL, setL, evL, getL]
 refine sr fun K4 hK4 => hc (o_allocH hH tI139 ?_)
 clear hH
 intro b5 s5 hH _
 refine HL_nil (hK4 _ _ ?_)
 try dsimp only [putL, setL, evL, getL]
 refine sr fun K6 hK6 => hc (o_faddr' (ft := 3) (off := 0) rfl Try.underlying135 rfl tI3 (by decide) (hc (o_load' rfl Try.underlying3 rfl (hH.hasv 0 rfl rfl) (hc (o_faddr' (ft := 3) (off := 0) rfl Try.underlying139 rfl tI3 (by decide) ?_)))))
 dsimp only [putL, setL, evL, getL]
 refine hc (o_stvH (vs := [.int .i64 p0_0]) (us' := [.int .i64 p0_0, .slice none 0 0]) hH 2 rfl rfl rfl rfl rfl tI3 rfl (List.cons_ne_nil _ _) rfl rfl rfl ?_)
 clear hH
 intro s7 hH
 refine HL_nil (hK6 _ _ ?_)
 try dsimp only [putL, setL, evL, getL]
 refine sr fun K8 hK8 => hc (o_faddr' (ft := 24) (off := 1) rfl Try.underlying135 rfl tI24 (by decide) (hc (o_load' rfl Try.underlying24 rfl (hH.hasv 0 rfl rfl) ?_)))
 replace H := headE H
 obtain ⟨u9, hu9, H⟩ := H
 refine hc (o_call (args := #[.slice A0_1p p0_1.length c0_1p]) Try.func61 rfl rfl rfl (laws_toIntS.ok sb s7 no A0_1p c0_1p p0_1 HRp0_1 (Hp.own hH.bs) _ hu9) ?_)
 rintro _ s9 ⟨A10, c10, rfl, hD⟩
 replace hH := hH.back0 hD (Up.refl _ _ _)
 clear hD
 try dsimp only [putL, setL, evL, getL]
 refine hc (o_faddr' (ft := 24) (off := 1) rfl Try.underlying139 rfl tI24 (by decide) (hc (o_stvH (vs := [.slice A10 u9.length c10]) (us' := [.int .i64 p0_0, .slice A10 u9.length c10]) hH 2 rfl rfl rfl rfl rfl tI24 rfl (List.cons_ne_nil _ _) rfl rfl rfl ?_)))
 clear hH
 intro s11 hH
 refine HL_nil (hK8 _ _ ?_)
 try dsimp only [putL, setL, evL, getL]
 refine sr fun K12 hK12 => hc (o_loads' [.int .i64 p0_0, .slice A10 u9.length c10] rfl Try.underlying139 rfl tI139 rfl (hH.partv 2 rfl (0) [.int .i64 p0_0, .slice A10 u9.length c10] rfl) (hc (o_stvH (vs := [.int .i64 p0_0, .slice A10 u9.length c10]) (us' := [.int .i64 p0_0, .slice A10 u9.length c10]) hH 1 rfl rfl rfl rfl rfl tI139 rfl (List.cons_ne_nil _ _) rfl rfl rfl ?_)))
 clear hH
 intro s13 hH
 refine HL_nil (hK12 _ _ ?_)
 try dsimp only [putL, setL, evL, getL]
 refine HT_ret ?_
 exact hQr _ _ [.agg #[.int .i64 p0_0, .slice A10 u9.length c10]] _ ⟨ResV.cells rfl Try.underlying139 rfl tI139 (hH.var 1 rfl) rfl, trivial⟩ H ⟨A10, c10, rfl, hH.sel [3] (by decide)⟩
def laws_toReS.l1 (p0 : List ((Int) × (List (Int)))) : Nat → (List ((Int) × (List (Int)))) → Int → Option (List ((Int) × (List (Int))))
 | 0, _, _ => none
 | kf + 1, x57, x58 => if (decide (x58 < (p0.length : Int))) = true then ((rd? p0 x58).bind fun u77 => (laws_toRe.f u77.1 u77.2).bind fun u79 => (rd? x57 x58).bind fun u81 => (st? x57 x58 (u79.1, u79.2)).bind fun x83 => laws_toReS.l1 p0 kf x83 (IntKind.i64.wrap (x58 + 1))) else (some x57)
def laws_toReS.f (p0 : List ((Int) × (List (Int)))) : Option (List ((Int) × (List (Int)))) := (mk? 4398046511104 (0, []) (p0.length : Int)).bind fun x3 => (laws_toReS.l1 p0 ((((p0.length : Int)) - (0)).toNat + 2) x3 0).bind fun (o : (List ((Int) × (List (Int))))) => match o with | x45 => (some x45)
def laws_toReS.post (sb s : St) (F0 : Fp) (r : (List ((Int) × (List (Int))))) : Value → St → Prop := fun v s' => ∃ (A0 : Option Addr) (c0 : Nat), v = .slice A0 r.length c0 ∧ Hp sb s F0 s' [Ck.ol OS139 139 A0 c0 r]
set_option maxRecDepth 100000 in
set_option maxHeartbeats 4000000 in
theorem laws_toReS.ok (sb s : St) (F0 : Fp) (A0p : Option Addr) (c0p : Nat) (p0 : List ((Int) × (List (Int)))) (HRp0 : Rd KS135 sb A0p c0p p0) (hH : Hp sb s F0 s []) (r : (List ((Int) × (List (Int))))) (H : laws_toReS.f p0 = some r) : GCall Try.prog 40 #[.slice A0p p0.length c0p] s (laws_toReS.post sb s F0 r) := by
 refine GCall_ofr (laws_toReS.post sb s F0) [.tmp 2] (ud [.slice A0p p0.length c0p] 22) Try.func40 rfl rfl rfl fun w Q hQr hQn hQp => ?_
 replace H := topE H
 unfold laws_toReS.f at H
 dsimp only [ud, un]
 refine sr fun K1 hK1 => ag (HL_nil (hK1 _ _ ?_))
 dsimp only [putL, setL, evL, getL]
 refine sr fun K2 hK2 => mv (hc (o_len rfl Try.underlying50 ?_))
 replace H := headE H
 obtain ⟨x3, hx3, H⟩ := H
 refine hc (o_makeH (K := KS139) (O := OS139) (x0 := (0, [])) hH rfl Try.underlying57 tI139 rfl (by decide) (by decide) (by decide) (Own0.pair (v1 := [.int .i64 0]) (v2 := [.slice none 0 0]) (x1 := 0) (x2 := []) (Own0.fl fun _ => rfl) Own0.nil) hx3 ?_)
 clear hH
 intro A3 c3 s3 hH _
 try dsimp only [putL, setL, evL, getL]
 refine ag (HL_nil (hK2 _ _ ?_))
 dsimp only [putL, setL, evL, getL]
 refine HT_seq_k fun K4 hK4 => sr fun K5 hK5 => ag (HL_nil (hK5 _ _ ?_))
 dsimp only [putL, setL, evL, getL]
 refine joinH H fun G6 hG6 H => ?_
 refine HT_toK (fun l' s' => ∃ (x45 : List ((Int) × (List (Int)))), G6 x45 = some r ∧ skim [3] l' = ([.slice A3 x3.length c3], 20) ∧ Hp sb s F0 s' [Ck.ol OS139 139 A3 c3 x45] ∧ x45.length = x3.length) ?_ ?_
 ·intro K6 hK6
  refine HT_block ?_
  refine HT_loopK (fun kf l' s' => ∃ (x57 : List ((Int) × (List (Int)))) (x58 : Int), (laws_toReS.l1 p0 kf x57 x58).bind G6 = some r ∧ skim [0, 2, 0] l' = ([.slice A0p p0.length c0p, .slice A3 x3.length c3, .int .i64 x58], 19) ∧ Hp sb s F0 s' [Ck.ol OS139 139 A3 c3 x57] ∧ x57.length = x3.length) ((((p0.length : Int)) - (0)).toNat + 2) ⟨x3, 0, H, rfl, hH, rfl⟩ ?_
  rintro kf l' s72 ⟨x57, x58, H, hl, hH, hl57⟩ K72 hK72
  revert l'
  refine skA ?_
  dsimp only [Al, Sk]
  intros
  cases kf with
  | zero => simp [laws_toReS.l1] at H
  | succ kf =>
   rw [laws_toReS.l1] at H
   refine HT_seq_k fun K73 hK73 => sr fun K74 hK74 => mv (mv (hc (o_len rfl Try.underlying50 ?_)))
   dsimp only [putL, setL, evL, getL]
   refine bn rfl rfl rfl (HL_nil (hK74 _ _ ?_))
   dsimp only [putL, setL, evL, getL]
   revert H
   refine ct rfl (fun hb75 H => ?_) (fun hb75 H => ?_)
   ·refine HT_skip (hK73 _ _ (HT_seq_k fun K76 hK76 => (HT_block ?_)))
    refine HT_region ?_
    refine mv (mv (mv ?_))
    dsimp only [putL, setL, evL, getL]
    refine mv ?_
    replace H := headE H
    obtain ⟨u77, hu77, H⟩ := H
    obtain ⟨b77, o77, cs77, hr77, hh77, hel77⟩ := Rd.elb HRp0 hu77
    obtain ⟨_, _, rfl, rfl, ⟨A78, c78, rfl, D78⟩⟩ := hr77
    refine hc (hel77 s72 rfl rfl Try.underlying50 tI135 (hc (o_loads' [.int .i64 u77.1, .slice A78 u77.2.length c78] rfl Try.underlying135 rfl tI135 rfl (fun j v hj => (hh77 hH.bs.mono) j v hj) ?_)))
    replace H := headE H
    obtain ⟨u79, hu79, H⟩ := H
    try dsimp only [putL, setL, evL, getL]
    refine hc (o_call (args := #[.agg #[.int .i64 u77.1, .slice A78 u77.2.length c78]]) Try.func129 rfl rfl rfl (laws_toRe.ok sb s72 no u77.1 A78 c78 u77.2 D78 (Hp.own hH.bs) _ hu79) ?_)
    rintro _ s79 ⟨A80, c80, rfl, hD⟩
    replace hH := hH.back0 hD (Up.refl _ _ _)
    clear hD
    replace H := headE H
    obtain ⟨u81, hu81, H⟩ := H
    obtain ⟨b81, o81, cs81, hA81, hr81, hh81, hel81⟩ := hH.elo 0 rfl hu81
    obtain ⟨_, _, rfl, rfl, ⟨A82, c82, rfl, D82⟩⟩ := hr81
    refine hc (hel81 s79 (sliceLen hl57) rfl Try.underlying57 tI139 ?_)
    replace hH := hH.conv [1] (by decide) (d := Ck.el OS139 [.int .i64 u79.1, .slice A80 u79.2.length c80] (u79.1, u79.2)) (Ent.pair (v1 := [.int .i64 u79.1]) (v2 := [.slice A80 u79.2.length c80]) (x1 := u79.1) (x2 := u79.2) (Ent.flat rfl) Ent.sl)
    replace H := headE H
    obtain ⟨x83, hx83, H⟩ := H
    refine hc (o_setD (u := (u79.1, u79.2)) hH 0 2 (by decide) rfl rfl rfl rfl rfl rfl tI139 hA81 hx83 ?_)
    clear hH
    intro s83 hH
    have hl83 := (st?_len hx83).trans hl57
    refine HL_nil (hK76 _ _ ?_)
    try dsimp only [putL, setL, evL, getL]
    refine HT_region ?_
    refine mv (bn rfl rfl rfl (ag (HL_nil ?_)))
    exact hK72 _ _ ⟨kf, Nat.lt_succ_self kf, x83, IntKind.i64.wrap (x58 + 1), H, rfl, hH.sel [0] (by decide), hl83⟩
   ·refine HT_exit ?_
    exact hK6 _ _ ⟨x57, H, rfl, hH, hl57⟩
 ·rintro l' s84 ⟨x45, H, hl, hH, hl45⟩
  revert l'
  refine skA ?_
  dsimp only [Al, Sk]
  intros
  replace H := hG6 _ H
  try dsimp only at H
  refine hK4 _ _ ?_
  refine sr fun K85 hK85 => ?_
  try dsimp only [putL, setL, evL, getL]
  refine mv (ag (HL_nil (hK85 _ _ ?_)))
  dsimp only [putL, setL, evL, getL]
  refine HT_ret ?_
  exact hQr _ _ [.slice A3 x3.length c3] _ ⟨rfl, trivial⟩ H ⟨A3, c3, (by first | (rw [hl45]; first | done | rfl) | rfl), hH⟩
def laws_toSpan.f (p0_0 : Int) (p0_1 : Int) (p0_2 : Int) : Option (Int × Int × Int) := some (p0_0, p0_1, p0_2)
def laws_toSpan.post (sb s : St) (F0 : Fp) (r : Int × Int × Int) : Value → St → Prop := fun v s' => v = .agg #[.int .i64 r.1, .int .i64 r.2.1, .int .i64 r.2.2] ∧ Hp sb s F0 s' []
set_option maxRecDepth 100000 in
set_option maxHeartbeats 4000000 in
theorem laws_toSpan.ok (sb s : St) (F0 : Fp) (p0_0 : Int) (p0_1 : Int) (p0_2 : Int) (hH : Hp sb s F0 s []) (r : Int × Int × Int) (H : laws_toSpan.f p0_0 p0_1 p0_2 = some r) : GCall Try.prog 130 #[.agg #[.int .i64 p0_0, .int .i64 p0_1, .int .i64 p0_2]] s (laws_toSpan.post sb s F0 r) := by
 refine GCall_ofr (laws_toSpan.post sb s F0) [.cell 2 138] (ud [.agg #[.int .i64 p0_0, .int .i64 p0_1, .int .i64 p0_2]] 13) Try.func130 rfl rfl rfl fun w Q hQr hQn hQp => ?_
 replace H := topE H
 unfold laws_toSpan.f at H
 dsimp only [ud, un]
 refine sr fun K1 hK1 => hc (o_boxH hH rfl ?_)
 clear hH
 intro b2 s2 hH _
 refine hc (o_allocH hH tI138 ?_)
 clear hH
 intro b3 s3 hH _
 refine HL_nil (hK1 _ _ ?_)
 try dsimp only [putL, setL, evL, getL]
 refine sr fun K4 hK4 => hc (o_allocH hH tI138 ?_)
 clear hH
 intro b5 s5 hH _
 refine HL_nil (hK4 _ _ ?_)
 try dsimp only [putL, setL, evL, getL]
 refine sr fun K6 hK6 => hc (o_faddr' (ft := 3) (off := 0) rfl Try.underlying142 rfl tI3 (by decide) (hc (o_load' rfl Try.underlying3 rfl (hH.hasv 0 rfl rfl) (hc (o_faddr' (ft := 3) (off := 0) rfl Try.underlying138 rfl tI3 (by decide) ?_)))))
 dsimp only [putL, setL, evL, getL]
 refine hc (o_stvH (vs := [.int .i64 p0_0]) (us' := [.int .i64 p0_0, .int .i64 0, .int .i64 0]) hH 2 rfl rfl rfl rfl rfl tI3 rfl (List.cons_ne_nil _ _) rfl rfl rfl ?_)
 clear hH
 intro s7 hH
 refine HL_nil (hK6 _ _ ?_)
 try dsimp only [putL, setL, evL, getL]
 refine sr fun K8 hK8 => hc (o_faddr' (ft := 3) (off := 1) rfl Try.underlying142 rfl tI3 (by decide) (hc (o_load' rfl Try.underlying3 rfl (hH.hasv 0 rfl rfl) (hc (o_faddr' (ft := 3) (off := 1) rfl Try.underlying138 rfl tI3 (by decide) ?_)))))
 dsimp only [putL, setL, evL, getL]
 refine hc (o_stvH (vs := [.int .i64 p0_1]) (us' := [.int .i64 p0_0, .int .i64 p0_1, .int .i64 0]) hH 2 rfl rfl rfl rfl rfl tI3 rfl (List.cons_ne_nil _ _) rfl rfl rfl ?_)
 clear hH
 intro s9 hH
 refine HL_nil (hK8 _ _ ?_)
 try dsimp only [putL, setL, evL, getL]
 refine sr fun K10 hK10 => hc (o_faddr' (ft := 3) (off := 2) rfl Try.underlying142 rfl tI3 (by decide) (hc (o_load' rfl Try.underlying3 rfl (hH.hasv 0 rfl rfl) (hc (o_faddr' (ft := 3) (off := 2) rfl Try.underlying138 rfl tI3 (by decide) ?_)))))
 dsimp only [putL, setL, evL, getL]
 refine hc (o_stvH (vs := [.int .i64 p0_2]) (us' := [.int .i64 p0_0, .int .i64 p0_1, .int .i64 p0_2]) hH 2 rfl rfl rfl rfl rfl tI3 rfl (List.cons_ne_nil _ _) rfl rfl rfl ?_)
 clear hH
 intro s11 hH
 refine HL_nil (hK10 _ _ ?_)
 try dsimp only [putL, setL, evL, getL]
 refine sr fun K12 hK12 => hc (o_loads' [.int .i64 p0_0, .int .i64 p0_1, .int .i64 p0_2] rfl Try.underlying138 rfl tI138 rfl (hH.partv 2 rfl (0) [.int .i64 p0_0, .int .i64 p0_1, .int .i64 p0_2] rfl) (hc (o_stvH (vs := [.int .i64 p0_0, .int .i64 p0_1, .int .i64 p0_2]) (us' := [.int .i64 p0_0, .int .i64 p0_1, .int .i64 p0_2]) hH 1 rfl rfl rfl rfl rfl tI138 rfl (List.cons_ne_nil _ _) rfl rfl rfl ?_)))
 clear hH
 intro s13 hH
 refine HL_nil (hK12 _ _ ?_)
 try dsimp only [putL, setL, evL, getL]
 refine HT_ret ?_
 exact hQr _ _ [.agg #[.int .i64 p0_0, .int .i64 p0_1, .int .i64 p0_2]] _ ⟨ResV.cells rfl Try.underlying138 rfl tI138 (hH.var 1 rfl) rfl, trivial⟩ H ⟨rfl, hH.sel [] (by decide)⟩
def laws_toSpanS.l1 (p0 : List ((Int) × (Int) × (Int))) : Nat → (List ((Int) × (Int) × (Int))) → Int → Option (List ((Int) × (Int) × (Int)))
 | 0, _, _ => none
 | kf + 1, x45, x46 => if (decide (x46 < (p0.length : Int))) = true then ((rd? p0 x46).bind fun u62 => (laws_toSpan.f u62.1 u62.2.1 u62.2.2).bind fun u63 => (rd? x45 x46).bind fun u64 => (st? x45 x46 (u63.1, u63.2.1, u63.2.2)).bind fun x65 => laws_toSpanS.l1 p0 kf x65 (IntKind.i64.wrap (x46 + 1))) else (some x45)
def laws_toSpanS.f (p0 : List ((Int) × (Int) × (Int))) : Option (List ((Int) × (Int) × (Int))) := (mk? 5864062014805 (0, 0, 0) (p0.length : Int)).bind fun x3 => (laws_toSpanS.l1 p0 ((((p0.length : Int)) - (0)).toNat + 2) x3 0).bind fun (o : (List ((Int) × (Int) × (Int)))) => match o with | x36 => (some x36)
def laws_toSpanS.post (sb s : St) (F0 : Fp) (r : (List ((Int) × (Int) × (Int)))) : Value → St → Prop := fun v s' => ∃ (A0 : Option Addr) (c0 : Nat), v = .slice A0 r.length c0 ∧ Hp sb s F0 s' [Ck.ol OS138 138 A0 c0 r]
set_option maxRecDepth 100000 in
set_option maxHeartbeats 4000000 in
theorem laws_toSpanS.ok (sb s : St) (F0 : Fp) (A0p : Option Addr) (c0p : Nat) (p0 : List ((Int) × (Int) × (Int))) (HRp0 : Rd KS142 sb A0p c0p p0) (hH : Hp sb s F0 s []) (r : (List ((Int) × (Int) × (Int)))) (H : laws_toSpanS.f p0 = some r) : GCall Try.prog 41 #[.slice A0p p0.length c0p] s (laws_toSpanS.post sb s F0 r) := by
 refine GCall_ofr (laws_toSpanS.post sb s F0) [.tmp 2] (ud [.slice A0p p0.length c0p] 22) Try.func41 rfl rfl rfl fun w Q hQr hQn hQp => ?_
 replace H := topE H
 unfold laws_toSpanS.f at H
 dsimp only [ud, un]
 refine sr fun K1 hK1 => ag (HL_nil (hK1 _ _ ?_))
 dsimp only [putL, setL, evL, getL]
 refine sr fun K2 hK2 => mv (hc (o_len rfl Try.underlying51 ?_))
 replace H := headE H
 obtain ⟨x3, hx3, H⟩ := H
 refine hc (o_makeH (K := KS138) (O := OS138) (x0 := (0, 0, 0)) hH rfl Try.underlying54 tI138 rfl (by decide) (by decide) (by decide) (Own0.pair (v1 := [.int .i64 0]) (v2 := [.int .i64 0, .int .i64 0]) (x1 := 0) (x2 := (0, 0)) (Own0.fl fun _ => rfl) (Own0.pair (v1 := [.int .i64 0]) (v2 := [.int .i64 0]) (x1 := 0) (x2 := 0) (Own0.fl fun _ => rfl) (Own0.fl fun _ => rfl))) hx3 ?_)
 clear hH
 intro A3 c3 s3 hH _
 try dsimp only [putL, setL, evL, getL]
 refine ag (HL_nil (hK2 _ _ ?_))
 dsimp only [putL, setL, evL, getL]
 refine HT_seq_k fun K4 hK4 => sr fun K5 hK5 => ag (HL_nil (hK5 _ _ ?_))
 dsimp only [putL, setL, evL, getL]
 refine joinH H fun G6 hG6 H => ?_
 refine HT_toK (fun l' s' => ∃ (x36 : List ((Int) × (Int) × (Int))), G6 x36 = some r ∧ skim [3] l' = ([.slice A3 x3.length c3], 20) ∧ Hp sb s F0 s' [Ck.ol OS138 138 A3 c3 x36] ∧ x36.length = x3.length) ?_ ?_
 ·intro K6 hK6
  refine HT_block ?_
  refine HT_loopK (fun kf l' s' => ∃ (x45 : List ((Int) × (Int) × (Int))) (x46 : Int), (laws_toSpanS.l1 p0 kf x45 x46).bind G6 = some r ∧ skim [0, 2, 0] l' = ([.slice A0p p0.length c0p, .slice A3 x3.length c3, .int .i64 x46], 19) ∧ Hp sb s F0 s' [Ck.ol OS138 138 A3 c3 x45] ∧ x45.length = x3.length) ((((p0.length : Int)) - (0)).toNat + 2) ⟨x3, 0, H, rfl, hH, rfl⟩ ?_
  rintro kf l' s57 ⟨x45, x46, H, hl, hH, hl45⟩ K57 hK57
  revert l'
  refine skA ?_
  dsimp only [Al, Sk]
  intros
  cases kf with
  | zero => simp [laws_toSpanS.l1] at H
  | succ kf =>
   rw [laws_toSpanS.l1] at H
   refine HT_seq_k fun K58 hK58 => sr fun K59 hK59 => mv (mv (hc (o_len rfl Try.underlying51 ?_)))
   dsimp only [putL, setL, evL, getL]
   refine bn rfl rfl rfl (HL_nil (hK59 _ _ ?_))
   dsimp only [putL, setL, evL, getL]
   revert H
   refine ct rfl (fun hb60 H => ?_) (fun hb60 H => ?_)
   ·refine HT_skip (hK58 _ _ (HT_seq_k fun K61 hK61 => (HT_block ?_)))
    refine HT_region ?_
    refine mv (mv (mv ?_))
    dsimp only [putL, setL, evL, getL]
    refine mv ?_
    replace H := headE H
    obtain ⟨u62, hu62, H⟩ := H
    obtain ⟨b62, o62, cs62, hr62, hh62, hel62⟩ := Rd.elb HRp0 hu62
    obtain ⟨_, _, rfl, rfl, ⟨_, _, rfl, rfl, rfl⟩⟩ := hr62
    refine hc (hel62 s57 rfl rfl Try.underlying51 tI142 (hc (o_loads' [.int .i64 u62.1, .int .i64 u62.2.1, .int .i64 u62.2.2] rfl Try.underlying142 rfl tI142 rfl (fun j v hj => (hh62 hH.bs.mono) j v hj) ?_)))
    replace H := headE H
    obtain ⟨u63, hu63, H⟩ := H
    try dsimp only [putL, setL, evL, getL]
    refine hc (o_call (args := #[.agg #[.int .i64 u62.1, .int .i64 u62.2.1, .int .i64 u62.2.2]]) Try.func130 rfl rfl rfl (laws_toSpan.ok sb s57 no u62.1 u62.2.1 u62.2.2 (Hp.own hH.bs) _ hu63) ?_)
    rintro _ s63 ⟨rfl, hD⟩
    replace hH := hH.back0 hD (Up.refl _ _ _)
    clear hD
    replace H := headE H
    obtain ⟨u64, hu64, H⟩ := H
    obtain ⟨b64, o64, cs64, hA64, hr64, hh64, hel64⟩ := hH.elo 0 rfl hu64
    obtain ⟨_, _, rfl, rfl, ⟨_, _, rfl, rfl, rfl⟩⟩ := hr64
    refine hc (hel64 s63 (sliceLen hl45) rfl Try.underlying54 tI138 ?_)
    replace H := headE H
    obtain ⟨x65, hx65, H⟩ := H
    refine hc (o_setF (vs := [.int .i64 u63.1, .int .i64 u63.2.1, .int .i64 u63.2.2]) (u := (u63.1, u63.2.1, u63.2.2)) hH 0 rfl rfl rfl rfl rfl tI138 hA64 hx65 (Ent.own (Ent.pair (v1 := [.int .i64 u63.1]) (v2 := [.int .i64 u63.2.1, .int .i64 u63.2.2]) (x1 := u63.1) (x2 := (u63.2.1, u63.2.2)) (Ent.flat rfl) (Ent.pair (v1 := [.int .i64 u63.2.1]) (v2 := [.int .i64 u63.2.2]) (x1 := u63.2.1) (x2 := u63.2.2) (Ent.flat rfl) (Ent.flat rfl)))) ?_)
    clear hH
    intro s65 hH
    have hl65 := (st?_len hx65).trans hl45
    refine HL_nil (hK61 _ _ ?_)
    try dsimp only [putL, setL, evL, getL]
    refine HT_region ?_
    refine mv (bn rfl rfl rfl (ag (HL_nil ?_)))
    exact hK57 _ _ ⟨kf, Nat.lt_succ_self kf, x65, IntKind.i64.wrap (x46 + 1), H, rfl, hH, hl65⟩
   ·refine HT_exit ?_
    exact hK6 _ _ ⟨x45, H, rfl, hH, hl45⟩
 ·rintro l' s66 ⟨x36, H, hl, hH, hl36⟩
  revert l'
  refine skA ?_
  dsimp only [Al, Sk]
  intros
  replace H := hG6 _ H
  try dsimp only at H
  refine hK4 _ _ ?_
  refine sr fun K67 hK67 => ?_
  try dsimp only [putL, setL, evL, getL]
  refine mv (ag (HL_nil (hK67 _ _ ?_)))
  dsimp only [putL, setL, evL, getL]
  refine HT_ret ?_
  exact hQr _ _ [.slice A3 x3.length c3] _ ⟨rfl, trivial⟩ H ⟨A3, c3, (by first | (rw [hl36]; first | done | rfl) | rfl), hH⟩
def spec_l5Arity.f (p0 : Int) : Option Int := (if (p0 == 1) = true then (some (p0 == 1)) else (some (p0 == 2))).bind fun (o : Bool) => match o with | x40 => (if x40 = true then (some 0) else ((if (p0 == 6) = true then (some (p0 == 6)) else (some (p0 == 7))).bind fun (o : Bool) => match o with | x49 => (if x49 = true then (some 1) else ((if (p0 == 3) = true then (some (p0 == 3)) else (if (p0 == 4) = true then (some (p0 == 4)) else (some (p0 == 5)))).bind fun (o : Bool) => match o with | x60 => (if x60 = true then (some 2) else (some (-1)))))))
def spec_l5Arity.post (sb s : St) (F0 : Fp) (r : Int) : Value → St → Prop := fun v s' => v = .int .i64 r ∧ Hp sb s F0 s' []
set_option maxRecDepth 100000 in
set_option maxHeartbeats 4000000 in
theorem spec_l5Arity.ok (sb s : St) (F0 : Fp) (p0 : Int) (hH : Hp sb s F0 s []) (r : Int) (H : spec_l5Arity.f p0 = some r) : GCall Try.prog 223 #[.int .i64 p0] s (spec_l5Arity.post sb s F0 r) := by
 refine GCall_ofr (spec_l5Arity.post sb s F0) [.tmp 2] (ud [.int .i64 p0] 13) Try.func223 rfl rfl rfl fun w Q hQr hQn hQp => ?_
 replace H := topE H
 unfold spec_l5Arity.f at H
 dsimp only [ud, un]
 refine sr fun K1 hK1 => ag (HL_nil (hK1 _ _ ?_))
 dsimp only [putL, setL, evL, getL]
 refine HT_seq_k fun K35 hK35 => sr fun K36 hK36 => mv (HL_nil (hK36 _ _ ?_))
 dsimp only [putL, setL, evL, getL]
 refine HT_block ?_
 refine joinH H fun G37 hG37 H => ?_
 refine HT_joinK (fun l' s' => ∃ (x40 : Bool), G37 x40 = some r ∧ skim [3, 0] l' = ([.int .i64 p0, .bool x40], 10) ∧ Hp sb s F0 s' []) ?_ ?_
 ·intro K37 hK37
  refine sr fun K41 hK41 => bn rfl rfl rfl (ag (HL_nil (hK41 _ _ ?_)))
  dsimp only [putL, setL, evL, getL]
  revert H
  refine ct rfl (fun hb42 H => ?_) (fun hb42 H => ?_)
  ·refine HT_skip ?_
   exact hK37 _ _ ⟨p0 == 1, H, rfl, hH⟩
  ·refine HT_region ?_
   refine bn rfl rfl rfl (ag (HL_nil ?_))
   exact hK37 _ _ ⟨p0 == 2, H, rfl, hH⟩
 ·rintro l' s43 ⟨x40, H, hl, hH⟩
  revert l'
  refine skA ?_
  dsimp only [Al, Sk]
  intros
  replace H := hG37 _ H
  try dsimp only at H
  revert H
  refine ct rfl (fun hb44 H => ?_) (fun hb44 H => ?_)
  ·refine sr fun K45 hK45 => ag (HL_nil (hK45 _ _ ?_))
   dsimp only [putL, setL, evL, getL]
   refine HT_ret ?_
   exact hQr _ _ [.int .i64 0] _ ⟨rfl, trivial⟩ H ⟨rfl, hH⟩
  ·refine joinH H fun G46 hG46 H => ?_
   refine HT_joinK (fun l' s' => ∃ (x49 : Bool), G46 x49 = some r ∧ skim [3, 3] l' = ([.int .i64 p0, .bool x49], 7) ∧ Hp sb s F0 s' []) ?_ ?_
   ·intro K46 hK46
    refine sr fun K50 hK50 => bn rfl rfl rfl (ag (HL_nil (hK50 _ _ ?_)))
    dsimp only [putL, setL, evL, getL]
    revert H
    refine ct rfl (fun hb51 H => ?_) (fun hb51 H => ?_)
    ·refine HT_skip ?_
     exact hK46 _ _ ⟨p0 == 6, H, rfl, hH⟩
    ·refine HT_region ?_
     refine bn rfl rfl rfl (ag (HL_nil ?_))
     exact hK46 _ _ ⟨p0 == 7, H, rfl, hH⟩
   ·rintro l' s52 ⟨x49, H, hl, hH⟩
    revert l'
    refine skA ?_
    dsimp only [Al, Sk]
    intros
    replace H := hG46 _ H
    try dsimp only at H
    revert H
    refine ct rfl (fun hb53 H => ?_) (fun hb53 H => ?_)
    ·refine sr fun K54 hK54 => ag (HL_nil (hK54 _ _ ?_))
     dsimp only [putL, setL, evL, getL]
     refine HT_ret ?_
     exact hQr _ _ [.int .i64 1] _ ⟨rfl, trivial⟩ H ⟨rfl, hH⟩
    ·refine joinH H fun G55 hG55 H => ?_
     refine HT_joinK (fun l' s' => ∃ (x60 : Bool), G55 x60 = some r ∧ skim [10] l' = ([.bool x60], 4) ∧ Hp sb s F0 s' []) ?_ ?_
     ·intro K55 hK55
      refine sr fun K61 hK61 => bn rfl rfl rfl (ag (HL_nil (hK61 _ _ ?_)))
      dsimp only [putL, setL, evL, getL]
      revert H
      refine ct rfl (fun hb62 H => ?_) (fun hb62 H => ?_)
      ·refine HT_skip ?_
       exact hK55 _ _ ⟨p0 == 3, H, rfl, hH⟩
      ·refine sr fun K63 hK63 => bn rfl rfl rfl (ag (HL_nil (hK63 _ _ ?_)))
       dsimp only [putL, setL, evL, getL]
       revert H
       refine ct rfl (fun hb64 H => ?_) (fun hb64 H => ?_)
       ·refine HT_skip ?_
        exact hK55 _ _ ⟨p0 == 4, H, rfl, hH⟩
       ·refine HT_region ?_
        refine bn rfl rfl rfl (ag (HL_nil ?_))
        exact hK55 _ _ ⟨p0 == 5, H, rfl, hH⟩
     ·rintro l' s65 ⟨x60, H, hl, hH⟩
      revert l'
      refine skA ?_
      dsimp only [Al, Sk]
      intros
      replace H := hG55 _ H
      try dsimp only at H
      revert H
      refine ct rfl (fun hb66 H => ?_) (fun hb66 H => ?_)
      ·refine sr fun K67 hK67 => ag (HL_nil (hK67 _ _ ?_))
       dsimp only [putL, setL, evL, getL]
       refine HT_ret ?_
       exact hQr _ _ [.int .i64 2] _ ⟨rfl, trivial⟩ H ⟨rfl, hH⟩
      ·refine HT_skip (hK35 _ _ (sr fun K68 hK68 => (ag (HL_nil (hK68 _ _ ?_)))))
       dsimp only [putL, setL, evL, getL]
       refine HT_ret ?_
       exact hQr _ _ [.int .i64 (-1)] _ ⟨rfl, trivial⟩ H ⟨rfl, hH⟩
def spec_l1In.f (p0 : Int) (p1 : Int) (p2 : Int) : Option Bool := if (decide (p0 ≥ p1)) = true then (some (decide (p0 ≤ p2))) else (some false)
def spec_l1In.post (sb s : St) (F0 : Fp) (r : Bool) : Value → St → Prop := fun v s' => v = .bool r ∧ Hp sb s F0 s' []
set_option maxRecDepth 100000 in
set_option maxHeartbeats 4000000 in
theorem spec_l1In.ok (sb s : St) (F0 : Fp) (p0 : Int) (p1 : Int) (p2 : Int) (hH : Hp sb s F0 s []) (r : Bool) (H : spec_l1In.f p0 p1 p2 = some r) : GCall Try.prog 108 #[.int .i64 p0, .int .i64 p1, .int .i64 p2] s (spec_l1In.post sb s F0 r) := by
 refine GCall_ofr (spec_l1In.post sb s F0) [.tmp 6] (ud [.int .i64 p0, .int .i64 p1, .int .i64 p2] 12) Try.func108 rfl rfl rfl fun w Q hQr hQn hQp => ?_
 replace H := topE H
 unfold spec_l1In.f at H
 dsimp only [ud, un]
 refine sr fun K1 hK1 => ag (HL_nil (hK1 _ _ ?_))
 dsimp only [putL, setL, evL, getL]
 refine sr fun K2 hK2 => mv (mv (bn rfl rfl rfl ?_))
 dsimp only [putL, setL, evL, getL]
 refine mv ?_
 revert H
 refine it (fun hb3 H => ?_) (fun hb3 H => ?_)
 ·refine wt rfl rfl rfl rfl hb3 (o_move (wt rfl rfl rfl rfl hb3 (o_move ?_)))
  dsimp only [putL, setL, evL, getL]
  refine wt rfl rfl rfl rfl hb3 (o_bin rfl rfl rfl (hc (o_pickT rfl hb3 (ag (HL_nil (hK2 _ _ ?_))))))
  dsimp only [putL, setL, evL, getL]
  refine HT_ret ?_
  exact hQr _ _ [.bool (decide (p0 ≤ p2))] _ ⟨rfl, trivial⟩ H ⟨rfl, hH⟩
 ·refine wf rfl rfl rfl rfl hb3 (wf rfl rfl rfl rfl hb3 (wf rfl rfl rfl rfl hb3 ?_))
  dsimp only [putL, setL, evL, getL]
  refine hc (o_pickF rfl hb3 (ag (HL_nil (hK2 _ _ ?_))))
  dsimp only [putL, setL, evL, getL]
  refine HT_ret ?_
  exact hQr _ _ [.bool false] _ ⟨rfl, trivial⟩ H ⟨rfl, hH⟩
def spec_l1All.l1 (p0 : List (Int)) (p1 : Int) (p2 : Int) : Nat → Int → Option (Lo Unit Bool)
 | 0, _ => none
 | kf + 1, x48 => if (decide (x48 < (p0.length : Int))) = true then ((rd? p0 x48).bind fun u66 => (spec_l1In.f u66 p1 p2).bind fun u68 => if (!u68) = true then ((some false).bind fun z => some (Lo.ret z)) else (spec_l1All.l1 p0 p1 p2 kf (IntKind.i64.wrap (x48 + 1)))) else (some (Lo.go ()))
def spec_l1All.f (p0 : List (Int)) (p1 : Int) (p2 : Int) : Option Bool := (spec_l1All.l1 p0 p1 p2 ((((p0.length : Int)) - (0)).toNat + 2) 0).bind fun (o : Lo Unit Bool) => match o with | .go () => (some true) | .ret z => some z
def spec_l1All.post (sb s : St) (F0 : Fp) (r : Bool) : Value → St → Prop := fun v s' => v = .bool r ∧ Hp sb s F0 s' []
set_option maxRecDepth 100000 in
set_option maxHeartbeats 4000000 in
theorem spec_l1All.ok (sb s : St) (F0 : Fp) (A0p : Option Addr) (c0p : Nat) (p0 : List (Int)) (p1 : Int) (p2 : Int) (HRp0 : Rd KI sb A0p c0p p0) (hH : Hp sb s F0 s []) (r : Bool) (H : spec_l1All.f p0 p1 p2 = some r) : GCall Try.prog 120 #[.slice A0p p0.length c0p, .int .i64 p1, .int .i64 p2] s (spec_l1All.post sb s F0 r) := by
 refine GCall_ofr (spec_l1All.post sb s F0) [.tmp 6] (ud [.slice A0p p0.length c0p, .int .i64 p1, .int .i64 p2] 18) Try.func120 rfl rfl rfl fun w Q hQr hQn hQp => ?_
 replace H := topE H
 unfold spec_l1All.f at H
 dsimp only [ud, un]
 refine sr fun K1 hK1 => ag (HL_nil (hK1 _ _ ?_))
 dsimp only [putL, setL, evL, getL]
 refine HT_seq_k fun K2 hK2 => sr fun K3 hK3 => mv (hc (o_len rfl Try.underlying24 (mv (HL_nil (hK3 _ _ ?_)))))
 dsimp only [putL, setL, evL, getL]
 refine joinH H fun G4 hG4 H => ?_
 refine HT_toK (fun l' s' => G4 (.go ()) = some r ∧ skim [] l' = ([], 22) ∧ Hp sb s F0 s' []) ?_ ?_
 ·intro K4 hK4
  refine HT_block ?_
  refine HT_loopK (fun kf l' s' => ∃ (x48 : Int), (spec_l1All.l1 p0 p1 p2 kf x48).bind G4 = some r ∧ skim [1, 0, 6, 0, 0] l' = ([.int .i64 p1, .int .i64 p2, .slice A0p p0.length c0p, .int .i64 (p0.length : Int), .int .i64 x48], 10) ∧ Hp sb s F0 s' []) ((((p0.length : Int)) - (0)).toNat + 2) ⟨0, H, rfl, hH⟩ ?_
  rintro kf l' s60 ⟨x48, H, hl, hH⟩ K60 hK60
  revert l'
  refine skA ?_
  dsimp only [Al, Sk]
  intros
  cases kf with
  | zero => simp [spec_l1All.l1] at H
  | succ kf =>
   rw [spec_l1All.l1] at H
   refine sr fun K61 hK61 => bn rfl rfl rfl (HL_nil (hK61 _ _ ?_))
   dsimp only [putL, setL, evL, getL]
   refine HT_seq_k fun K62 hK62 => ?_
   revert H
   refine ct rfl (fun hb63 H => ?_) (fun hb63 H => ?_)
   ·refine HT_skip (hK62 _ _ (HT_seq_k fun K64 hK64 => (HT_block (sr fun K65 hK65 => ?_))))
    replace H := headE H
    obtain ⟨u66, hu66, H⟩ := H
    obtain ⟨b66, o66, cs66, hr66, hh66, hel66⟩ := Rd.elb HRp0 hu66
    obtain rfl := hr66
    refine hc (hel66 s60 rfl rfl Try.underlying24 tI3 (hc (o_load' rfl Try.underlying3 rfl ((hh66 hH.bs.mono) 0 _ rfl) (ag (HL_nil (hK65 _ _ ?_))))))
    dsimp only [putL, setL, evL, getL]
    refine sr fun K67 hK67 => mv (mv (mv ?_))
    replace H := headE H
    obtain ⟨u68, hu68, H⟩ := H
    try dsimp only [putL, setL, evL, getL]
    refine hc (o_call (args := #[.int .i64 u66, .int .i64 p1, .int .i64 p2]) Try.func108 rfl rfl rfl (spec_l1In.ok sb s60 no u66 p1 p2 (Hp.own hH.bs) _ hu68) ?_)
    rintro _ s68 ⟨rfl, hD⟩
    replace hH := hH.back0 hD (Up.refl _ _ _)
    clear hD
    refine hc (o_not rfl (HL_nil (hK67 _ _ ?_)))
    dsimp only [putL, setL, evL, getL]
    revert H
    refine ct rfl (fun hb69 H => ?_) (fun hb69 H => ?_)
    ·refine sr fun K70 hK70 => ag (HL_nil (hK70 _ _ ?_))
     dsimp only [putL, setL, evL, getL]
     refine HT_ret ?_
     replace H := escH (fun z hz => hG4 _ hz) H
     exact hQr _ _ [.bool false] _ ⟨rfl, trivial⟩ H ⟨rfl, hH⟩
    ·refine HT_skip (hK64 _ _ ?_)
     refine HT_region ?_
     refine bn rfl rfl rfl (mv (HL_nil ?_))
     exact hK60 _ _ ⟨kf, Nat.lt_succ_self kf, IntKind.i64.wrap (x48 + 1), H, rfl, hH⟩
   ·refine HT_exit ?_
    exact hK4 _ _ ⟨H, rfl, hH⟩
 ·rintro l' s71 ⟨H, hl, hH⟩
  revert l'
  refine skA ?_
  dsimp only [Al, Sk]
  intros
  replace H := hG4 _ H
  try dsimp only at H
  refine hK2 _ _ ?_
  refine sr fun K72 hK72 => ag (HL_nil (hK72 _ _ ?_))
  dsimp only [putL, setL, evL, getL]
  refine HT_ret ?_
  exact hQr _ _ [.bool true] _ ⟨rfl, trivial⟩ H ⟨rfl, hH⟩
def spec_GoodSet.l1 (p0 : List (Int)) : Nat → Int → Option (Lo Unit Bool)
 | 0, _ => none
 | kf + 1, x192 => if (decide (x192 < (p0.length : Int))) = true then (((rd? p0 x192).bind fun u264 => (rd? p0 (IntKind.i64.wrap (x192 + 1))).bind fun u265 => if (decide (u264 > u265)) = true then (some true) else (if (decide (x192 > 0)) = true then ((rd? p0 x192).bind fun u268 => (rd? p0 (IntKind.i64.wrap (x192 - 1))).bind fun u269 => some (decide (u268 < (IntKind.i64.wrap (u269 + 2))))) else (some false))).bind fun (o : Bool) => match o with | x263 => (if x263 = true then ((some false).bind fun z => some (Lo.ret z)) else (spec_GoodSet.l1 p0 kf (IntKind.i64.wrap (x192 + 2))))) else (some (Lo.go ()))
def spec_GoodSet.f (p0 : List (Int)) : Option Bool := ((rem? (p0.length : Int) 2).bind fun u23 => if (u23 == 1) = true then (some true) else (if (decide ((p0.length : Int) > 24)) = true then (some true) else ((spec_l1All.f p0 0 1114111).bind fun u26 => some (!u26)))).bind fun (o : Bool) => match o with | x22 => (if x22 = true then (some false) else ((spec_GoodSet.l1 p0 ((((p0.length : Int)) - (0)).toNat + 2) 0).bind fun (o : Lo Unit Bool) => match o with | .go () => (some true) | .ret z => some z))
def spec_GoodSet.post (sb s : St) (F0 : Fp) (r : Bool) : Value → St → Prop := fun v s' => v = .bool r ∧ Hp sb s F0 s' []
set_option maxRecDepth 100000 in
set_option maxHeartbeats 4000000 in
theorem spec_GoodSet.ok (sb s : St) (F0 : Fp) (A0p : Option Addr) (c0p : Nat) (p0 : List (Int)) (HRp0 : Rd KI sb A0p c0p p0) (hH : Hp sb s F0 s []) (r : Bool) (H : spec_GoodSet.f p0 = some r) : GCall Try.prog 240 #[.slice A0p p0.length c0p] s (spec_GoodSet.post sb s F0 r) := by
 refine GCall_ofr (spec_GoodSet.post sb s F0) [.tmp 2] (ud [.slice A0p p0.length c0p] 50) Try.func240 rfl rfl rfl fun w Q hQr hQn hQp => ?_
 replace H := topE H
 unfold spec_GoodSet.f at H
 dsimp only [ud, un]
 refine sr fun K1 hK1 => ag (HL_nil (hK1 _ _ ?_))
 dsimp only [putL, setL, evL, getL]
 refine HT_seq_k fun K16 hK16 => ?_
 refine joinH H fun G17 hG17 H => ?_
 refine HT_joinK (fun l' s' => ∃ (x22 : Bool), G17 x22 = some r ∧ skim [0, 16] l' = ([.slice A0p p0.length c0p, .bool x22], 34) ∧ Hp sb s F0 s' []) ?_ ?_
 ·intro K17 hK17
  refine HT_region ?_
  refine mv (hc (o_len rfl Try.underlying24 ?_))
  replace H := headE H
  obtain ⟨u23, hu23, H⟩ := H
  refine hc (o_rem' rfl rfl hu23 ?_)
  dsimp only [putL, setL, evL, getL]
  refine bn rfl rfl rfl (mv ?_)
  revert H
  refine it (fun hb24 H => ?_) (fun hb24 H => ?_)
  ·refine wf rfl rfl rfl rfl hb24 ?_
   dsimp only [putL, setL, evL, getL]
   refine wf rfl rfl rfl rfl hb24 (wf rfl rfl rfl rfl hb24 (hc (o_pickT rfl hb24 ?_)))
   dsimp only [putL, setL, evL, getL]
   refine mv (wf rfl rfl rfl rfl rfl (wf rfl rfl rfl rfl rfl ?_))
   dsimp only [putL, setL, evL, getL]
   refine wf rfl rfl rfl rfl rfl (hc (o_pickT rfl rfl (HL_nil ?_)))
   exact hK17 _ _ ⟨true, H, rfl, hH⟩
  ·refine wt rfl rfl rfl rfl hb24 (o_move ?_)
   dsimp only [putL, setL, evL, getL]
   refine wt rfl rfl rfl rfl hb24 (o_len rfl Try.underlying24 (wt rfl rfl rfl rfl hb24 (o_bin rfl rfl rfl (hc (o_pickF rfl hb24 ?_)))))
   dsimp only [putL, setL, evL, getL]
   refine mv ?_
   revert H
   refine it (fun hb25 H => ?_) (fun hb25 H => ?_)
   ·refine wf rfl rfl rfl rfl hb25 (wf rfl rfl rfl rfl hb25 ?_)
    dsimp only [putL, setL, evL, getL]
    refine wf rfl rfl rfl rfl hb25 (hc (o_pickT rfl hb25 (HL_nil ?_)))
    exact hK17 _ _ ⟨true, H, rfl, hH⟩
   ·refine wt rfl rfl rfl rfl hb25 (o_move ?_)
    replace H := headE H
    obtain ⟨u26, hu26, H⟩ := H
    try dsimp only [putL, setL, evL, getL]
    refine wt rfl rfl rfl rfl hb25 (o_call (args := #[.slice A0p p0.length c0p, .int .i64 0, .int .i64 1114111]) Try.func120 rfl rfl rfl (spec_l1All.ok sb s no A0p c0p p0 0 1114111 HRp0 (Hp.own hH.bs) _ hu26) ?_)
    rintro _ s26 ⟨rfl, hD⟩
    replace hH := hH.back0 hD (Up.refl _ _ _)
    clear hD
    refine wt rfl rfl rfl rfl hb25 (o_not rfl (hc (o_pickF rfl hb25 (HL_nil ?_))))
    exact hK17 _ _ ⟨!u26, H, rfl, hH⟩
 ·rintro l' s27 ⟨x22, H, hl, hH⟩
  revert l'
  refine skA ?_
  dsimp only [Al, Sk]
  intros
  replace H := hG17 _ H
  try dsimp only at H
  revert H
  refine ct rfl (fun hb28 H => ?_) (fun hb28 H => ?_)
  ·refine sr fun K29 hK29 => ?_
   try dsimp only [putL, setL, evL, getL]
   refine ag (HL_nil (hK29 _ _ ?_))
   dsimp only [putL, setL, evL, getL]
   refine HT_ret ?_
   exact hQr _ _ [.bool false] _ ⟨rfl, trivial⟩ H ⟨rfl, hH⟩
  ·refine HT_skip (hK16 _ _ (HT_seq_k fun K30 hK30 => (sr fun K31 hK31 => (ag (HL_nil (hK31 _ _ ?_))))))
   dsimp only [putL, setL, evL, getL]
   refine joinH H fun G32 hG32 H => ?_
   refine HT_toK (fun l' s' => G32 (.go ()) = some r ∧ skim [] l' = ([], 52) ∧ Hp sb s F0 s' []) ?_ ?_
   ·intro K32 hK32
    refine HT_block ?_
    refine HT_loopK (fun kf l' s' => ∃ (x192 : Int), (spec_GoodSet.l1 p0 kf x192).bind G32 = some r ∧ skim [0, 2] l' = ([.slice A0p p0.length c0p, .int .i64 x192], 48) ∧ Hp sb s F0 s' []) ((((p0.length : Int)) - (0)).toNat + 2) ⟨0, H, rfl, hH⟩ ?_
    rintro kf l' s233 ⟨x192, H, hl, hH⟩ K233 hK233
    revert l'
    refine skA ?_
    dsimp only [Al, Sk]
    intros
    cases kf with
    | zero => simp [spec_GoodSet.l1] at H
    | succ kf =>
     rw [spec_GoodSet.l1] at H
     refine HT_seq_k fun K234 hK234 => sr fun K235 hK235 => mv (mv (hc (o_len rfl Try.underlying24 ?_)))
     dsimp only [putL, setL, evL, getL]
     refine bn rfl rfl rfl (HL_nil (hK235 _ _ ?_))
     dsimp only [putL, setL, evL, getL]
     revert H
     refine ct rfl (fun hb236 H => ?_) (fun hb236 H => ?_)
     ·refine HT_skip (hK234 _ _ (HT_seq_k fun K255 hK255 => (HT_block ?_)))
      refine joinH H fun G256 hG256 H => ?_
      refine HT_joinK (fun l' s' => ∃ (x263 : Bool), G256 x263 = some r ∧ skim [0, 2, 46] l' = ([.slice A0p p0.length c0p, .int .i64 x192, .bool x263], 1) ∧ Hp sb s F0 s' []) ?_ ?_
      ·intro K256 hK256
       refine HX_draw hMix ?_
       refine HX_lim (R := fun _ => True) (k := 0) (fun s' => Gro s233 s') 28 ?_
       have hR := Gro.refl s233
       have hH0 := hH
       refine HK_readP 0 (v := .slice A0p p0.length c0p) rfl (by kernel_rfl) hQp rfl (fun s' K hK => o_move hK) rfl rfl (fun _ => hR) ?_
       try dsimp only [putL, setL, evL, getL]
       refine HK_readP 1 (v := .int .i64 x192) rfl (by kernel_rfl) hQp rfl (fun s' K hK => o_move hK) rfl rfl (fun _ => hR) ?_
       replace H := headE H
       obtain ⟨u264, hu264, H⟩ := H
       obtain ⟨b264, o264, cs264, hr264, hh264, hel264⟩ := Rd.elb HRp0 hu264
       obtain rfl := hr264
       refine HK_readP 2 (v := .pointer (some ⟨b264, o264, none⟩)) rfl (by kernel_rfl) hQp rfl (fun s' K hK => hel264 s' rfl rfl Try.underlying24 tI3 hK) rfl rfl (fun _ => hR) ?_
       refine HK_read 3 (v := .int .i64 u264) rfl (by kernel_rfl) hQp rfl (fun s' hR' K hK => o_load' rfl Try.underlying3 rfl ((hh264 (hH0.bs.mono.trans hR'.mono)) 0 _ rfl) hK) rfl rfl hR ?_
       try dsimp only [putL, setL, evL, getL]
       refine HK_readP 4 (v := .slice A0p p0.length c0p) rfl (by kernel_rfl) hQp rfl (fun s' K hK => o_move hK) rfl rfl (fun _ => hR) ?_
       refine HK_readP 5 (v := .int .i64 x192) rfl (by kernel_rfl) hQp rfl (fun s' K hK => o_move hK) rfl rfl (fun _ => hR) ?_
       refine HK_readP 6 (v := .int .i64 (IntKind.i64.wrap (x192 + 1))) rfl (by kernel_rfl) hQp rfl (fun s' K hK => o_bin rfl rfl rfl hK) rfl rfl (fun _ => hR) ?_
       replace H := headE H
       obtain ⟨u265, hu265, H⟩ := H
       obtain ⟨b265, o265, cs265, hr265, hh265, hel265⟩ := Rd.elb HRp0 hu265
       obtain rfl := hr265
       try dsimp only [putL, setL, evL, getL]
       refine HK_readP 7 (v := .pointer (some ⟨b265, o265, none⟩)) rfl (by kernel_rfl) hQp rfl (fun s' K hK => hel265 s' rfl rfl Try.underlying24 tI3 hK) rfl rfl (fun _ => hR) ?_
       refine HK_read 8 (v := .int .i64 u265) rfl (by kernel_rfl) hQp rfl (fun s' hR' K hK => o_load' rfl Try.underlying3 rfl ((hh265 (hH0.bs.mono.trans hR'.mono)) 0 _ rfl) hK) rfl rfl hR ?_
       refine HK_readP 9 (v := .bool (decide (u264 > u265))) rfl (by kernel_rfl) hQp rfl (fun s' K hK => o_bin rfl rfl rfl hK) rfl rfl (fun _ => hR) ?_
       try dsimp only [putL, setL, evL, getL]
       refine HK_readP 10 (v := .bool (decide (u264 > u265))) rfl (by kernel_rfl) hQp rfl (fun s' K hK => o_move hK) rfl rfl (fun _ => hR) ?_
       revert H
       refine it (fun hb266 H => ?_) (fun hb266 H => ?_)
       ·refine HK_passP 11 rfl (by kernel_rfl) (fun c l s h => hQp c l s h) ?_ (fun _ => hR) ?_
        ·exact wantF (j := 10) (b := false) (t := 34) (c := decide (u264 > u265)) rfl rfl rfl rfl hb266
        refine HK_passP 12 rfl (by kernel_rfl) (fun c l s h => hQp c l s h) ?_ (fun _ => hR) ?_
        ·exact wantF (j := 10) (b := false) (t := 34) (c := decide (u264 > u265)) rfl rfl rfl rfl hb266
        try dsimp only [putL, setL, evL, getL]
        refine HK_passP 13 rfl (by kernel_rfl) (fun c l s h => hQp c l s h) ?_ (fun _ => hR) ?_
        ·exact wantF (j := 10) (b := false) (t := 34) (c := decide (u264 > u265)) rfl rfl rfl rfl hb266
        refine HK_passP 14 rfl (by kernel_rfl) (fun c l s h => hQp c l s h) ?_ (fun _ => hR) ?_
        ·exact wantU (j := 13) (b := true) (t := 37) rfl rfl rfl rfl
        refine HK_passP 15 rfl (by kernel_rfl) (fun c l s h => hQp c l s h) ?_ (fun _ => hR) ?_
        ·exact wantU (j := 13) (b := true) (t := 37) rfl rfl rfl rfl
        try dsimp only [putL, setL, evL, getL]
        refine HK_passP 16 rfl (by kernel_rfl) (fun c l s h => hQp c l s h) ?_ (fun _ => hR) ?_
        ·exact wantU (j := 13) (b := true) (t := 37) rfl rfl rfl rfl
        refine HK_passP 17 rfl (by kernel_rfl) (fun c l s h => hQp c l s h) ?_ (fun _ => hR) ?_
        ·exact wantU (j := 13) (b := true) (t := 37) rfl rfl rfl rfl
        refine HK_passP 18 rfl (by kernel_rfl) (fun c l s h => hQp c l s h) ?_ (fun _ => hR) ?_
        ·exact wantU (j := 13) (b := true) (t := 37) rfl rfl rfl rfl
        try dsimp only [putL, setL, evL, getL]
        refine HK_passP 19 rfl (by kernel_rfl) (fun c l s h => hQp c l s h) ?_ (fun _ => hR) ?_
        ·exact wantU (j := 13) (b := true) (t := 37) rfl rfl rfl rfl
        refine HK_passP 20 rfl (by kernel_rfl) (fun c l s h => hQp c l s h) ?_ (fun _ => hR) ?_
        ·exact wantU (j := 13) (b := true) (t := 37) rfl rfl rfl rfl
        refine HK_passP 21 rfl (by kernel_rfl) (fun c l s h => hQp c l s h) ?_ (fun _ => hR) ?_
        ·exact wantU (j := 13) (b := true) (t := 37) rfl rfl rfl rfl
        try dsimp only [putL, setL, evL, getL]
        refine HK_passP 22 rfl (by kernel_rfl) (fun c l s h => hQp c l s h) ?_ (fun _ => hR) ?_
        ·exact wantU (j := 13) (b := true) (t := 37) rfl rfl rfl rfl
        refine HK_passP 23 rfl (by kernel_rfl) (fun c l s h => hQp c l s h) ?_ (fun _ => hR) ?_
        ·exact wantU (j := 13) (b := true) (t := 37) rfl rfl rfl rfl
        refine HK_passP 24 rfl (by kernel_rfl) (fun c l s h => hQp c l s h) ?_ (fun _ => hR) ?_
        ·exact wantU (j := 13) (b := true) (t := 37) rfl rfl rfl rfl
        try dsimp only [putL, setL, evL, getL]
        refine HK_passP 25 rfl (by kernel_rfl) (fun c l s h => hQp c l s h) ?_ (fun _ => hR) ?_
        ·exact wantF (j := 10) (b := false) (t := 34) (c := decide (u264 > u265)) rfl rfl rfl rfl hb266
        refine HK_readP 26 (v := .bool true) rfl (by kernel_rfl) hQp rfl (fun s' K hK => o_pickT rfl hb266 hK) rfl rfl (fun _ => hR) ?_
        refine HK_done (fun _ => hR) (by kernel_rfl) ?_
        exact hK256 _ _ ⟨true, H, rfl, hH⟩
       ·refine HK_readP 11 (v := .int .i64 x192) rfl (by kernel_rfl) hQp (wantT (j := 10) (b := false) (t := 34) (c := decide (u264 > u265)) rfl rfl rfl rfl hb266) (fun s' K hK => o_move hK) rfl rfl (fun _ => hR) ?_
        try dsimp only [putL, setL, evL, getL]
        refine HK_readP 12 (v := .bool (decide (x192 > 0))) rfl (by kernel_rfl) hQp (wantT (j := 10) (b := false) (t := 34) (c := decide (u264 > u265)) rfl rfl rfl rfl hb266) (fun s' K hK => o_bin rfl rfl rfl hK) rfl rfl (fun _ => hR) ?_
        refine HK_readP 13 (v := .bool (decide (x192 > 0))) rfl (by kernel_rfl) hQp (wantT (j := 10) (b := false) (t := 34) (c := decide (u264 > u265)) rfl rfl rfl rfl hb266) (fun s' K hK => o_move hK) rfl rfl (fun _ => hR) ?_
        revert H
        refine it (fun hb267 H => ?_) (fun hb267 H => ?_)
        ·refine HK_readP 14 (v := .slice A0p p0.length c0p) rfl (by kernel_rfl) hQp (wantT (j := 13) (b := true) (t := 37) (c := decide (x192 > 0)) rfl rfl rfl rfl hb267) (fun s' K hK => o_move hK) rfl rfl (fun _ => hR) ?_
         try dsimp only [putL, setL, evL, getL]
         refine HK_readP 15 (v := .int .i64 x192) rfl (by kernel_rfl) hQp (wantT (j := 13) (b := true) (t := 37) (c := decide (x192 > 0)) rfl rfl rfl rfl hb267) (fun s' K hK => o_move hK) rfl rfl (fun _ => hR) ?_
         replace H := headE H
         obtain ⟨u268, hu268, H⟩ := H
         obtain ⟨b268, o268, cs268, hr268, hh268, hel268⟩ := Rd.elb HRp0 hu268
         obtain rfl := hr268
         refine HK_readP 16 (v := .pointer (some ⟨b268, o268, none⟩)) rfl (by kernel_rfl) hQp (wantT (j := 13) (b := true) (t := 37) (c := decide (x192 > 0)) rfl rfl rfl rfl hb267) (fun s' K hK => hel268 s' rfl rfl Try.underlying24 tI3 hK) rfl rfl (fun _ => hR) ?_
         refine HK_read 17 (v := .int .i64 u268) rfl (by kernel_rfl) hQp (wantT (j := 13) (b := true) (t := 37) (c := decide (x192 > 0)) rfl rfl rfl rfl hb267) (fun s' hR' K hK => o_load' rfl Try.underlying3 rfl ((hh268 (hH0.bs.mono.trans hR'.mono)) 0 _ rfl) hK) rfl rfl hR ?_
         try dsimp only [putL, setL, evL, getL]
         refine HK_readP 18 (v := .slice A0p p0.length c0p) rfl (by kernel_rfl) hQp (wantT (j := 13) (b := true) (t := 37) (c := decide (x192 > 0)) rfl rfl rfl rfl hb267) (fun s' K hK => o_move hK) rfl rfl (fun _ => hR) ?_
         refine HK_readP 19 (v := .int .i64 x192) rfl (by kernel_rfl) hQp (wantT (j := 13) (b := true) (t := 37) (c := decide (x192 > 0)) rfl rfl rfl rfl hb267) (fun s' K hK => o_move hK) rfl rfl (fun _ => hR) ?_
         refine HK_readP 20 (v := .int .i64 (IntKind.i64.wrap (x192 - 1))) rfl (by kernel_rfl) hQp (wantT (j := 13) (b := true) (t := 37) (c := decide (x192 > 0)) rfl rfl rfl rfl hb267) (fun s' K hK => o_bin rfl rfl rfl hK) rfl rfl (fun _ => hR) ?_
         replace H := headE H
         obtain ⟨u269, hu269, H⟩ := H
         obtain ⟨b269, o269, cs269, hr269, hh269, hel269⟩ := Rd.elb HRp0 hu269
         obtain rfl := hr269
         try dsimp only [putL, setL, evL, getL]
         refine HK_readP 21 (v := .pointer (some ⟨b269, o269, none⟩)) rfl (by kernel_rfl) hQp (wantT (j := 13) (b := true) (t := 37) (c := decide (x192 > 0)) rfl rfl rfl rfl hb267) (fun s' K hK => hel269 s' rfl rfl Try.underlying24 tI3 hK) rfl rfl (fun _ => hR) ?_
         refine HK_read 22 (v := .int .i64 u269) rfl (by kernel_rfl) hQp (wantT (j := 13) (b := true) (t := 37) (c := decide (x192 > 0)) rfl rfl rfl rfl hb267) (fun s' hR' K hK => o_load' rfl Try.underlying3 rfl ((hh269 (hH0.bs.mono.trans hR'.mono)) 0 _ rfl) hK) rfl rfl hR ?_
         refine HK_readP 23 (v := .int .i64 (IntKind.i64.wrap (u269 + 2))) rfl (by kernel_rfl) hQp (wantT (j := 13) (b := true) (t := 37) (c := decide (x192 > 0)) rfl rfl rfl rfl hb267) (fun s' K hK => o_bin rfl rfl rfl hK) rfl rfl (fun _ => hR) ?_
         try dsimp only [putL, setL, evL, getL]
         refine HK_readP 24 (v := .bool (decide (u268 < (IntKind.i64.wrap (u269 + 2))))) rfl (by kernel_rfl) hQp (wantT (j := 13) (b := true) (t := 37) (c := decide (x192 > 0)) rfl rfl rfl rfl hb267) (fun s' K hK => o_bin rfl rfl rfl hK) rfl rfl (fun _ => hR) ?_
         refine HK_readP 25 (v := .bool (decide (u268 < (IntKind.i64.wrap (u269 + 2))))) rfl (by kernel_rfl) hQp (wantT (j := 10) (b := false) (t := 34) (c := decide (u264 > u265)) rfl rfl rfl rfl hb266) (fun s' K hK => o_pickT rfl hb267 hK) rfl rfl (fun _ => hR) ?_
         refine HK_readP 26 (v := .bool (decide (u268 < (IntKind.i64.wrap (u269 + 2))))) rfl (by kernel_rfl) hQp rfl (fun s' K hK => o_pickF rfl hb266 hK) rfl rfl (fun _ => hR) ?_
         try dsimp only [putL, setL, evL, getL]
         refine HK_done (fun _ => hR) (by kernel_rfl) ?_
         exact hK256 _ _ ⟨decide (u268 < (IntKind.i64.wrap (u269 + 2))), H, rfl, hH⟩
        ·refine HK_passP 14 rfl (by kernel_rfl) (fun c l s h => hQp c l s h) ?_ (fun _ => hR) ?_
         ·exact wantF (j := 13) (b := true) (t := 37) (c := decide (x192 > 0)) rfl rfl rfl rfl hb267
         refine HK_passP 15 rfl (by kernel_rfl) (fun c l s h => hQp c l s h) ?_ (fun _ => hR) ?_
         ·exact wantF (j := 13) (b := true) (t := 37) (c := decide (x192 > 0)) rfl rfl rfl rfl hb267
         try dsimp only [putL, setL, evL, getL]
         refine HK_passP 16 rfl (by kernel_rfl) (fun c l s h => hQp c l s h) ?_ (fun _ => hR) ?_
         ·exact wantF (j := 13) (b := true) (t := 37) (c := decide (x192 > 0)) rfl rfl rfl rfl hb267
         refine HK_passP 17 rfl (by kernel_rfl) (fun c l s h => hQp c l s h) ?_ (fun _ => hR) ?_
         ·exact wantF (j := 13) (b := true) (t := 37) (c := decide (x192 > 0)) rfl rfl rfl rfl hb267
         refine HK_passP 18 rfl (by kernel_rfl) (fun c l s h => hQp c l s h) ?_ (fun _ => hR) ?_
         ·exact wantF (j := 13) (b := true) (t := 37) (c := decide (x192 > 0)) rfl rfl rfl rfl hb267
         try dsimp only [putL, setL, evL, getL]
         refine HK_passP 19 rfl (by kernel_rfl) (fun c l s h => hQp c l s h) ?_ (fun _ => hR) ?_
         ·exact wantF (j := 13) (b := true) (t := 37) (c := decide (x192 > 0)) rfl rfl rfl rfl hb267
         refine HK_passP 20 rfl (by kernel_rfl) (fun c l s h => hQp c l s h) ?_ (fun _ => hR) ?_
         ·exact wantF (j := 13) (b := true) (t := 37) (c := decide (x192 > 0)) rfl rfl rfl rfl hb267
         refine HK_passP 21 rfl (by kernel_rfl) (fun c l s h => hQp c l s h) ?_ (fun _ => hR) ?_
         ·exact wantF (j := 13) (b := true) (t := 37) (c := decide (x192 > 0)) rfl rfl rfl rfl hb267
         try dsimp only [putL, setL, evL, getL]
         refine HK_passP 22 rfl (by kernel_rfl) (fun c l s h => hQp c l s h) ?_ (fun _ => hR) ?_
         ·exact wantF (j := 13) (b := true) (t := 37) (c := decide (x192 > 0)) rfl rfl rfl rfl hb267
         refine HK_passP 23 rfl (by kernel_rfl) (fun c l s h => hQp c l s h) ?_ (fun _ => hR) ?_
         ·exact wantF (j := 13) (b := true) (t := 37) (c := decide (x192 > 0)) rfl rfl rfl rfl hb267
         refine HK_passP 24 rfl (by kernel_rfl) (fun c l s h => hQp c l s h) ?_ (fun _ => hR) ?_
         ·exact wantF (j := 13) (b := true) (t := 37) (c := decide (x192 > 0)) rfl rfl rfl rfl hb267
         try dsimp only [putL, setL, evL, getL]
         refine HK_readP 25 (v := .bool false) rfl (by kernel_rfl) hQp (wantT (j := 10) (b := false) (t := 34) (c := decide (u264 > u265)) rfl rfl rfl rfl hb266) (fun s' K hK => o_pickF rfl hb267 hK) rfl rfl (fun _ => hR) ?_
         refine HK_readP 26 (v := .bool false) rfl (by kernel_rfl) hQp rfl (fun s' K hK => o_pickF rfl hb266 hK) rfl rfl (fun _ => hR) ?_
         refine HK_done (fun _ => hR) (by kernel_rfl) ?_
         exact hK256 _ _ ⟨false, H, rfl, hH⟩
      ·rintro l' s270 ⟨x263, H, hl, hH⟩
       revert l'
       refine skA ?_
       dsimp only [Al, Sk]
       intros
       replace H := hG256 _ H
       try dsimp only at H
       revert H
       refine ct rfl (fun hb271 H => ?_) (fun hb271 H => ?_)
       ·refine sr fun K272 hK272 => ?_
        try dsimp only [putL, setL, evL, getL]
        refine ag (HL_nil (hK272 _ _ ?_))
        dsimp only [putL, setL, evL, getL]
        refine HT_ret ?_
        replace H := escH (fun z hz => hG32 _ hz) H
        exact hQr _ _ [.bool false] _ ⟨rfl, trivial⟩ H ⟨rfl, hH⟩
       ·refine HT_skip (hK255 _ _ ?_)
        refine HT_region ?_
        refine mv (bn rfl rfl rfl (ag (HL_nil ?_)))
        exact hK233 _ _ ⟨kf, Nat.lt_succ_self kf, IntKind.i64.wrap (x192 + 2), H, rfl, hH⟩
     ·refine HT_exit ?_
      exact hK32 _ _ ⟨H, rfl, hH⟩
   ·rintro l' s273 ⟨H, hl, hH⟩
    revert l'
    refine skA ?_
    dsimp only [Al, Sk]
    intros
    replace H := hG32 _ H
    try dsimp only at H
    refine hK30 _ _ ?_
    refine sr fun K274 hK274 => ?_
    try dsimp only [putL, setL, evL, getL]
    refine ag (HL_nil (hK274 _ _ ?_))
    dsimp only [putL, setL, evL, getL]
    refine HT_ret ?_
    exact hQr _ _ [.bool true] _ ⟨rfl, trivial⟩ H ⟨rfl, hH⟩
def spec_GoodRune.f (p0 : Int) : Option Bool := (spec_l1In.f p0 0 1114111).bind fun u3 => if u3 = true then ((spec_l1In.f p0 55296 57343).bind fun u5 => some (!u5)) else (some false)
def spec_GoodRune.post (sb s : St) (F0 : Fp) (r : Bool) : Value → St → Prop := fun v s' => v = .bool r ∧ Hp sb s F0 s' []
set_option maxRecDepth 100000 in
set_option maxHeartbeats 4000000 in
theorem spec_GoodRune.ok (sb s : St) (F0 : Fp) (p0 : Int) (hH : Hp sb s F0 s []) (r : Bool) (H : spec_GoodRune.f p0 = some r) : GCall Try.prog 148 #[.int .i64 p0] s (spec_GoodRune.post sb s F0 r) := by
 refine GCall_ofr (spec_GoodRune.post sb s F0) [.tmp 2] (ud [.int .i64 p0] 9) Try.func148 rfl rfl rfl fun w Q hQr hQn hQp => ?_
 replace H := topE H
 unfold spec_GoodRune.f at H
 dsimp only [ud, un]
 refine sr fun K1 hK1 => ag (HL_nil (hK1 _ _ ?_))
 dsimp only [putL, setL, evL, getL]
 refine sr fun K2 hK2 => mv ?_
 replace H := headE H
 obtain ⟨u3, hu3, H⟩ := H
 refine hc (o_call (args := #[.int .i64 p0, .int .i64 0, .int .i64 1114111]) Try.func108 rfl rfl rfl (spec_l1In.ok sb s no p0 0 1114111 (Hp.own hH.bs) _ hu3) ?_)
 rintro _ s3 ⟨rfl, hD⟩
 replace hH := hH.back0 hD (Up.refl _ _ _)
 clear hD
 refine mv ?_
 revert H
 refine it (fun hb4 H => ?_) (fun hb4 H => ?_)
 ·refine wt rfl rfl rfl rfl hb4 (o_move ?_)
  replace H := headE H
  obtain ⟨u5, hu5, H⟩ := H
  try dsimp only [putL, setL, evL, getL]
  refine wt rfl rfl rfl rfl hb4 (o_call (args := #[.int .i64 p0, .int .i64 55296, .int .i64 57343]) Try.func108 rfl rfl rfl (spec_l1In.ok sb s3 no p0 55296 57343 (Hp.own hH.bs) _ hu5) ?_)
  rintro _ s5 ⟨rfl, hD⟩
  replace hH := hH.back0 hD (Up.refl _ _ _)
  clear hD
  refine wt rfl rfl rfl rfl hb4 (o_not rfl (hc (o_pickT rfl hb4 ?_)))
  dsimp only [putL, setL, evL, getL]
  refine ag (HL_nil (hK2 _ _ ?_))
  dsimp only [putL, setL, evL, getL]
  refine HT_ret ?_
  exact hQr _ _ [.bool (!u5)] _ ⟨rfl, trivial⟩ H ⟨rfl, hH⟩
 ·refine wf rfl rfl rfl rfl hb4 (wf rfl rfl rfl rfl hb4 (wf rfl rfl rfl rfl hb4 ?_))
  dsimp only [putL, setL, evL, getL]
  refine hc (o_pickF rfl hb4 (ag (HL_nil (hK2 _ _ ?_))))
  dsimp only [putL, setL, evL, getL]
  refine HT_ret ?_
  exact hQr _ _ [.bool false] _ ⟨rfl, trivial⟩ H ⟨rfl, hH⟩
def spec_l1AllRunes.l1 (p0 : List (Int)) : Nat → Int → Option (Lo Unit Bool)
 | 0, _ => none
 | kf + 1, x48 => if (decide (x48 < (p0.length : Int))) = true then ((rd? p0 x48).bind fun u66 => (spec_GoodRune.f u66).bind fun u68 => if (!u68) = true then ((some false).bind fun z => some (Lo.ret z)) else (spec_l1AllRunes.l1 p0 kf (IntKind.i64.wrap (x48 + 1)))) else (some (Lo.go ()))
def spec_l1AllRunes.f (p0 : List (Int)) : Option Bool := (spec_l1AllRunes.l1 p0 ((((p0.length : Int)) - (0)).toNat + 2) 0).bind fun (o : Lo Unit Bool) => match o with | .go () => (some (decide ((p0.length : Int) ≤ 1000))) | .ret z => some z
def spec_l1AllRunes.post (sb s : St) (F0 : Fp) (r : Bool) : Value → St → Prop := fun v s' => v = .bool r ∧ Hp sb s F0 s' []
set_option maxRecDepth 100000 in
set_option maxHeartbeats 4000000 in
theorem spec_l1AllRunes.ok (sb s : St) (F0 : Fp) (A0p : Option Addr) (c0p : Nat) (p0 : List (Int)) (HRp0 : Rd KI sb A0p c0p p0) (hH : Hp sb s F0 s []) (r : Bool) (H : spec_l1AllRunes.f p0 = some r) : GCall Try.prog 119 #[.slice A0p p0.length c0p] s (spec_l1AllRunes.post sb s F0 r) := by
 refine GCall_ofr (spec_l1AllRunes.post sb s F0) [.tmp 2] (ud [.slice A0p p0.length c0p] 17) Try.func119 rfl rfl rfl fun w Q hQr hQn hQp => ?_
 replace H := topE H
 unfold spec_l1AllRunes.f at H
 dsimp only [ud, un]
 refine sr fun K1 hK1 => ag (HL_nil (hK1 _ _ ?_))
 dsimp only [putL, setL, evL, getL]
 refine HT_seq_k fun K2 hK2 => sr fun K3 hK3 => mv (hc (o_len rfl Try.underlying24 (mv (HL_nil (hK3 _ _ ?_)))))
 dsimp only [putL, setL, evL, getL]
 refine joinH H fun G4 hG4 H => ?_
 refine HT_toK (fun l' s' => G4 (.go ()) = some r ∧ skim [0] l' = ([.slice A0p p0.length c0p], 18) ∧ Hp sb s F0 s' []) ?_ ?_
 ·intro K4 hK4
  refine HT_block ?_
  refine HT_loopK (fun kf l' s' => ∃ (x48 : Int), (spec_l1AllRunes.l1 p0 kf x48).bind G4 = some r ∧ skim [0, 4, 0, 0] l' = ([.slice A0p p0.length c0p, .slice A0p p0.length c0p, .int .i64 (p0.length : Int), .int .i64 x48], 11) ∧ Hp sb s F0 s' []) ((((p0.length : Int)) - (0)).toNat + 2) ⟨0, H, rfl, hH⟩ ?_
  rintro kf l' s60 ⟨x48, H, hl, hH⟩ K60 hK60
  revert l'
  refine skA ?_
  dsimp only [Al, Sk]
  intros
  cases kf with
  | zero => simp [spec_l1AllRunes.l1] at H
  | succ kf =>
   rw [spec_l1AllRunes.l1] at H
   refine sr fun K61 hK61 => bn rfl rfl rfl (HL_nil (hK61 _ _ ?_))
   dsimp only [putL, setL, evL, getL]
   refine HT_seq_k fun K62 hK62 => ?_
   revert H
   refine ct rfl (fun hb63 H => ?_) (fun hb63 H => ?_)
   ·refine HT_skip (hK62 _ _ (HT_seq_k fun K64 hK64 => (HT_block (sr fun K65 hK65 => ?_))))
    replace H := headE H
    obtain ⟨u66, hu66, H⟩ := H
    obtain ⟨b66, o66, cs66, hr66, hh66, hel66⟩ := Rd.elb HRp0 hu66
    obtain rfl := hr66
    refine hc (hel66 s60 rfl rfl Try.underlying24 tI3 (hc (o_load' rfl Try.underlying3 rfl ((hh66 hH.bs.mono) 0 _ rfl) (ag (HL_nil (hK65 _ _ ?_))))))
    dsimp only [putL, setL, evL, getL]
    refine sr fun K67 hK67 => mv ?_
    replace H := headE H
    obtain ⟨u68, hu68, H⟩ := H
    refine hc (o_call (args := #[.int .i64 u66]) Try.func148 rfl rfl rfl (spec_GoodRune.ok sb s60 no u66 (Hp.own hH.bs) _ hu68) ?_)
    rintro _ s68 ⟨rfl, hD⟩
    replace hH := hH.back0 hD (Up.refl _ _ _)
    clear hD
    refine hc (o_not rfl (HL_nil (hK67 _ _ ?_)))
    dsimp only [putL, setL, evL, getL]
    revert H
    refine ct rfl (fun hb69 H => ?_) (fun hb69 H => ?_)
    ·refine sr fun K70 hK70 => ag (HL_nil (hK70 _ _ ?_))
     dsimp only [putL, setL, evL, getL]
     refine HT_ret ?_
     replace H := escH (fun z hz => hG4 _ hz) H
     exact hQr _ _ [.bool false] _ ⟨rfl, trivial⟩ H ⟨rfl, hH⟩
    ·refine HT_skip (hK64 _ _ ?_)
     refine HT_region ?_
     refine bn rfl rfl rfl (mv (HL_nil ?_))
     exact hK60 _ _ ⟨kf, Nat.lt_succ_self kf, IntKind.i64.wrap (x48 + 1), H, rfl, hH⟩
   ·refine HT_exit ?_
    exact hK4 _ _ ⟨H, rfl, hH⟩
 ·rintro l' s71 ⟨H, hl, hH⟩
  revert l'
  refine skA ?_
  dsimp only [Al, Sk]
  intros
  replace H := hG4 _ H
  try dsimp only at H
  refine hK2 _ _ ?_
  refine sr fun K72 hK72 => mv ?_
  dsimp only [putL, setL, evL, getL]
  refine hc (o_len rfl Try.underlying24 (bn rfl rfl rfl (ag (HL_nil (hK72 _ _ ?_)))))
  dsimp only [putL, setL, evL, getL]
  refine HT_ret ?_
  exact hQr _ _ [.bool (decide ((p0.length : Int) ≤ 1000))] _ ⟨rfl, trivial⟩ H ⟨rfl, hH⟩
def spec_l5Node.f (p0_0 : Int) (p0_1 : List (Int)) : Option Bool := ((spec_l5Arity.f p0_0).bind fun u30 => if (decide (u30 < 0)) = true then (some true) else (if (p0_0 != 2) = true then (if (decide ((p0_1.length : Int) > 0)) = true then (some true) else ((spec_GoodSet.f p0_1).bind fun u34 => some (!u34))) else ((spec_GoodSet.f p0_1).bind fun u35 => some (!u35)))).bind fun (o : Bool) => match o with | x29 => (if x29 = true then (some false) else ((spec_l1AllRunes.f p0_1).bind fun u40 => some u40))
def spec_l5Node.post (sb s : St) (F0 : Fp) (r : Bool) : Value → St → Prop := fun v s' => v = .bool r ∧ Hp sb s F0 s' []
set_option maxRecDepth 100000 in
set_option maxHeartbeats 4000000 in
theorem spec_l5Node.ok (sb s : St) (F0 : Fp) (p0_0 : Int) (A0_1p : Option Addr) (c0_1p : Nat) (p0_1 : List (Int)) (HRp0_1 : Rd KI sb A0_1p c0_1p p0_1) (hH : Hp sb s F0 s []) (r : Bool) (H : spec_l5Node.f p0_0 p0_1 = some r) : GCall Try.prog 234 #[.agg #[.int .i64 p0_0, .slice A0_1p p0_1.length c0_1p]] s (spec_l5Node.post sb s F0 r) := by
 refine GCall_ofr (spec_l5Node.post sb s F0) [.tmp 2] (ud [.agg #[.int .i64 p0_0, .slice A0_1p p0_1.length c0_1p]] 26) Try.func234 rfl rfl rfl fun w Q hQr hQn hQp => ?_
 replace H := topE H
 unfold spec_l5Node.f at H
 dsimp only [ud, un]
 refine sr fun K1 hK1 => hc (o_boxH hH rfl ?_)
 clear hH
 intro b2 s2 hH _
 refine ag (HL_nil (hK1 _ _ ?_))
 dsimp only [putL, setL, evL, getL]
 refine HT_seq_k fun K21 hK21 => ?_
 refine joinH H fun G22 hG22 H => ?_
 refine HT_joinK (fun l' s' => ∃ (x29 : Bool), G22 x29 = some r ∧ skim [1, 21] l' = ([.pointer (some ⟨b2, 0, none⟩), .bool x29], 4) ∧ Hp sb s F0 s' [Ck.ov b2 [.int .i64 p0_0, .slice A0_1p p0_1.length c0_1p] 139]) ?_ ?_
 ·intro K22 hK22
  refine HT_region ?_
  refine hc (o_faddr' (ft := 3) (off := 0) rfl Try.underlying139 rfl tI3 (by decide) (hc (o_load' rfl Try.underlying3 rfl (hH.hasv 0 rfl rfl) ?_)))
  replace H := headE H
  obtain ⟨u30, hu30, H⟩ := H
  refine hc (o_call (args := #[.int .i64 p0_0]) Try.func223 rfl rfl rfl (spec_l5Arity.ok sb s2 no p0_0 (Hp.own hH.bs) _ hu30) ?_)
  rintro _ s30 ⟨rfl, hD⟩
  replace hH := hH.back0 hD (Up.refl _ _ _)
  clear hD
  try dsimp only [putL, setL, evL, getL]
  refine bn rfl rfl rfl (mv ?_)
  revert H
  refine it (fun hb31 H => ?_) (fun hb31 H => ?_)
  ·refine wf rfl rfl rfl rfl hb31 ?_
   dsimp only [putL, setL, evL, getL]
   refine wf rfl rfl rfl rfl hb31 (wf rfl rfl rfl rfl hb31 (wf rfl rfl rfl rfl hb31 ?_))
   dsimp only [putL, setL, evL, getL]
   refine wu rfl rfl rfl rfl (wu rfl rfl rfl rfl (wu rfl rfl rfl rfl ?_))
   dsimp only [putL, setL, evL, getL]
   refine wu rfl rfl rfl rfl (wf rfl rfl rfl rfl hb31 (hc (o_pickT rfl hb31 ?_)))
   dsimp only [putL, setL, evL, getL]
   refine mv (wf rfl rfl rfl rfl rfl (wf rfl rfl rfl rfl rfl ?_))
   dsimp only [putL, setL, evL, getL]
   refine wf rfl rfl rfl rfl rfl (wf rfl rfl rfl rfl rfl (hc (o_pickT rfl rfl (HL_nil ?_))))
   exact hK22 _ _ ⟨true, H, rfl, hH⟩
  ·refine wt rfl rfl rfl rfl hb31 (o_faddr' (ft := 3) (off := 0) rfl Try.underlying139 rfl tI3 (by decide) ?_)
   dsimp only [putL, setL, evL, getL]
   refine wt rfl rfl rfl rfl hb31 (o_load' rfl Try.underlying3 rfl (hH.hasv 0 rfl rfl) (wt rfl rfl rfl rfl hb31 (o_bin rfl rfl rfl (wt rfl rfl rfl rfl hb31 (o_move ?_)))))
   revert H
   refine it (fun hb32 H => ?_) (fun hb32 H => ?_)
   ·refine wt rfl rfl rfl rfl hb32 (o_faddr' (ft := 24) (off := 1) rfl Try.underlying139 rfl tI24 (by decide) ?_)
    dsimp only [putL, setL, evL, getL]
    refine wt rfl rfl rfl rfl hb32 (o_load' rfl Try.underlying24 rfl (hH.hasv 0 rfl rfl) (wt rfl rfl rfl rfl hb32 (o_len rfl Try.underlying24 (wt rfl rfl rfl rfl hb32 (o_bin rfl rfl rfl ?_)))))
    dsimp only [putL, setL, evL, getL]
    refine wt rfl rfl rfl rfl hb31 (o_pickT rfl hb32 (hc (o_pickF rfl hb31 (mv ?_))))
    revert H
    refine it (fun hb33 H => ?_) (fun hb33 H => ?_)
    ·refine wf rfl rfl rfl rfl hb33 ?_
     dsimp only [putL, setL, evL, getL]
     refine wf rfl rfl rfl rfl hb33 (wf rfl rfl rfl rfl hb33 (wf rfl rfl rfl rfl hb33 ?_))
     dsimp only [putL, setL, evL, getL]
     refine hc (o_pickT rfl hb33 (HL_nil ?_))
     exact hK22 _ _ ⟨true, H, rfl, hH⟩
    ·refine wt rfl rfl rfl rfl hb33 (o_faddr' (ft := 24) (off := 1) rfl Try.underlying139 rfl tI24 (by decide) (wt rfl rfl rfl rfl hb33 (o_load' rfl Try.underlying24 rfl (hH.hasv 0 rfl rfl) ?_)))
     replace H := headE H
     obtain ⟨u34, hu34, H⟩ := H
     try dsimp only [putL, setL, evL, getL]
     refine wt rfl rfl rfl rfl hb33 (o_call (args := #[.slice A0_1p p0_1.length c0_1p]) Try.func240 rfl rfl rfl (spec_GoodSet.ok sb s30 no A0_1p c0_1p p0_1 HRp0_1 (Hp.own hH.bs) _ hu34) ?_)
     rintro _ s34 ⟨rfl, hD⟩
     replace hH := hH.back0 hD (Up.refl _ _ _)
     clear hD
     refine wt rfl rfl rfl rfl hb33 (o_not rfl (hc (o_pickF rfl hb33 (HL_nil ?_))))
     exact hK22 _ _ ⟨!u34, H, rfl, hH⟩
   ·refine wf rfl rfl rfl rfl hb32 ?_
    dsimp only [putL, setL, evL, getL]
    refine wf rfl rfl rfl rfl hb32 (wf rfl rfl rfl rfl hb32 (wf rfl rfl rfl rfl hb32 ?_))
    dsimp only [putL, setL, evL, getL]
    refine wt rfl rfl rfl rfl hb31 (o_pickF rfl hb32 (hc (o_pickF rfl hb31 (mv ?_))))
    dsimp only [putL, setL, evL, getL]
    refine wt rfl rfl rfl rfl rfl (o_faddr' (ft := 24) (off := 1) rfl Try.underlying139 rfl tI24 (by decide) (wt rfl rfl rfl rfl rfl (o_load' rfl Try.underlying24 rfl (hH.hasv 0 rfl rfl) ?_)))
    replace H := headE H
    obtain ⟨u35, hu35, H⟩ := H
    refine wt rfl rfl rfl rfl rfl (o_call (args := #[.slice A0_1p p0_1.length c0_1p]) Try.func240 rfl rfl rfl (spec_GoodSet.ok sb s30 no A0_1p c0_1p p0_1 HRp0_1 (Hp.own hH.bs) _ hu35) ?_)
    rintro _ s35 ⟨rfl, hD⟩
    replace hH := hH.back0 hD (Up.refl _ _ _)
    clear hD
    try dsimp only [putL, setL, evL, getL]
    refine wt rfl rfl rfl rfl rfl (o_not rfl (hc (o_pickF rfl rfl (HL_nil ?_))))
    exact hK22 _ _ ⟨!u35, H, rfl, hH⟩
 ·rintro l' s36 ⟨x29, H, hl, hH⟩
  revert l'
  refine skA ?_
  dsimp only [Al, Sk]
  intros
  replace H := hG22 _ H
  try dsimp only at H
  revert H
  refine ct rfl (fun hb37 H => ?_) (fun hb37 H => ?_)
  ·refine sr fun K38 hK38 => ag (HL_nil (hK38 _ _ ?_))
   dsimp only [putL, setL, evL, getL]
   refine HT_ret ?_
   exact hQr _ _ [.bool false] _ ⟨rfl, trivial⟩ H ⟨rfl, hH.sel [] (by decide)⟩
  ·refine HT_skip (hK21 _ _ (sr fun K39 hK39 => (hc (o_faddr' (ft := 24) (off := 1) rfl Try.underlying139 rfl tI24 (by decide) (hc (o_load' rfl Try.underlying24 rfl (hH.hasv 0 rfl rfl) ?_))))))
   replace H := headE H
   obtain ⟨u40, hu40, H⟩ := H
   refine hc (o_call (args := #[.slice A0_1p p0_1.length c0_1p]) Try.func119 rfl rfl rfl (spec_l1AllRunes.ok sb s36 no A0_1p c0_1p p0_1 HRp0_1 (Hp.own hH.bs) _ hu40) ?_)
   rintro _ s40 ⟨rfl, hD⟩
   replace hH := hH.back0 hD (Up.refl _ _ _)
   clear hD
   try dsimp only [putL, setL, evL, getL]
   refine ag (HL_nil (hK39 _ _ ?_))
   dsimp only [putL, setL, evL, getL]
   refine HT_ret ?_
   exact hQr _ _ [.bool u40] _ ⟨rfl, trivial⟩ H ⟨rfl, hH.sel [] (by decide)⟩
def spec_l5Good.l1 (p0 : List ((Int) × (List (Int)))) : Nat → Int → Int → Option (Lo Int Bool)
 | 0, _, _ => none
 | kf + 1, x272, x273 => if (decide (x273 < (p0.length : Int))) = true then ((rd? p0 x273).bind fun u378 => ((spec_l5Node.f u378.1 u378.2).bind fun u400 => if (!u400) = true then (some true) else ((spec_l5Arity.f u378.1).bind fun u402 => some (decide (x272 < u402)))).bind fun (o : Bool) => match o with | x399 => (if x399 = true then ((some false).bind fun z => some (Lo.ret z)) else ((spec_l5Arity.f u378.1).bind fun u406 => spec_l5Good.l1 p0 kf (IntKind.i64.wrap (x272 + (IntKind.i64.wrap (1 - u406)))) (IntKind.i64.wrap (x273 + 1))))) else (some (Lo.go x272))
def spec_l5Good.f (p0 : List ((Int) × (List (Int)))) : Option Bool := (spec_l5Good.l1 p0 ((((p0.length : Int)) - (0)).toNat + 2) 0 0).bind fun (o : Lo Int Bool) => match o with | .go x206 => (some (x206 == 1)) | .ret z => some z
def spec_l5Good.post (sb s : St) (F0 : Fp) (r : Bool) : Value → St → Prop := fun v s' => v = .bool r ∧ Hp sb s F0 s' []
set_option maxRecDepth 100000 in
set_option maxHeartbeats 4000000 in
theorem spec_l5Good.ok (sb s : St) (F0 : Fp) (A0p : Option Addr) (c0p : Nat) (p0 : List ((Int) × (List (Int)))) (HRp0 : Rd KS139 sb A0p c0p p0) (hH : Hp sb s F0 s []) (r : Bool) (H : spec_l5Good.f p0 = some r) : GCall Try.prog 220 #[.slice A0p p0.length c0p] s (spec_l5Good.post sb s F0 r) := by
 refine GCall_ofr (spec_l5Good.post sb s F0) [.tmp 2] (ud [.slice A0p p0.length c0p] 30) Try.func220 rfl rfl rfl fun w Q hQr hQn hQp => ?_
 replace H := topE H
 unfold spec_l5Good.f at H
 dsimp only [ud, un]
 refine sr fun K1 hK1 => ag (HL_nil (hK1 _ _ ?_))
 dsimp only [putL, setL, evL, getL]
 refine sr fun K2 hK2 => ag (HL_nil (hK2 _ _ ?_))
 dsimp only [putL, setL, evL, getL]
 refine HT_seq_k fun K3 hK3 => sr fun K4 hK4 => mv (hc (o_len rfl Try.underlying57 (mv (HL_nil (hK4 _ _ ?_)))))
 dsimp only [putL, setL, evL, getL]
 refine joinH H fun G5 hG5 H => ?_
 refine HT_toK (fun l' s' => ∃ (x206 : Int), G5 (.go x206) = some r ∧ skim [3] l' = ([.int .i64 x206], 28) ∧ Hp sb s F0 s' []) ?_ ?_
 ·intro K5 hK5
  refine HT_block ?_
  refine HT_loopK (fun kf l' s' => ∃ (x272 : Int) (x273 : Int), (spec_l5Good.l1 p0 kf x272 x273).bind G5 = some r ∧ skim [3, 2, 0, 0] l' = ([.int .i64 x272, .slice A0p p0.length c0p, .int .i64 (p0.length : Int), .int .i64 x273], 23) ∧ Hp sb s F0 s' []) ((((p0.length : Int)) - (0)).toNat + 2) ⟨0, 0, H, rfl, hH⟩ ?_
  rintro kf l' s341 ⟨x272, x273, H, hl, hH⟩ K341 hK341
  revert l'
  refine skA ?_
  dsimp only [Al, Sk]
  intros
  cases kf with
  | zero => simp [spec_l5Good.l1] at H
  | succ kf =>
   rw [spec_l5Good.l1] at H
   refine sr fun K342 hK342 => bn rfl rfl rfl (HL_nil (hK342 _ _ ?_))
   dsimp only [putL, setL, evL, getL]
   refine HT_seq_k fun K343 hK343 => ?_
   revert H
   refine ct rfl (fun hb344 H => ?_) (fun hb344 H => ?_)
   ·refine HT_skip (hK343 _ _ (HT_seq_k fun K376 hK376 => (HT_block (sr fun K377 hK377 => ?_))))
    replace H := headE H
    obtain ⟨u378, hu378, H⟩ := H
    obtain ⟨b378, o378, cs378, hr378, hh378, hel378⟩ := Rd.elb HRp0 hu378
    obtain ⟨_, _, rfl, rfl, ⟨A379, c379, rfl, D379⟩⟩ := hr378
    refine hc (hel378 s341 rfl rfl Try.underlying57 tI139 (hc (o_loads' [.int .i64 u378.1, .slice A379 u378.2.length c379] rfl Try.underlying139 rfl tI139 rfl (fun j v hj => (hh378 hH.bs.mono) j v hj) (hc (o_allocH hH tI139 ?_)))))
    clear hH
    intro b380 s380 hH _
    try dsimp only [putL, setL, evL, getL]
    refine hc (o_stvH (vs := [.int .i64 u378.1, .slice A379 u378.2.length c379]) (us' := [.int .i64 u378.1, .slice A379 u378.2.length c379]) hH 0 rfl rfl rfl rfl rfl tI139 rfl (List.cons_ne_nil _ _) rfl rfl rfl ?_)
    clear hH
    intro s381 hH
    refine HL_nil (hK377 _ _ ?_)
    try dsimp only [putL, setL, evL, getL]
    refine HT_seq_k fun K394 hK394 => ?_
    refine joinH H fun G395 hG395 H => ?_
    refine HT_joinK (fun l' s' => ∃ (x399 : Bool), G395 x399 = some r ∧ skim [3, 1, 0, 0, 0, 12] l' = ([.int .i64 x272, .pointer (some ⟨b380, 0, none⟩), .slice A0p p0.length c0p, .int .i64 (p0.length : Int), .int .i64 x273, .bool x399], 10) ∧ Hp sb s F0 s' [Ck.ov b380 [.int .i64 u378.1, .slice A379 u378.2.length c379] 139]) ?_ ?_
    ·intro K395 hK395
     refine HT_region ?_
     refine hc (o_loads' [.int .i64 u378.1, .slice A379 u378.2.length c379] rfl Try.underlying139 rfl tI139 rfl (hH.partv 0 rfl (0) [.int .i64 u378.1, .slice A379 u378.2.length c379] rfl) ?_)
     replace H := headE H
     obtain ⟨u400, hu400, H⟩ := H
     refine hc (o_call (args := #[.agg #[.int .i64 u378.1, .slice A379 u378.2.length c379]]) Try.func234 rfl rfl rfl (spec_l5Node.ok sb s381 no u378.1 A379 c379 u378.2 D379 (Hp.own hH.bs) _ hu400) ?_)
     rintro _ s400 ⟨rfl, hD⟩
     replace hH := hH.back0 hD (Up.refl _ _ _)
     clear hD
     refine hc (o_not rfl ?_)
     dsimp only [putL, setL, evL, getL]
     refine mv ?_
     revert H
     refine it (fun hb401 H => ?_) (fun hb401 H => ?_)
     ·refine wf rfl rfl rfl rfl hb401 (wf rfl rfl rfl rfl hb401 ?_)
      dsimp only [putL, setL, evL, getL]
      refine wf rfl rfl rfl rfl hb401 (wf rfl rfl rfl rfl hb401 (wf rfl rfl rfl rfl hb401 ?_))
      dsimp only [putL, setL, evL, getL]
      refine hc (o_pickT rfl hb401 (HL_nil ?_))
      exact hK395 _ _ ⟨true, H, rfl, hH⟩
     ·refine wt rfl rfl rfl rfl hb401 (o_move (wt rfl rfl rfl rfl hb401 (o_faddr' (ft := 3) (off := 0) rfl Try.underlying139 rfl tI3 (by decide) ?_)))
      dsimp only [putL, setL, evL, getL]
      refine wt rfl rfl rfl rfl hb401 (o_load' rfl Try.underlying3 rfl (hH.hasv 0 rfl rfl) ?_)
      replace H := headE H
      obtain ⟨u402, hu402, H⟩ := H
      refine wt rfl rfl rfl rfl hb401 (o_call (args := #[.int .i64 u378.1]) Try.func223 rfl rfl rfl (spec_l5Arity.ok sb s400 no u378.1 (Hp.own hH.bs) _ hu402) ?_)
      rintro _ s402 ⟨rfl, hD⟩
      replace hH := hH.back0 hD (Up.refl _ _ _)
      clear hD
      refine wt rfl rfl rfl rfl hb401 (o_bin rfl rfl rfl ?_)
      dsimp only [putL, setL, evL, getL]
      refine hc (o_pickF rfl hb401 (HL_nil ?_))
      exact hK395 _ _ ⟨decide (x272 < u402), H, rfl, hH⟩
    ·rintro l' s403 ⟨x399, H, hl, hH⟩
     revert l'
     refine skA ?_
     dsimp only [Al, Sk]
     intros
     replace H := hG395 _ H
     try dsimp only at H
     revert H
     refine ct rfl (fun hb404 H => ?_) (fun hb404 H => ?_)
     ·refine sr fun K405 hK405 => ag (HL_nil (hK405 _ _ ?_))
      dsimp only [putL, setL, evL, getL]
      refine HT_ret ?_
      replace H := escH (fun z hz => hG5 _ hz) H
      exact hQr _ _ [.bool false] _ ⟨rfl, trivial⟩ H ⟨rfl, hH.sel [] (by decide)⟩
     ·refine HT_skip (hK394 _ _ ?_)
      refine HT_region ?_
      refine mv (hc (o_faddr' (ft := 3) (off := 0) rfl Try.underlying139 rfl tI3 (by decide) (hc (o_load' rfl Try.underlying3 rfl (hH.hasv 0 rfl rfl) ?_))))
      replace H := headE H
      obtain ⟨u406, hu406, H⟩ := H
      try dsimp only [putL, setL, evL, getL]
      refine hc (o_call (args := #[.int .i64 u378.1]) Try.func223 rfl rfl rfl (spec_l5Arity.ok sb s403 no u378.1 (Hp.own hH.bs) _ hu406) ?_)
      rintro _ s406 ⟨rfl, hD⟩
      replace hH := hH.back0 hD (Up.refl _ _ _)
      clear hD
      refine bn rfl rfl rfl (bn rfl rfl rfl ?_)
      dsimp only [putL, setL, evL, getL]
      refine ag (HL_nil (hK376 _ _ ?_))
      dsimp only [putL, setL, evL, getL]
      refine HT_region ?_
      refine bn rfl rfl rfl (mv (HL_nil ?_))
      exact hK341 _ _ ⟨kf, Nat.lt_succ_self kf, IntKind.i64.wrap (x272 + (IntKind.i64.wrap (1 - u406))), IntKind.i64.wrap (x273 + 1), H, rfl, hH.sel [] (by decide)⟩
   ·refine HT_exit ?_
    exact hK5 _ _ ⟨x272, H, rfl, hH⟩
 ·rintro l' s407 ⟨x206, H, hl, hH⟩
  revert l'
  refine skA ?_
  dsimp only [Al, Sk]
  intros
  replace H := hG5 _ H
  try dsimp only at H
  refine hK3 _ _ ?_
  refine sr fun K408 hK408 => mv ?_
  dsimp only [putL, setL, evL, getL]
  refine bn rfl rfl rfl (ag (HL_nil (hK408 _ _ ?_)))
  dsimp only [putL, setL, evL, getL]
  refine HT_ret ?_
  exact hQr _ _ [.bool (x206 == 1)] _ ⟨rfl, trivial⟩ H ⟨rfl, hH⟩
def spec_GoodRe.f (p0 : List ((Int) × (List (Int)))) : Option Bool := if (decide ((p0.length : Int) ≤ 40)) = true then ((spec_l5Good.f p0).bind fun u4 => some u4) else (some false)
def spec_GoodRe.post (sb s : St) (F0 : Fp) (r : Bool) : Value → St → Prop := fun v s' => v = .bool r ∧ Hp sb s F0 s' []
set_option maxRecDepth 100000 in
set_option maxHeartbeats 4000000 in
theorem spec_GoodRe.ok (sb s : St) (F0 : Fp) (A0p : Option Addr) (c0p : Nat) (p0 : List ((Int) × (List (Int)))) (HRp0 : Rd KS139 sb A0p c0p p0) (hH : Hp sb s F0 s []) (r : Bool) (H : spec_GoodRe.f p0 = some r) : GCall Try.prog 189 #[.slice A0p p0.length c0p] s (spec_GoodRe.post sb s F0 r) := by
 refine GCall_ofr (spec_GoodRe.post sb s F0) [.tmp 2] (ud [.slice A0p p0.length c0p] 9) Try.func189 rfl rfl rfl fun w Q hQr hQn hQp => ?_
 replace H := topE H
 unfold spec_GoodRe.f at H
 dsimp only [ud, un]
 refine sr fun K1 hK1 => ag (HL_nil (hK1 _ _ ?_))
 dsimp only [putL, setL, evL, getL]
 refine sr fun K2 hK2 => mv (hc (o_len rfl Try.underlying57 (bn rfl rfl rfl ?_)))
 dsimp only [putL, setL, evL, getL]
 refine mv ?_
 revert H
 refine it (fun hb3 H => ?_) (fun hb3 H => ?_)
 ·refine wt rfl rfl rfl rfl hb3 (o_move ?_)
  replace H := headE H
  obtain ⟨u4, hu4, H⟩ := H
  refine wt rfl rfl rfl rfl hb3 (o_call (args := #[.slice A0p p0.length c0p]) Try.func220 rfl rfl rfl (spec_l5Good.ok sb s no A0p c0p p0 HRp0 (Hp.own hH.bs) _ hu4) ?_)
  rintro _ s4 ⟨rfl, hD⟩
  replace hH := hH.back0 hD (Up.refl _ _ _)
  clear hD
  try dsimp only [putL, setL, evL, getL]
  refine hc (o_pickT rfl hb3 (ag (HL_nil (hK2 _ _ ?_))))
  dsimp only [putL, setL, evL, getL]
  refine HT_ret ?_
  exact hQr _ _ [.bool u4] _ ⟨rfl, trivial⟩ H ⟨rfl, hH⟩
 ·refine wf rfl rfl rfl rfl hb3 (wf rfl rfl rfl rfl hb3 (hc (o_pickF rfl hb3 ?_)))
  dsimp only [putL, setL, evL, getL]
  refine ag (HL_nil (hK2 _ _ ?_))
  dsimp only [putL, setL, evL, getL]
  refine HT_ret ?_
  exact hQr _ _ [.bool false] _ ⟨rfl, trivial⟩ H ⟨rfl, hH⟩
def spec_IsPlain.l1 (p0 : List ((Int) × (List (Int)))) : Nat → Int → Option (Lo Unit (Bool × Bool))
 | 0, _ => none
 | kf + 1, x129 => if (decide (x129 < (p0.length : Int))) = true then ((rd? p0 x129).bind fun u179 => (if (u179.1 == 5) = true then (some true) else (some (u179.1 == 7))).bind fun (o : Bool) => match o with | x185 => (if x185 = true then ((some (false, true)).bind fun z => some (Lo.ret z)) else (spec_IsPlain.l1 p0 kf (IntKind.i64.wrap (x129 + 1))))) else (some (Lo.go ()))
def spec_IsPlain.f (p0 : List ((Int) × (List (Int)))) : Option (Bool × Bool) := (spec_GoodRe.f p0).bind fun u4 => if (!u4) = true then (some (false, false)) else ((spec_IsPlain.l1 p0 ((((p0.length : Int)) - (0)).toNat + 2) 0).bind fun (o : Lo Unit (Bool × Bool)) => match o with | .go () => (some (true, true)) | .ret z => some z)
def spec_IsPlain.post (sb s : St) (F0 : Fp) (r : Bool × Bool) : Value → St → Prop := fun v s' => v = .tuple #[.bool r.1, .bool r.2] ∧ Hp sb s F0 s' []
set_option maxRecDepth 100000 in
set_option maxHeartbeats 4000000 in
theorem spec_IsPlain.ok (sb s : St) (F0 : Fp) (A0p : Option Addr) (c0p : Nat) (p0 : List ((Int) × (List (Int)))) (HRp0 : Rd KS139 sb A0p c0p p0) (hH : Hp sb s F0 s []) (r : Bool × Bool) (H : spec_IsPlain.f p0 = some r) : GCall Try.prog 128 #[.slice A0p p0.length c0p] s (spec_IsPlain.post sb s F0 r) := by
 refine GCall_ofr (spec_IsPlain.post sb s F0) [.tmp 2, .tmp 3] (ud [.slice A0p p0.length c0p] 23) Try.func128 rfl rfl rfl fun w Q hQr hQn hQp => ?_
 replace H := topE H
 unfold spec_IsPlain.f at H
 dsimp only [ud, un]
 refine sr fun K1 hK1 => ag (ag (HL_nil (hK1 _ _ ?_)))
 dsimp only [putL, setL, evL, getL]
 refine HT_seq_k fun K2 hK2 => sr fun K3 hK3 => mv ?_
 replace H := headE H
 obtain ⟨u4, hu4, H⟩ := H
 refine hc (o_call (args := #[.slice A0p p0.length c0p]) Try.func189 rfl rfl rfl (spec_GoodRe.ok sb s no A0p c0p p0 HRp0 (Hp.own hH.bs) _ hu4) ?_)
 rintro _ s4 ⟨rfl, hD⟩
 replace hH := hH.back0 hD (Up.refl _ _ _)
 clear hD
 refine hc (o_not rfl (HL_nil (hK3 _ _ ?_)))
 dsimp only [putL, setL, evL, getL]
 revert H
 refine ct rfl (fun hb5 H => ?_) (fun hb5 H => ?_)
 ·refine sr fun K6 hK6 => ag (ag (HL_nil (hK6 _ _ ?_)))
  dsimp only [putL, setL, evL, getL]
  refine HT_ret ?_
  exact hQr _ _ [.bool false, .bool false] _ ⟨rfl, rfl, trivial⟩ H ⟨rfl, hH⟩
 ·refine HT_skip (hK2 _ _ (HT_seq_k fun K7 hK7 => (sr fun K8 hK8 => (mv (hc (o_len rfl Try.underlying57 (mv (HL_nil (hK8 _ _ ?_)))))))))
  dsimp only [putL, setL, evL, getL]
  refine joinH H fun G9 hG9 H => ?_
  refine HT_toK (fun l' s' => G9 (.go ()) = some r ∧ skim [] l' = ([], 25) ∧ Hp sb s F0 s' []) ?_ ?_
  ·intro K9 hK9
   refine HT_block ?_
   refine HT_loopK (fun kf l' s' => ∃ (x129 : Int), (spec_IsPlain.l1 p0 kf x129).bind G9 = some r ∧ skim [9, 0, 0] l' = ([.slice A0p p0.length c0p, .int .i64 (p0.length : Int), .int .i64 x129], 13) ∧ Hp sb s F0 s' []) ((((p0.length : Int)) - (0)).toNat + 2) ⟨0, H, rfl, hH⟩ ?_
   rintro kf l' s160 ⟨x129, H, hl, hH⟩ K160 hK160
   revert l'
   refine skA ?_
   dsimp only [Al, Sk]
   intros
   cases kf with
   | zero => simp [spec_IsPlain.l1] at H
   | succ kf =>
    rw [spec_IsPlain.l1] at H
    refine sr fun K161 hK161 => bn rfl rfl rfl (HL_nil (hK161 _ _ ?_))
    dsimp only [putL, setL, evL, getL]
    refine HT_seq_k fun K162 hK162 => ?_
    revert H
    refine ct rfl (fun hb163 H => ?_) (fun hb163 H => ?_)
    ·refine HT_skip (hK162 _ _ (HT_seq_k fun K177 hK177 => (HT_block (sr fun K178 hK178 => ?_))))
     replace H := headE H
     obtain ⟨u179, hu179, H⟩ := H
     obtain ⟨b179, o179, cs179, hr179, hh179, hel179⟩ := Rd.elb HRp0 hu179
     obtain ⟨_, _, rfl, rfl, ⟨A180, c180, rfl, D180⟩⟩ := hr179
     refine hc (hel179 s160 rfl rfl Try.underlying57 tI139 (hc (o_loads' [.int .i64 u179.1, .slice A180 u179.2.length c180] rfl Try.underlying139 rfl tI139 rfl (fun j v hj => (hh179 hH.bs.mono) j v hj) (hc (o_allocH hH tI139 ?_)))))
     clear hH
     intro b181 s181 hH _
     try dsimp only [putL, setL, evL, getL]
     refine hc (o_stvH (vs := [.int .i64 u179.1, .slice A180 u179.2.length c180]) (us' := [.int .i64 u179.1, .slice A180 u179.2.length c180]) hH 0 rfl rfl rfl rfl rfl tI139 rfl (List.cons_ne_nil _ _) rfl rfl rfl ?_)
     clear hH
     intro s182 hH
     refine HL_nil (hK178 _ _ ?_)
     try dsimp only [putL, setL, evL, getL]
     refine joinH H fun G183 hG183 H => ?_
     refine HT_joinK (fun l' s' => ∃ (x185 : Bool), G183 x185 = some r ∧ skim [9, 0, 0, 10] l' = ([.slice A0p p0.length c0p, .int .i64 (p0.length : Int), .int .i64 x129, .bool x185], 2) ∧ Hp sb s F0 s' []) ?_ ?_
     ·intro K183 hK183
      refine HT_region ?_
      refine hc (o_faddr' (ft := 3) (off := 0) rfl Try.underlying139 rfl tI3 (by decide) (hc (o_load' rfl Try.underlying3 rfl (hH.hasv 0 rfl rfl) (bn rfl rfl rfl ?_))))
      dsimp only [putL, setL, evL, getL]
      refine mv ?_
      revert H
      refine it (fun hb186 H => ?_) (fun hb186 H => ?_)
      ·refine wf rfl rfl rfl rfl hb186 (wf rfl rfl rfl rfl hb186 ?_)
       dsimp only [putL, setL, evL, getL]
       refine wf rfl rfl rfl rfl hb186 (hc (o_pickT rfl hb186 (HL_nil ?_)))
       exact hK183 _ _ ⟨true, H, rfl, hH.sel [] (by decide)⟩
      ·refine wt rfl rfl rfl rfl hb186 (o_faddr' (ft := 3) (off := 0) rfl Try.underlying139 rfl tI3 (by decide) ?_)
       dsimp only [putL, setL, evL, getL]
       refine wt rfl rfl rfl rfl hb186 (o_load' rfl Try.underlying3 rfl (hH.hasv 0 rfl rfl) (wt rfl rfl rfl rfl hb186 (o_bin rfl rfl rfl (hc (o_pickF rfl hb186 (HL_nil ?_))))))
       exact hK183 _ _ ⟨u179.1 == 7, H, rfl, hH.sel [] (by decide)⟩
     ·rintro l' s187 ⟨x185, H, hl, hH⟩
      revert l'
      refine skA ?_
      dsimp only [Al, Sk]
      intros
      replace H := hG183 _ H
      try dsimp only at H
      revert H
      refine ct rfl (fun hb188 H => ?_) (fun hb188 H => ?_)
      ·refine sr fun K189 hK189 => ?_
       try dsimp only [putL, setL, evL, getL]
       refine ag (ag (HL_nil (hK189 _ _ ?_)))
       dsimp only [putL, setL, evL, getL]
       refine HT_ret ?_
       replace H := escH (fun z hz => hG9 _ hz) H
       exact hQr _ _ [.bool false, .bool true] _ ⟨rfl, rfl, trivial⟩ H ⟨rfl, hH⟩
      ·refine HT_skip (hK177 _ _ ?_)
       refine HT_region ?_
       refine bn rfl rfl rfl (mv (HL_nil ?_))
       exact hK160 _ _ ⟨kf, Nat.lt_succ_self kf, IntKind.i64.wrap (x129 + 1), H, rfl, hH⟩
    ·refine HT_exit ?_
     exact hK9 _ _ ⟨H, rfl, hH⟩
  ·rintro l' s190 ⟨H, hl, hH⟩
   revert l'
   refine skA ?_
   dsimp only [Al, Sk]
   intros
   replace H := hG9 _ H
   try dsimp only at H
   refine hK7 _ _ ?_
   refine sr fun K191 hK191 => ag ?_
   dsimp only [putL, setL, evL, getL]
   refine ag (HL_nil (hK191 _ _ ?_))
   dsimp only [putL, setL, evL, getL]
   refine HT_ret ?_
   exact hQr _ _ [.bool true, .bool true] _ ⟨rfl, rfl, trivial⟩ H ⟨rfl, hH⟩
def spec_l14Asked.f (p0 : List ((Int) × (List (Int)))) (p1 : List (Int)) : Option Bool := (spec_IsPlain.f p0).bind fun u3 => if u3.2 = true then (if u3.1 = true then ((spec_l1AllRunes.f p1).bind fun u7 => if u7 = true then (some (decide ((p1.length : Int) ≤ 40))) else (some false)) else (some false)) else (some false)
def spec_l14Asked.post (sb s : St) (F0 : Fp) (r : Bool) : Value → St → Prop := fun v s' => v = .bool r ∧ Hp sb s F0 s' []
set_option maxRecDepth 100000 in
set_option maxHeartbeats 4000000 in
theorem spec_l14Asked.ok (sb s : St) (F0 : Fp) (A0p : Option Addr) (c0p : Nat) (p0 : List ((Int) × (List (Int)))) (A1p : Option Addr) (c1p : Nat) (p1 : List (Int)) (HRp0 : Rd KS139 sb A0p c0p p0) (HRp1 : Rd KI sb A1p c1p p1) (hH : Hp sb s F0 s []) (r : Bool) (H : spec_l14Asked.f p0 p1 = some r) : GCall Try.prog 150 #[.slice A0p p0.length c0p, .slice A1p p1.length c1p] s (spec_l14Asked.post sb s F0 r) := by
 refine GCall_ofr (spec_l14Asked.post sb s F0) [.tmp 4] (ud [.slice A0p p0.length c0p, .slice A1p p1.length c1p] 23) Try.func150 rfl rfl rfl fun w Q hQr hQn hQp => ?_
 replace H := topE H
 unfold spec_l14Asked.f at H
 dsimp only [ud, un]
 refine sr fun K1 hK1 => ag (HL_nil (hK1 _ _ ?_))
 dsimp only [putL, setL, evL, getL]
 refine sr fun K2 hK2 => mv ?_
 replace H := headE H
 obtain ⟨u3, hu3, H⟩ := H
 refine hc (o_call (args := #[.slice A0p p0.length c0p]) Try.func128 rfl rfl rfl (spec_IsPlain.ok sb s no A0p c0p p0 HRp0 (Hp.own hH.bs) _ hu3) ?_)
 rintro _ s3 ⟨rfl, hD⟩
 replace hH := hH.back0 hD (Up.refl _ _ _)
 clear hD
 refine mv ?_
 dsimp only [putL, setL, evL, getL]
 refine hc (o_extract rfl rfl (hc (o_extract rfl rfl (ag ?_))))
 dsimp only [putL, setL, evL, getL]
 refine ag (HL_nil (hK2 _ _ ?_))
 dsimp only [putL, setL, evL, getL]
 refine sr fun K4 hK4 => mv (mv ?_)
 revert H
 refine it (fun hb5 H => ?_) (fun hb5 H => ?_)
 ·refine wt rfl rfl rfl rfl hb5 (o_move ?_)
  dsimp only [putL, setL, evL, getL]
  refine hc (o_pickT rfl hb5 (mv ?_))
  revert H
  refine it (fun hb6 H => ?_) (fun hb6 H => ?_)
  ·refine wt rfl rfl rfl rfl hb6 (o_move ?_)
   replace H := headE H
   obtain ⟨u7, hu7, H⟩ := H
   try dsimp only [putL, setL, evL, getL]
   refine wt rfl rfl rfl rfl hb6 (o_call (args := #[.slice A1p p1.length c1p]) Try.func119 rfl rfl rfl (spec_l1AllRunes.ok sb s3 no A1p c1p p1 HRp1 (Hp.own hH.bs) _ hu7) ?_)
   rintro _ s7 ⟨rfl, hD⟩
   replace hH := hH.back0 hD (Up.refl _ _ _)
   clear hD
   refine hc (o_pickT rfl hb6 (mv ?_))
   revert H
   refine it (fun hb8 H => ?_) (fun hb8 H => ?_)
   ·refine wt rfl rfl rfl rfl hb8 (o_move ?_)
    dsimp only [putL, setL, evL, getL]
    refine wt rfl rfl rfl rfl hb8 (o_len rfl Try.underlying24 (wt rfl rfl rfl rfl hb8 (o_bin rfl rfl rfl (hc (o_pickT rfl hb8 ?_)))))
    dsimp only [putL, setL, evL, getL]
    refine ag (HL_nil (hK4 _ _ ?_))
    dsimp only [putL, setL, evL, getL]
    refine HT_ret ?_
    exact hQr _ _ [.bool (decide ((p1.length : Int) ≤ 40))] _ ⟨rfl, trivial⟩ H ⟨rfl, hH⟩
   ·refine wf rfl rfl rfl rfl hb8 (wf rfl rfl rfl rfl hb8 (wf rfl rfl rfl rfl hb8 ?_))
    dsimp only [putL, setL, evL, getL]
    refine hc (o_pickF rfl hb8 (ag (HL_nil (hK4 _ _ ?_))))
    dsimp only [putL, setL, evL, getL]
    refine HT_ret ?_
    exact hQr _ _ [.bool false] _ ⟨rfl, trivial⟩ H ⟨rfl, hH⟩
  ·refine wf rfl rfl rfl rfl hb6 (wf rfl rfl rfl rfl hb6 (hc (o_pickF rfl hb6 ?_)))
   dsimp only [putL, setL, evL, getL]
   refine mv (wf rfl rfl rfl rfl rfl (wf rfl rfl rfl rfl rfl ?_))
   dsimp only [putL, setL, evL, getL]
   refine wf rfl rfl rfl rfl rfl (hc (o_pickF rfl rfl (ag (HL_nil (hK4 _ _ ?_)))))
   dsimp only [putL, setL, evL, getL]
   refine HT_ret ?_
   exact hQr _ _ [.bool false] _ ⟨rfl, trivial⟩ H ⟨rfl, hH⟩
 ·refine wf rfl rfl rfl rfl hb5 (hc (o_pickF rfl hb5 (mv ?_)))
  dsimp only [putL, setL, evL, getL]
  refine wf rfl rfl rfl rfl rfl (wf rfl rfl rfl rfl rfl (hc (o_pickF rfl rfl ?_)))
  dsimp only [putL, setL, evL, getL]
  refine mv (wf rfl rfl rfl rfl rfl (wf rfl rfl rfl rfl rfl ?_))
  dsimp only [putL, setL, evL, getL]
  refine wf rfl rfl rfl rfl rfl (hc (o_pickF rfl rfl (ag (HL_nil (hK4 _ _ ?_)))))
  dsimp only [putL, setL, evL, getL]
  refine HT_ret ?_
  exact hQr _ _ [.bool false] _ ⟨rfl, trivial⟩ H ⟨rfl, hH⟩
def spec_l4In.l1 (p0 : List (Int)) (p1 : Int) : Nat → Int → Option (Lo Unit Bool)
 | 0, _ => none
 | kf + 1, x48 => if (decide (x48 < (p0.length : Int))) = true then ((rd? p0 x48).bind fun u66 => (rd? p0 (IntKind.i64.wrap (x48 + 1))).bind fun u67 => (spec_l1In.f p1 u66 u67).bind fun u68 => if u68 = true then ((some true).bind fun z => some (Lo.ret z)) else (spec_l4In.l1 p0 p1 kf (IntKind.i64.wrap (x48 + 2)))) else (some (Lo.go ()))
def spec_l4In.f (p0 : List (Int)) (p1 : Int) : Option Bool := (spec_l4In.l1 p0 p1 ((((p0.length : Int)) - (0)).toNat + 2) 0).bind fun (o : Lo Unit Bool) => match o with | .go () => (some false) | .ret z => some z
def spec_l4In.post (sb s : St) (F0 : Fp) (r : Bool) : Value → St → Prop := fun v s' => v = .bool r ∧ Hp sb s F0 s' []
set_option maxRecDepth 100000 in
set_option maxHeartbeats 4000000 in
theorem spec_l4In.ok (sb s : St) (F0 : Fp) (A0p : Option Addr) (c0p : Nat) (p0 : List (Int)) (p1 : Int) (HRp0 : Rd KI sb A0p c0p p0) (hH : Hp sb s F0 s []) (r : Bool) (H : spec_l4In.f p0 p1 = some r) : GCall Try.prog 201 #[.slice A0p p0.length c0p, .int .i64 p1] s (spec_l4In.post sb s F0 r) := by
 refine GCall_ofr (spec_l4In.post sb s F0) [.tmp 4] (ud [.slice A0p p0.length c0p, .int .i64 p1] 21) Try.func201 rfl rfl rfl fun w Q hQr hQn hQp => ?_
 replace H := topE H
 unfold spec_l4In.f at H
 dsimp only [ud, un]
 refine sr fun K1 hK1 => ag (HL_nil (hK1 _ _ ?_))
 dsimp only [putL, setL, evL, getL]
 refine HT_seq_k fun K2 hK2 => sr fun K3 hK3 => ag (HL_nil (hK3 _ _ ?_))
 dsimp only [putL, setL, evL, getL]
 refine joinH H fun G4 hG4 H => ?_
 refine HT_toK (fun l' s' => G4 (.go ()) = some r ∧ skim [] l' = ([], 24) ∧ Hp sb s F0 s' []) ?_ ?_
 ·intro K4 hK4
  refine HT_block ?_
  refine HT_loopK (fun kf l' s' => ∃ (x48 : Int), (spec_l4In.l1 p0 p1 kf x48).bind G4 = some r ∧ skim [0, 0, 3] l' = ([.slice A0p p0.length c0p, .int .i64 p1, .int .i64 x48], 18) ∧ Hp sb s F0 s' []) ((((p0.length : Int)) - (0)).toNat + 2) ⟨0, H, rfl, hH⟩ ?_
  rintro kf l' s60 ⟨x48, H, hl, hH⟩ K60 hK60
  revert l'
  refine skA ?_
  dsimp only [Al, Sk]
  intros
  cases kf with
  | zero => simp [spec_l4In.l1] at H
  | succ kf =>
   rw [spec_l4In.l1] at H
   refine HT_seq_k fun K61 hK61 => sr fun K62 hK62 => mv (mv (hc (o_len rfl Try.underlying24 ?_)))
   dsimp only [putL, setL, evL, getL]
   refine bn rfl rfl rfl (HL_nil (hK62 _ _ ?_))
   dsimp only [putL, setL, evL, getL]
   revert H
   refine ct rfl (fun hb63 H => ?_) (fun hb63 H => ?_)
   ·refine HT_skip (hK61 _ _ (HT_seq_k fun K64 hK64 => (HT_block ?_)))
    refine sx hMix fun K65 hK65 => ?_
    refine HX_lim (R := fun _ => True) (k := 0) (fun s' => Gro s60 s') 12 ?_
    have hR := Gro.refl s60
    have hH0 := hH
    refine HK_readP 0 (v := .int .i64 p1) rfl (by kernel_rfl) hQp rfl (fun s' K hK => o_move hK) rfl rfl (fun _ => hR) ?_
    refine HK_readP 1 (v := .slice A0p p0.length c0p) rfl (by kernel_rfl) hQp rfl (fun s' K hK => o_move hK) rfl rfl (fun _ => hR) ?_
    try dsimp only [putL, setL, evL, getL]
    refine HK_readP 2 (v := .int .i64 x48) rfl (by kernel_rfl) hQp rfl (fun s' K hK => o_move hK) rfl rfl (fun _ => hR) ?_
    replace H := headE H
    obtain ⟨u66, hu66, H⟩ := H
    obtain ⟨b66, o66, cs66, hr66, hh66, hel66⟩ := Rd.elb HRp0 hu66
    obtain rfl := hr66
    refine HK_readP 3 (v := .pointer (some ⟨b66, o66, none⟩)) rfl (by kernel_rfl) hQp rfl (fun s' K hK => hel66 s' rfl rfl Try.underlying24 tI3 hK) rfl rfl (fun _ => hR) ?_
    refine HK_read 4 (v := .int .i64 u66) rfl (by kernel_rfl) hQp rfl (fun s' hR' K hK => o_load' rfl Try.underlying3 rfl ((hh66 (hH0.bs.mono.trans hR'.mono)) 0 _ rfl) hK) rfl rfl hR ?_
    try dsimp only [putL, setL, evL, getL]
    refine HK_readP 5 (v := .slice A0p p0.length c0p) rfl (by kernel_rfl) hQp rfl (fun s' K hK => o_move hK) rfl rfl (fun _ => hR) ?_
    refine HK_readP 6 (v := .int .i64 x48) rfl (by kernel_rfl) hQp rfl (fun s' K hK => o_move hK) rfl rfl (fun _ => hR) ?_
    refine HK_readP 7 (v := .int .i64 (IntKind.i64.wrap (x48 + 1))) rfl (by kernel_rfl) hQp rfl (fun s' K hK => o_bin rfl rfl rfl hK) rfl rfl (fun _ => hR) ?_
    replace H := headE H
    obtain ⟨u67, hu67, H⟩ := H
    obtain ⟨b67, o67, cs67, hr67, hh67, hel67⟩ := Rd.elb HRp0 hu67
    obtain rfl := hr67
    try dsimp only [putL, setL, evL, getL]
    refine HK_readP 8 (v := .pointer (some ⟨b67, o67, none⟩)) rfl (by kernel_rfl) hQp rfl (fun s' K hK => hel67 s' rfl rfl Try.underlying24 tI3 hK) rfl rfl (fun _ => hR) ?_
    refine HK_read 9 (v := .int .i64 u67) rfl (by kernel_rfl) hQp rfl (fun s' hR' K hK => o_load' rfl Try.underlying3 rfl ((hh67 (hH0.bs.mono.trans hR'.mono)) 0 _ rfl) hK) rfl rfl hR ?_
    refine HK_more [10] (by kernel_rfl) rfl (fun _ => hR) ⟨⟨_, rfl, Or.inl ⟨rfl, ?_⟩⟩, trivial⟩
    replace H := headE H
    obtain ⟨u68, hu68, H⟩ := H
    skip
    refine o_call (args := #[.int .i64 p1, .int .i64 u66, .int .i64 u67]) Try.func108 rfl rfl rfl (spec_l1In.ok sb s60 no p1 u66 u67 (Hp.own hH.bs) _ hu68) ?_
    rintro _ s68 ⟨rfl, hD⟩
    replace hR := hR.trans hD.gro
    replace hH := hH.back0 hD (Up.refl _ _ _)
    clear hD
    try dsimp only [putL, setL, evL, getL]
    refine HK_done (fun _ => hR) (by kernel_rfl) ?_
    refine hK65 _ _ ?_
    try dsimp only [putL, setL, evL, getL]
    revert H
    refine ct rfl (fun hb69 H => ?_) (fun hb69 H => ?_)
    ·refine sr fun K70 hK70 => ag (HL_nil (hK70 _ _ ?_))
     dsimp only [putL, setL, evL, getL]
     refine HT_ret ?_
     replace H := escH (fun z hz => hG4 _ hz) H
     exact hQr _ _ [.bool true] _ ⟨rfl, trivial⟩ H ⟨rfl, hH⟩
    ·refine HT_skip (hK64 _ _ ?_)
     refine HT_region ?_
     refine mv (bn rfl rfl rfl (ag (HL_nil ?_)))
     exact hK60 _ _ ⟨kf, Nat.lt_succ_self kf, IntKind.i64.wrap (x48 + 2), H, rfl, hH⟩
   ·refine HT_exit ?_
    exact hK4 _ _ ⟨H, rfl, hH⟩
 ·rintro l' s71 ⟨H, hl, hH⟩
  revert l'
  refine skA ?_
  dsimp only [Al, Sk]
  intros
  replace H := hG4 _ H
  try dsimp only at H
  refine hK2 _ _ ?_
  refine sr fun K72 hK72 => ?_
  try dsimp only [putL, setL, evL, getL]
  refine ag (HL_nil (hK72 _ _ ?_))
  dsimp only [putL, setL, evL, getL]
  refine HT_ret ?_
  exact hQr _ _ [.bool false] _ ⟨rfl, trivial⟩ H ⟨rfl, hH⟩
def spec_l5First.l1 (p0 : List ((Int) × (List (Int)))) : Nat → Int → Int → Option Int
 | 0, _, _ => none
 | kf + 1, x39, x40 => if (decide (x39 > 0)) = true then ((rd? p0 x40).bind fun u55 => (spec_l5Arity.f u55.1).bind fun u57 => spec_l5First.l1 p0 kf (IntKind.i64.wrap (x39 + (IntKind.i64.wrap (u57 - 1)))) (IntKind.i64.wrap (x40 - 1))) else (some x40)
def spec_l5First.f (p0 : List ((Int) × (List (Int)))) (p1 : Int) : Option Int := (spec_l5First.l1 p0 (p0.length + 2) 1 (IntKind.i64.wrap (p1 - 1))).bind fun (o : Int) => match o with | x31 => (some x31)
def spec_l5First.post (sb s : St) (F0 : Fp) (r : Int) : Value → St → Prop := fun v s' => v = .int .i64 r ∧ Hp sb s F0 s' []
set_option maxRecDepth 100000 in
set_option maxHeartbeats 4000000 in
theorem spec_l5First.ok (sb s : St) (F0 : Fp) (A0p : Option Addr) (c0p : Nat) (p0 : List ((Int) × (List (Int)))) (p1 : Int) (HRp0 : Rd KS139 sb A0p c0p p0) (hH : Hp sb s F0 s []) (r : Int) (H : spec_l5First.f p0 p1 = some r) : GCall Try.prog 202 #[.slice A0p p0.length c0p, .int .i64 p1] s (spec_l5First.post sb s F0 r) := by
 refine GCall_ofr (spec_l5First.post sb s F0) [.tmp 4] (ud [.slice A0p p0.length c0p, .int .i64 p1] 21) Try.func202 rfl rfl rfl fun w Q hQr hQn hQp => ?_
 replace H := topE H
 unfold spec_l5First.f at H
 dsimp only [ud, un]
 refine sr fun K1 hK1 => ag (HL_nil (hK1 _ _ ?_))
 dsimp only [putL, setL, evL, getL]
 refine sr fun K2 hK2 => ag (HL_nil (hK2 _ _ ?_))
 dsimp only [putL, setL, evL, getL]
 refine sr fun K3 hK3 => mv (bn rfl rfl rfl (ag (HL_nil (hK3 _ _ ?_))))
 dsimp only [putL, setL, evL, getL]
 refine joinH H fun G4 hG4 H => ?_
 refine HT_joinK (fun l' s' => ∃ (x31 : Int), G4 x31 = some r ∧ skim [6] l' = ([.int .i64 x31], 17) ∧ Hp sb s F0 s' []) ?_ ?_
 ·intro K4 hK4
  refine HT_block ?_
  refine HT_loopK (fun kf l' s' => ∃ (x39 : Int) (x40 : Int), (spec_l5First.l1 p0 kf x39 x40).bind G4 = some r ∧ skim [0, 4, 0] l' = ([.slice A0p p0.length c0p, .int .i64 x39, .int .i64 x40], 17) ∧ Hp sb s F0 s' []) (p0.length + 2) ⟨1, IntKind.i64.wrap (p1 - 1), H, rfl, hH⟩ ?_
  rintro kf l' s50 ⟨x39, x40, H, hl, hH⟩ K50 hK50
  revert l'
  refine skA ?_
  dsimp only [Al, Sk]
  intros
  cases kf with
  | zero => simp [spec_l5First.l1] at H
  | succ kf =>
   rw [spec_l5First.l1] at H
   refine HT_seq_k fun K51 hK51 => sr fun K52 hK52 => mv (bn rfl rfl rfl (HL_nil (hK52 _ _ ?_)))
   dsimp only [putL, setL, evL, getL]
   revert H
   refine ct rfl (fun hb53 H => ?_) (fun hb53 H => ?_)
   ·refine HT_skip (hK51 _ _ (HT_block (sr fun K54 hK54 => (mv (mv (mv ?_))))))
    replace H := headE H
    obtain ⟨u55, hu55, H⟩ := H
    obtain ⟨b55, o55, cs55, hr55, hh55, hel55⟩ := Rd.elb HRp0 hu55
    obtain ⟨_, _, rfl, rfl, ⟨A56, c56, rfl, D56⟩⟩ := hr55
    try dsimp only [putL, setL, evL, getL]
    refine hc (hel55 s50 rfl rfl Try.underlying57 tI139 (hc (o_faddr' (ft := 3) (off := 0) rfl Try.underlying139 rfl tI3 (by decide) (hc (o_load' rfl Try.underlying3 rfl ((hh55 hH.bs.mono) 0 _ rfl) ?_)))))
    replace H := headE H
    obtain ⟨u57, hu57, H⟩ := H
    try dsimp only [putL, setL, evL, getL]
    refine hc (o_call (args := #[.int .i64 u55.1]) Try.func223 rfl rfl rfl (spec_l5Arity.ok sb s50 no u55.1 (Hp.own hH.bs) _ hu57) ?_)
    rintro _ s57 ⟨rfl, hD⟩
    replace hH := hH.back0 hD (Up.refl _ _ _)
    clear hD
    refine bn rfl rfl rfl (bn rfl rfl rfl ?_)
    dsimp only [putL, setL, evL, getL]
    refine ag (HL_nil (hK54 _ _ ?_))
    dsimp only [putL, setL, evL, getL]
    refine HT_region ?_
    refine mv (bn rfl rfl rfl (ag (HL_nil ?_)))
    exact hK50 _ _ ⟨kf, Nat.lt_succ_self kf, IntKind.i64.wrap (x39 + (IntKind.i64.wrap (u57 - 1))), IntKind.i64.wrap (x40 - 1), H, rfl, hH⟩
   ·refine HT_exit ?_
    exact hK4 _ _ ⟨x40, H, rfl, hH⟩
 ·rintro l' s58 ⟨x31, H, hl, hH⟩
  revert l'
  refine skA ?_
  dsimp only [Al, Sk]
  intros
  replace H := hG4 _ H
  try dsimp only at H
  refine sr fun K59 hK59 => ?_
  try dsimp only [putL, setL, evL, getL]
  refine mv (ag (HL_nil (hK59 _ _ ?_)))
  dsimp only [putL, setL, evL, getL]
  refine HT_ret ?_
  exact hQr _ _ [.int .i64 x31] _ ⟨rfl, trivial⟩ H ⟨rfl, hH⟩
def spec_l14Check.l1 (p0 : List ((Int) × (List (Int)))) (p1 : List (Int)) (p3 : Int) (self : (List ((Int) × (List (Int)))) → (List (Int)) → (List ((Int) × (Int) × (Int))) → Int → Int → Option ((List ((Int) × (Int) × (Int))) × Int × Bool)) (u43 : (Int) × (Int) × (Int)) : Nat → (List ((Int) × (Int) × (Int))) → Int → Option (Lo ((List ((Int) × (Int) × (Int))) × Int) ((List ((Int) × (Int) × (Int))) × Int × Bool))
 | 0, _, _ => none
 | kf + 1, x210, x211 => if (decide (x211 < u43.2.2)) = true then ((self p0 p1 x210 (IntKind.i64.wrap (p3 - 1)) x211).bind fun u242 => (if (!u242.2.2) = true then (some true) else (some (u242.2.1 == x211))).bind fun (o : Bool) => match o with | x255 => (if x255 = true then ((some ([], 0, false)).bind fun z => some (Lo.ret z)) else (spec_l14Check.l1 p0 p1 p3 self u43 kf u242.1 u242.2.1))) else (some (Lo.go (x210, x211)))
def spec_l14Check.b (self : (List ((Int) × (List (Int)))) → (List (Int)) → (List ((Int) × (Int) × (Int))) → Int → Int → Option ((List ((Int) × (Int) × (Int))) × Int × Bool)) (p0 : List ((Int) × (List (Int)))) (p1 : List (Int)) (p2 : List ((Int) × (Int) × (Int))) (p3 : Int) (p4 : Int) : Option ((List ((Int) × (Int) × (Int))) × Int × Bool) := (if ((p2.length : Int) == 0) = true then (some true) else ((rd? p2 0).bind fun u33 => if (u33.1 != p3) = true then (some true) else ((rd? p2 0).bind fun u35 => if (u35.2.1 != p4) = true then (some true) else ((rd? p2 0).bind fun u37 => (spec_l1In.f u37.2.2 p4 (p1.length : Int)).bind fun u38 => some (!u38))))).bind fun (o : Bool) => match o with | x31 => (if x31 = true then (some ([], 0, false)) else ((rd? p2 0).bind fun u43 => (cut? p2 1 (p2.length : Int)).bind fun x45 => (rd? p0 p3).bind fun u48 => if (u48.1 == 1) = true then (some (x45, u43.2.2, (p4 == u43.2.2))) else (if (u48.1 == 2) = true then (if (u43.2.2 == (IntKind.i64.wrap (p4 + 1))) = true then ((rd? p0 p3).bind fun u57 => (rd? p1 p4).bind fun u59 => (spec_l4In.f u57.2 u59).bind fun u60 => some (x45, u43.2.2, u60)) else (some (x45, u43.2.2, false))) else (if (u48.1 == 4) = true then (((if (decide ((x45.length : Int) > 0)) = true then ((rd? x45 0).bind fun u83 => (spec_l5First.f p0 p3).bind fun u84 => some (u83.1 == u84)) else (some false)).bind fun (o : Bool) => match o with | x81 => (if x81 = true then ((spec_l5First.f p0 p3).bind fun u87 => some u87) else (some (IntKind.i64.wrap (p3 - 1))))).bind fun (o : Int) => match o with | x76 => ((self p0 p1 x45 x76 p4).bind fun u90 => if u90.2.2 = true then (some (u90.1, u43.2.2, (u90.2.1 == u43.2.2))) else (some (u90.1, u43.2.2, false)))) else (if (u48.1 == 3) = true then ((spec_l5First.f p0 p3).bind fun u97 => (self p0 p1 x45 u97 p4).bind fun u98 => if (!u98.2.2) = true then (some ([], 0, false)) else ((self p0 p1 u98.1 (IntKind.i64.wrap (p3 - 1)) u98.2.1).bind fun u105 => if u105.2.2 = true then (some (u105.1, u43.2.2, (u105.2.1 == u43.2.2))) else (some (u105.1, u43.2.2, false)))) else ((spec_l14Check.l1 p0 p1 p3 self u43 (((u43.2.2) - (p4)).toNat + 2) x45 p4).bind fun (o : Lo ((List ((Int) × (Int) × (Int))) × Int) ((List ((Int) × (Int) × (Int))) × Int × Bool)) => match o with | .go (x185, x186) => (some (x185, u43.2.2, (x186 == u43.2.2))) | .ret z => some z))))))
def spec_l14Check.r : Nat → (List ((Int) × (List (Int)))) → (List (Int)) → (List ((Int) × (Int) × (Int))) → Int → Int → Option ((List ((Int) × (Int) × (Int))) × Int × Bool)
 | 0, _, _, _, _, _ => none
 | kr + 1, p0, p1, p2, p3, p4 => spec_l14Check.b (spec_l14Check.r kr) p0 p1 p2 p3 p4
def spec_l14Check.f (p0 : List ((Int) × (List (Int)))) (p1 : List (Int)) (p2 : List ((Int) × (Int) × (Int))) (p3 : Int) (p4 : Int) : Option ((List ((Int) × (Int) × (Int))) × Int × Bool) := spec_l14Check.r (p3.toNat + 2) p0 p1 p2 p3 p4
def spec_l14Check.post (sb s : St) (F0 : Fp) (r : (List ((Int) × (Int) × (Int))) × Int × Bool) : Value → St → Prop := fun v s' => ∃ (A0 : Option Addr) (c0 : Nat), v = .tuple #[.slice A0 r.1.length c0, .int .i64 r.2.1, .bool r.2.2] ∧ Hp sb s F0 s' [] ∧ Rd KS138 sb A0 c0 r.1
set_option maxRecDepth 100000 in
set_option maxHeartbeats 4000000 in
theorem spec_l14Check.okb (self : (List ((Int) × (List (Int)))) → (List (Int)) → (List ((Int) × (Int) × (Int))) → Int → Int → Option ((List ((Int) × (Int) × (Int))) × Int × Bool)) (ih : ∀ (sb s : St) (F0 : Fp) (A0p : Option Addr) (c0p : Nat) (p0 : List ((Int) × (List (Int)))) (A1p : Option Addr) (c1p : Nat) (p1 : List (Int)) (A2p : Option Addr) (c2p : Nat) (p2 : List ((Int) × (Int) × (Int))) (p3 : Int) (p4 : Int) (HRp0 : Rd KS139 sb A0p c0p p0) (HRp1 : Rd KI sb A1p c1p p1) (HRp2 : Rd KS138 sb A2p c2p p2) (hH : Hp sb s F0 s []) (r : (List ((Int) × (Int) × (Int))) × Int × Bool) (H : self p0 p1 p2 p3 p4 = some r), GCall Try.prog 154 #[.slice A0p p0.length c0p, .slice A1p p1.length c1p, .slice A2p p2.length c2p, .int .i64 p3, .int .i64 p4] s (spec_l14Check.post sb s F0 r)) (sb s : St) (F0 : Fp) (A0p : Option Addr) (c0p : Nat) (p0 : List ((Int) × (List (Int)))) (A1p : Option Addr) (c1p : Nat) (p1 : List (Int)) (A2p : Option Addr) (c2p : Nat) (p2 : List ((Int) × (Int) × (Int))) (p3 : Int) (p4 : Int) (HRp0 : Rd KS139 sb A0p c0p p0) (HRp1 : Rd KI sb A1p c1p p1) (HRp2 : Rd KS138 sb A2p c2p p2) (hH : Hp sb s F0 s []) (r : (List ((Int) × (Int) × (Int))) × Int × Bool) (H : spec_l14Check.b self p0 p1 p2 p3 p4 = some r) : GCall Try.prog 154 #[.slice A0p p0.length c0p, .slice A1p p1.length c1p, .slice A2p p2.length c2p, .int .i64 p3, .int .i64 p4] s (spec_l14Check.post sb s F0 r) := by
 refine GCall_ofr (spec_l14Check.post sb s F0) [.tmp 10, .tmp 11, .tmp 12] (ud [.slice A0p p0.length c0p, .slice A1p p1.length c1p, .slice A2p p2.length c2p, .int .i64 p3, .int .i64 p4] 194) Try.func154 rfl rfl rfl fun w Q hQr hQn hQp => ?_
 replace H := topE H
 unfold spec_l14Check.b at H
 dsimp only [ud, un]
 refine sr fun K1 hK1 => ag (ag (ag (HL_nil (hK1 _ _ ?_))))
 dsimp only [putL, setL, evL, getL]
 refine HT_seq_k fun K22 hK22 => ?_
 refine joinH H fun G23 hG23 H => ?_
 refine HT_joinK (fun l' s' => ∃ (x31 : Bool), G23 x31 = some r ∧ skim [0, 0, 0, 0, 0, 53] l' = ([.slice A0p p0.length c0p, .slice A1p p1.length c1p, .slice A2p p2.length c2p, .int .i64 p3, .int .i64 p4, .bool x31], 141) ∧ Hp sb s F0 s' []) ?_ ?_
 ·intro K23 hK23
  refine HT_region ?_
  refine mv (hc (o_len rfl Try.underlying54 (bn rfl rfl rfl ?_)))
  dsimp only [putL, setL, evL, getL]
  refine mv ?_
  revert H
  refine it (fun hb32 H => ?_) (fun hb32 H => ?_)
  ·refine wf rfl rfl rfl rfl hb32 (wf rfl rfl rfl rfl hb32 ?_)
   dsimp only [putL, setL, evL, getL]
   refine wf rfl rfl rfl rfl hb32 (wf rfl rfl rfl rfl hb32 (wf rfl rfl rfl rfl hb32 ?_))
   dsimp only [putL, setL, evL, getL]
   refine wf rfl rfl rfl rfl hb32 (hc (o_pickT rfl hb32 (mv ?_)))
   dsimp only [putL, setL, evL, getL]
   refine wf rfl rfl rfl rfl rfl (wf rfl rfl rfl rfl rfl (wf rfl rfl rfl rfl rfl ?_))
   dsimp only [putL, setL, evL, getL]
   refine wf rfl rfl rfl rfl rfl (wf rfl rfl rfl rfl rfl (wf rfl rfl rfl rfl rfl ?_))
   dsimp only [putL, setL, evL, getL]
   refine hc (o_pickT rfl rfl (mv (wf rfl rfl rfl rfl rfl ?_)))
   dsimp only [putL, setL, evL, getL]
   refine wf rfl rfl rfl rfl rfl (wf rfl rfl rfl rfl rfl (wf rfl rfl rfl rfl rfl ?_))
   dsimp only [putL, setL, evL, getL]
   refine wf rfl rfl rfl rfl rfl (wf rfl rfl rfl rfl rfl (wf rfl rfl rfl rfl rfl ?_))
   dsimp only [putL, setL, evL, getL]
   refine wf rfl rfl rfl rfl rfl (wf rfl rfl rfl rfl rfl (hc (o_pickT rfl rfl (HL_nil ?_))))
   exact hK23 _ _ ⟨true, H, rfl, hH⟩
  ·refine wt rfl rfl rfl rfl hb32 (o_move ?_)
   replace H := headE H
   obtain ⟨u33, hu33, H⟩ := H
   obtain ⟨b33, o33, cs33, hr33, hh33, hel33⟩ := Rd.elb HRp2 hu33
   obtain ⟨_, _, rfl, rfl, ⟨_, _, rfl, rfl, rfl⟩⟩ := hr33
   try dsimp only [putL, setL, evL, getL]
   refine wt rfl rfl rfl rfl hb32 (hel33 s rfl rfl Try.underlying54 tI138 (wt rfl rfl rfl rfl hb32 (o_faddr' (ft := 3) (off := 0) rfl Try.underlying138 rfl tI3 (by decide) (wt rfl rfl rfl rfl hb32 (o_load' rfl Try.underlying3 rfl ((hh33 hH.bs.mono) 0 _ rfl) ?_)))))
   dsimp only [putL, setL, evL, getL]
   refine wt rfl rfl rfl rfl hb32 (o_move (wt rfl rfl rfl rfl hb32 (o_bin rfl rfl rfl (hc (o_pickF rfl hb32 ?_)))))
   dsimp only [putL, setL, evL, getL]
   refine mv ?_
   revert H
   refine it (fun hb34 H => ?_) (fun hb34 H => ?_)
   ·refine wf rfl rfl rfl rfl hb34 (wf rfl rfl rfl rfl hb34 ?_)
    dsimp only [putL, setL, evL, getL]
    refine wf rfl rfl rfl rfl hb34 (wf rfl rfl rfl rfl hb34 (wf rfl rfl rfl rfl hb34 ?_))
    dsimp only [putL, setL, evL, getL]
    refine wf rfl rfl rfl rfl hb34 (hc (o_pickT rfl hb34 (mv ?_)))
    dsimp only [putL, setL, evL, getL]
    refine wf rfl rfl rfl rfl rfl (wf rfl rfl rfl rfl rfl (wf rfl rfl rfl rfl rfl ?_))
    dsimp only [putL, setL, evL, getL]
    refine wf rfl rfl rfl rfl rfl (wf rfl rfl rfl rfl rfl (wf rfl rfl rfl rfl rfl ?_))
    dsimp only [putL, setL, evL, getL]
    refine wf rfl rfl rfl rfl rfl (wf rfl rfl rfl rfl rfl (wf rfl rfl rfl rfl rfl ?_))
    dsimp only [putL, setL, evL, getL]
    refine hc (o_pickT rfl rfl (HL_nil ?_))
    exact hK23 _ _ ⟨true, H, rfl, hH⟩
   ·refine wt rfl rfl rfl rfl hb34 (o_move ?_)
    replace H := headE H
    obtain ⟨u35, hu35, H⟩ := H
    obtain ⟨b35, o35, cs35, hr35, hh35, hel35⟩ := Rd.elb HRp2 hu35
    obtain ⟨_, _, rfl, rfl, ⟨_, _, rfl, rfl, rfl⟩⟩ := hr35
    refine wt rfl rfl rfl rfl hb34 (hel35 s rfl rfl Try.underlying54 tI138 ?_)
    dsimp only [putL, setL, evL, getL]
    refine wt rfl rfl rfl rfl hb34 (o_faddr' (ft := 3) (off := 1) rfl Try.underlying138 rfl tI3 (by decide) (wt rfl rfl rfl rfl hb34 (o_load' rfl Try.underlying3 rfl ((hh35 hH.bs.mono) 1 _ rfl) (wt rfl rfl rfl rfl hb34 (o_move ?_)))))
    dsimp only [putL, setL, evL, getL]
    refine wt rfl rfl rfl rfl hb34 (o_bin rfl rfl rfl (hc (o_pickF rfl hb34 (mv ?_))))
    revert H
    refine it (fun hb36 H => ?_) (fun hb36 H => ?_)
    ·refine wf rfl rfl rfl rfl hb36 ?_
     dsimp only [putL, setL, evL, getL]
     refine wf rfl rfl rfl rfl hb36 (wf rfl rfl rfl rfl hb36 (wf rfl rfl rfl rfl hb36 ?_))
     dsimp only [putL, setL, evL, getL]
     refine wf rfl rfl rfl rfl hb36 (wf rfl rfl rfl rfl hb36 (wf rfl rfl rfl rfl hb36 ?_))
     dsimp only [putL, setL, evL, getL]
     refine wf rfl rfl rfl rfl hb36 (wf rfl rfl rfl rfl hb36 (hc (o_pickT rfl hb36 (HL_nil ?_))))
     exact hK23 _ _ ⟨true, H, rfl, hH⟩
    ·refine wt rfl rfl rfl rfl hb36 (o_move ?_)
     replace H := headE H
     obtain ⟨u37, hu37, H⟩ := H
     obtain ⟨b37, o37, cs37, hr37, hh37, hel37⟩ := Rd.elb HRp2 hu37
     obtain ⟨_, _, rfl, rfl, ⟨_, _, rfl, rfl, rfl⟩⟩ := hr37
     try dsimp only [putL, setL, evL, getL]
     refine wt rfl rfl rfl rfl hb36 (hel37 s rfl rfl Try.underlying54 tI138 (wt rfl rfl rfl rfl hb36 (o_faddr' (ft := 3) (off := 2) rfl Try.underlying138 rfl tI3 (by decide) (wt rfl rfl rfl rfl hb36 (o_load' rfl Try.underlying3 rfl ((hh37 hH.bs.mono) 2 _ rfl) ?_)))))
     dsimp only [putL, setL, evL, getL]
     refine wt rfl rfl rfl rfl hb36 (o_move (wt rfl rfl rfl rfl hb36 (o_move (wt rfl rfl rfl rfl hb36 (o_len rfl Try.underlying24 ?_)))))
     replace H := headE H
     obtain ⟨u38, hu38, H⟩ := H
     try dsimp only [putL, setL, evL, getL]
     refine wt rfl rfl rfl rfl hb36 (o_call (args := #[.int .i64 u37.2.2, .int .i64 p4, .int .i64 (p1.length : Int)]) Try.func108 rfl rfl rfl (spec_l1In.ok sb s no u37.2.2 p4 (p1.length : Int) (Hp.own hH.bs) _ hu38) ?_)
     rintro _ s38 ⟨rfl, hD⟩
     replace hH := hH.back0 hD (Up.refl _ _ _)
     clear hD
     refine wt rfl rfl rfl rfl hb36 (o_not rfl (hc (o_pickF rfl hb36 (HL_nil ?_))))
     exact hK23 _ _ ⟨!u38, H, rfl, hH⟩
 ·rintro l' s39 ⟨x31, H, hl, hH⟩
  revert l'
  refine skA ?_
  dsimp only [Al, Sk]
  intros
  replace H := hG23 _ H
  try dsimp only at H
  revert H
  refine ct rfl (fun hb40 H => ?_) (fun hb40 H => ?_)
  ·refine sr fun K41 hK41 => ?_
   try dsimp only [putL, setL, evL, getL]
   refine ag (ag (ag (HL_nil (hK41 _ _ ?_))))
   dsimp only [putL, setL, evL, getL]
   refine HT_ret ?_
   exact hQr _ _ [.slice none 0 0, .int .i64 0, .bool false] _ ⟨rfl, rfl, rfl, trivial⟩ H ⟨none, 0, rfl, hH, Rd.nil _ _⟩
  ·refine HT_skip (hK22 _ _ (sr fun K42 hK42 => (mv ?_)))
   replace H := headE H
   obtain ⟨u43, hu43, H⟩ := H
   obtain ⟨b43, o43, cs43, hr43, hh43, hel43⟩ := Rd.elb HRp2 hu43
   obtain ⟨_, _, rfl, rfl, ⟨_, _, rfl, rfl, rfl⟩⟩ := hr43
   refine hc (hel43 s39 rfl rfl Try.underlying54 tI138 (hc (o_faddr' (ft := 3) (off := 2) rfl Try.underlying138 rfl tI3 (by decide) ?_)))
   dsimp only [putL, setL, evL, getL]
   refine hc (o_load' rfl Try.underlying3 rfl ((hh43 hH.bs.mono) 2 _ rfl) (ag (HL_nil (hK42 _ _ ?_))))
   dsimp only [putL, setL, evL, getL]
   refine sr fun K44 hK44 => mv ?_
   replace H := headE H
   obtain ⟨x45, hx45, H⟩ := H
   refine hc (o_cutA (xs := p2) (kl := .i64) (kh := .i64) (L := 1) (H := (p2.length : Int)) rfl rfl rfl Try.underlying54 tI138 HRp2.1 hx45 ?_)
   have D45 := HRp2.cut hx45
   refine ag (HL_nil (hK44 _ _ ?_))
   dsimp only [putL, setL, evL, getL]
   refine HT_seq_k fun K46 hK46 => sr fun K47 hK47 => mv (mv ?_)
   replace H := headE H
   obtain ⟨u48, hu48, H⟩ := H
   obtain ⟨b48, o48, cs48, hr48, hh48, hel48⟩ := Rd.elb HRp0 hu48
   obtain ⟨_, _, rfl, rfl, ⟨A49, c49, rfl, D49⟩⟩ := hr48
   refine hc (hel48 s39 rfl rfl Try.underlying57 tI139 ?_)
   dsimp only [putL, setL, evL, getL]
   refine hc (o_faddr' (ft := 3) (off := 0) rfl Try.underlying139 rfl tI3 (by decide) (hc (o_load' rfl Try.underlying3 rfl ((hh48 hH.bs.mono) 0 _ rfl) (HL_nil (hK47 _ _ ?_)))))
   dsimp only [putL, setL, evL, getL]
   refine HT_block (sr fun K50 hK50 => (bn rfl rfl rfl (ag (HL_nil (hK50 _ _ ?_)))))
   dsimp only [putL, setL, evL, getL]
   revert H
   refine ct rfl (fun hb51 H => ?_) (fun hb51 H => ?_)
   ·refine sr fun K52 hK52 => mv (mv (mv ?_))
    dsimp only [putL, setL, evL, getL]
    refine mv (bn rfl rfl rfl (ag ?_))
    dsimp only [putL, setL, evL, getL]
    refine ag (ag (HL_nil (hK52 _ _ ?_)))
    dsimp only [putL, setL, evL, getL]
    refine HT_ret ?_
    exact hQr _ _ [.slice (cutA A2p c2p (Int.toNat 1) (Kd.sz KS138)) x45.length (c2p - Int.toNat 1), .int .i64 u43.2.2, .bool (p4 == u43.2.2)] _ ⟨rfl, rfl, rfl, trivial⟩ H ⟨(cutA A2p c2p (Int.toNat 1) (Kd.sz KS138)), c2p - Int.toNat 1, rfl, hH, D45⟩
   ·refine sr fun K53 hK53 => bn rfl rfl rfl (ag (HL_nil (hK53 _ _ ?_)))
    dsimp only [putL, setL, evL, getL]
    revert H
    refine ct rfl (fun hb54 H => ?_) (fun hb54 H => ?_)
    ·refine sx hMix fun K55 hK55 => ?_
     refine HX_lim (R := fun _ => True) (k := 0) (fun s' => Gro s39 s') 22 ?_
     have hR := Gro.refl s39
     have hH0 := hH
     refine HK_readP 0 (v := .slice (cutA A2p c2p (Int.toNat 1) (Kd.sz KS138)) x45.length (c2p - Int.toNat 1)) rfl (by kernel_rfl) hQp rfl (fun s' K hK => o_move hK) rfl rfl (fun _ => hR) ?_
     refine HK_readP 1 (v := .int .i64 u43.2.2) rfl (by kernel_rfl) hQp rfl (fun s' K hK => o_move hK) rfl rfl (fun _ => hR) ?_
     try dsimp only [putL, setL, evL, getL]
     refine HK_readP 2 (v := .int .i64 u43.2.2) rfl (by kernel_rfl) hQp rfl (fun s' K hK => o_move hK) rfl rfl (fun _ => hR) ?_
     refine HK_readP 3 (v := .int .i64 p4) rfl (by kernel_rfl) hQp rfl (fun s' K hK => o_move hK) rfl rfl (fun _ => hR) ?_
     refine HK_readP 4 (v := .int .i64 (IntKind.i64.wrap (p4 + 1))) rfl (by kernel_rfl) hQp rfl (fun s' K hK => o_bin rfl rfl rfl hK) rfl rfl (fun _ => hR) ?_
     try dsimp only [putL, setL, evL, getL]
     refine HK_readP 5 (v := .bool (u43.2.2 == (IntKind.i64.wrap (p4 + 1)))) rfl (by kernel_rfl) hQp rfl (fun s' K hK => o_bin rfl rfl rfl hK) rfl rfl (fun _ => hR) ?_
     refine HK_readP 6 (v := .bool (u43.2.2 == (IntKind.i64.wrap (p4 + 1)))) rfl (by kernel_rfl) hQp rfl (fun s' K hK => o_move hK) rfl rfl (fun _ => hR) ?_
     revert H
     refine it (fun hb56 H => ?_) (fun hb56 H => ?_)
     ·refine HK_readP 7 (v := .slice A0p p0.length c0p) rfl (by kernel_rfl) hQp (wantT (j := 6) (b := true) (t := 85) (c := u43.2.2 == (IntKind.i64.wrap (p4 + 1))) rfl rfl rfl rfl hb56) (fun s' K hK => o_move hK) rfl rfl (fun _ => hR) ?_
      try dsimp only [putL, setL, evL, getL]
      refine HK_readP 8 (v := .int .i64 p3) rfl (by kernel_rfl) hQp (wantT (j := 6) (b := true) (t := 85) (c := u43.2.2 == (IntKind.i64.wrap (p4 + 1))) rfl rfl rfl rfl hb56) (fun s' K hK => o_move hK) rfl rfl (fun _ => hR) ?_
      replace H := headE H
      obtain ⟨u57, hu57, H⟩ := H
      obtain ⟨b57, o57, cs57, hr57, hh57, hel57⟩ := Rd.elb HRp0 hu57
      obtain ⟨_, _, rfl, rfl, ⟨A58, c58, rfl, D58⟩⟩ := hr57
      refine HK_readP 9 (v := .pointer (some ⟨b57, o57, none⟩)) rfl (by kernel_rfl) hQp (wantT (j := 6) (b := true) (t := 85) (c := u43.2.2 == (IntKind.i64.wrap (p4 + 1))) rfl rfl rfl rfl hb56) (fun s' K hK => hel57 s' rfl rfl Try.underlying57 tI139 hK) rfl rfl (fun _ => hR) ?_
      refine HK_readP 10 (v := .pointer (some ⟨b57, o57 + 1, none⟩)) rfl (by kernel_rfl) hQp (wantT (j := 6) (b := true) (t := 85) (c := u43.2.2 == (IntKind.i64.wrap (p4 + 1))) rfl rfl rfl rfl hb56) (fun s' K hK => o_faddr' (ft := 24) (off := 1) rfl Try.underlying139 rfl tI24 (by decide) hK) rfl rfl (fun _ => hR) ?_
      try dsimp only [putL, setL, evL, getL]
      refine HK_read 11 (v := .slice A58 u57.2.length c58) rfl (by kernel_rfl) hQp (wantT (j := 6) (b := true) (t := 85) (c := u43.2.2 == (IntKind.i64.wrap (p4 + 1))) rfl rfl rfl rfl hb56) (fun s' hR' K hK => o_load' rfl Try.underlying24 rfl ((hh57 (hH0.bs.mono.trans hR'.mono)) 1 _ rfl) hK) rfl rfl hR ?_
      refine HK_readP 12 (v := .slice A1p p1.length c1p) rfl (by kernel_rfl) hQp (wantT (j := 6) (b := true) (t := 85) (c := u43.2.2 == (IntKind.i64.wrap (p4 + 1))) rfl rfl rfl rfl hb56) (fun s' K hK => o_move hK) rfl rfl (fun _ => hR) ?_
      refine HK_readP 13 (v := .int .i64 p4) rfl (by kernel_rfl) hQp (wantT (j := 6) (b := true) (t := 85) (c := u43.2.2 == (IntKind.i64.wrap (p4 + 1))) rfl rfl rfl rfl hb56) (fun s' K hK => o_move hK) rfl rfl (fun _ => hR) ?_
      replace H := headE H
      obtain ⟨u59, hu59, H⟩ := H
      obtain ⟨b59, o59, cs59, hr59, hh59, hel59⟩ := Rd.elb HRp1 hu59
      obtain rfl := hr59
      try dsimp only [putL, setL, evL, getL]
      refine HK_readP 14 (v := .pointer (some ⟨b59, o59, none⟩)) rfl (by kernel_rfl) hQp (wantT (j := 6) (b := true) (t := 85) (c := u43.2.2 == (IntKind.i64.wrap (p4 + 1))) rfl rfl rfl rfl hb56) (fun s' K hK => hel59 s' rfl rfl Try.underlying24 tI3 hK) rfl rfl (fun _ => hR) ?_
      refine HK_read 15 (v := .int .i64 u59) rfl (by kernel_rfl) hQp (wantT (j := 6) (b := true) (t := 85) (c := u43.2.2 == (IntKind.i64.wrap (p4 + 1))) rfl rfl rfl rfl hb56) (fun s' hR' K hK => o_load' rfl Try.underlying3 rfl ((hh59 (hH0.bs.mono.trans hR'.mono)) 0 _ rfl) hK) rfl rfl hR ?_
      refine HK_more [16] (by kernel_rfl) rfl (fun _ => hR) ⟨⟨_, rfl, Or.inl ⟨(wantT (j := 6) (b := true) (t := 85) (c := u43.2.2 == (IntKind.i64.wrap (p4 + 1))) rfl rfl rfl rfl hb56), ?_⟩⟩, trivial⟩
      replace H := headE H
      obtain ⟨u60, hu60, H⟩ := H
      skip
      refine o_call (args := #[.slice A58 u57.2.length c58, .int .i64 u59]) Try.func201 rfl rfl rfl (spec_l4In.ok sb s39 no A58 c58 u57.2 u59 D58 (Hp.own hH.bs) _ hu60) ?_
      rintro _ s60 ⟨rfl, hD⟩
      replace hR := hR.trans hD.gro
      replace hH := hH.back0 hD (Up.refl _ _ _)
      clear hD
      try dsimp only [putL, setL, evL, getL]
      refine HK_readP 17 (v := .bool u60) rfl (by kernel_rfl) hQp rfl (fun s' K hK => o_pickT rfl hb56 hK) rfl rfl (fun _ => hR) ?_
      refine HK_more [18] (by kernel_rfl) rfl (fun _ => hR) ⟨⟨_, rfl, Or.inl ⟨rfl, ?_⟩⟩, trivial⟩
      skip
      refine o_assign ?_
      refine HK_more [19] (by kernel_rfl) rfl (fun _ => hR) ⟨⟨_, rfl, Or.inl ⟨rfl, ?_⟩⟩, trivial⟩
      skip
      refine o_assign ?_
      try dsimp only [putL, setL, evL, getL]
      refine HK_more [20] (by kernel_rfl) rfl (fun _ => hR) ⟨⟨_, rfl, Or.inl ⟨rfl, ?_⟩⟩, trivial⟩
      skip
      refine o_assign ?_
      refine HK_done (fun _ => hR) (by kernel_rfl) ?_
      refine hK55 _ _ ?_
      try dsimp only [putL, setL, evL, getL]
      refine HT_ret ?_
      exact hQr _ _ [.slice (cutA A2p c2p (Int.toNat 1) (Kd.sz KS138)) x45.length (c2p - Int.toNat 1), .int .i64 u43.2.2, .bool u60] _ ⟨rfl, rfl, rfl, trivial⟩ H ⟨(cutA A2p c2p (Int.toNat 1) (Kd.sz KS138)), c2p - Int.toNat 1, rfl, hH, D45⟩
     ·refine HK_passP 7 rfl (by kernel_rfl) (fun c l s h => hQp c l s h) ?_ (fun _ => hR) ?_
      ·exact wantF (j := 6) (b := true) (t := 85) (c := u43.2.2 == (IntKind.i64.wrap (p4 + 1))) rfl rfl rfl rfl hb56
      refine HK_passP 8 rfl (by kernel_rfl) (fun c l s h => hQp c l s h) ?_ (fun _ => hR) ?_
      ·exact wantF (j := 6) (b := true) (t := 85) (c := u43.2.2 == (IntKind.i64.wrap (p4 + 1))) rfl rfl rfl rfl hb56
      refine HK_passP 9 rfl (by kernel_rfl) (fun c l s h => hQp c l s h) ?_ (fun _ => hR) ?_
      ·exact wantF (j := 6) (b := true) (t := 85) (c := u43.2.2 == (IntKind.i64.wrap (p4 + 1))) rfl rfl rfl rfl hb56
      try dsimp only [putL, setL, evL, getL]
      refine HK_passP 10 rfl (by kernel_rfl) (fun c l s h => hQp c l s h) ?_ (fun _ => hR) ?_
      ·exact wantF (j := 6) (b := true) (t := 85) (c := u43.2.2 == (IntKind.i64.wrap (p4 + 1))) rfl rfl rfl rfl hb56
      refine HK_passP 11 rfl (by kernel_rfl) (fun c l s h => hQp c l s h) ?_ (fun _ => hR) ?_
      ·exact wantF (j := 6) (b := true) (t := 85) (c := u43.2.2 == (IntKind.i64.wrap (p4 + 1))) rfl rfl rfl rfl hb56
      refine HK_passP 12 rfl (by kernel_rfl) (fun c l s h => hQp c l s h) ?_ (fun _ => hR) ?_
      ·exact wantF (j := 6) (b := true) (t := 85) (c := u43.2.2 == (IntKind.i64.wrap (p4 + 1))) rfl rfl rfl rfl hb56
      try dsimp only [putL, setL, evL, getL]
      refine HK_passP 13 rfl (by kernel_rfl) (fun c l s h => hQp c l s h) ?_ (fun _ => hR) ?_
      ·exact wantF (j := 6) (b := true) (t := 85) (c := u43.2.2 == (IntKind.i64.wrap (p4 + 1))) rfl rfl rfl rfl hb56
      refine HK_passP 14 rfl (by kernel_rfl) (fun c l s h => hQp c l s h) ?_ (fun _ => hR) ?_
      ·exact wantF (j := 6) (b := true) (t := 85) (c := u43.2.2 == (IntKind.i64.wrap (p4 + 1))) rfl rfl rfl rfl hb56
      refine HK_passP 15 rfl (by kernel_rfl) (fun c l s h => hQp c l s h) ?_ (fun _ => hR) ?_
      ·exact wantF (j := 6) (b := true) (t := 85) (c := u43.2.2 == (IntKind.i64.wrap (p4 + 1))) rfl rfl rfl rfl hb56
      try dsimp only [putL, setL, evL, getL]
      refine HK_passP 16 rfl (by kernel_rfl) (fun c l s h => hQp c l s h) ?_ (fun _ => hR) ?_
      ·exact wantF (j := 6) (b := true) (t := 85) (c := u43.2.2 == (IntKind.i64.wrap (p4 + 1))) rfl rfl rfl rfl hb56
      refine HK_readP 17 (v := .bool false) rfl (by kernel_rfl) hQp rfl (fun s' K hK => o_pickF rfl hb56 hK) rfl rfl (fun _ => hR) ?_
      refine HK_more [18] (by kernel_rfl) rfl (fun _ => hR) ⟨⟨_, rfl, Or.inl ⟨rfl, ?_⟩⟩, trivial⟩
      skip
      refine o_assign ?_
      try dsimp only [putL, setL, evL, getL]
      refine HK_more [19] (by kernel_rfl) rfl (fun _ => hR) ⟨⟨_, rfl, Or.inl ⟨rfl, ?_⟩⟩, trivial⟩
      skip
      refine o_assign ?_
      refine HK_more [20] (by kernel_rfl) rfl (fun _ => hR) ⟨⟨_, rfl, Or.inl ⟨rfl, ?_⟩⟩, trivial⟩
      skip
      refine o_assign ?_
      refine HK_done (fun _ => hR) (by kernel_rfl) ?_
      refine hK55 _ _ ?_
      try dsimp only [putL, setL, evL, getL]
      refine HT_ret ?_
      exact hQr _ _ [.slice (cutA A2p c2p (Int.toNat 1) (Kd.sz KS138)) x45.length (c2p - Int.toNat 1), .int .i64 u43.2.2, .bool false] _ ⟨rfl, rfl, rfl, trivial⟩ H ⟨(cutA A2p c2p (Int.toNat 1) (Kd.sz KS138)), c2p - Int.toNat 1, rfl, hH, D45⟩
    ·refine sr fun K61 hK61 => bn rfl rfl rfl (ag (HL_nil (hK61 _ _ ?_)))
     dsimp only [putL, setL, evL, getL]
     revert H
     refine ct rfl (fun hb62 H => ?_) (fun hb62 H => ?_)
     ·refine sr fun K63 hK63 => mv (bn rfl rfl rfl (ag (HL_nil (hK63 _ _ ?_))))
      dsimp only [putL, setL, evL, getL]
      refine joinH H fun G64 hG64 H => ?_
      refine HT_joinK (fun l' s' => ∃ (x76 : Int), G64 x76 = some r ∧ skim [0, 0, 2, 8, 0, 0] l' = ([.slice A0p p0.length c0p, .slice A1p p1.length c1p, .int .i64 p4, .int .i64 u43.2.2, .slice (cutA A2p c2p (Int.toNat 1) (Kd.sz KS138)) x45.length (c2p - Int.toNat 1), .int .i64 x76], 184) ∧ Hp sb s F0 s' []) ?_ ?_
      ·intro K64 hK64
       refine joinH H fun G77 hG77 H => ?_
       refine HT_joinK (fun l' s' => ∃ (x81 : Bool), G77 x81 = some r ∧ skim [0, 0, 1, 0, 8, 0, 0, 97] l' = ([.slice A0p p0.length c0p, .slice A1p p1.length c1p, .int .i64 p3, .int .i64 p4, .int .i64 u43.2.2, .slice (cutA A2p c2p (Int.toNat 1) (Kd.sz KS138)) x45.length (c2p - Int.toNat 1), .int .i64 (IntKind.i64.wrap (p3 - 1)), .bool x81], 86) ∧ Hp sb s F0 s' []) ?_ ?_
       ·intro K77 hK77
        refine HX_draw hMix ?_
        refine HX_lim (R := fun _ => True) (k := 0) (fun s' => Gro s39 s') 14 ?_
        have hR := Gro.refl s39
        have hH0 := hH
        refine HK_readP 0 (v := .slice (cutA A2p c2p (Int.toNat 1) (Kd.sz KS138)) x45.length (c2p - Int.toNat 1)) rfl (by kernel_rfl) hQp rfl (fun s' K hK => o_move hK) rfl rfl (fun _ => hR) ?_
        try dsimp only [putL, setL, evL, getL]
        refine HK_readP 1 (v := .int .i64 (x45.length : Int)) rfl (by kernel_rfl) hQp rfl (fun s' K hK => o_len rfl Try.underlying54 hK) rfl rfl (fun _ => hR) ?_
        refine HK_readP 2 (v := .bool (decide ((x45.length : Int) > 0))) rfl (by kernel_rfl) hQp rfl (fun s' K hK => o_bin rfl rfl rfl hK) rfl rfl (fun _ => hR) ?_
        refine HK_readP 3 (v := .bool (decide ((x45.length : Int) > 0))) rfl (by kernel_rfl) hQp rfl (fun s' K hK => o_move hK) rfl rfl (fun _ => hR) ?_
        revert H
        refine it (fun hb82 H => ?_) (fun hb82 H => ?_)
        ·refine HK_readP 4 (v := .slice (cutA A2p c2p (Int.toNat 1) (Kd.sz KS138)) x45.length (c2p - Int.toNat 1)) rfl (by kernel_rfl) hQp (wantT (j := 3) (b := true) (t := 104) (c := decide ((x45.length : Int) > 0)) rfl rfl rfl rfl hb82) (fun s' K hK => o_move hK) rfl rfl (fun _ => hR) ?_
         replace H := headE H
         obtain ⟨u83, hu83, H⟩ := H
         obtain ⟨b83, o83, cs83, hr83, hh83, hel83⟩ := Rd.elb D45 hu83
         obtain ⟨_, _, rfl, rfl, ⟨_, _, rfl, rfl, rfl⟩⟩ := hr83
         try dsimp only [putL, setL, evL, getL]
         refine HK_readP 5 (v := .pointer (some ⟨b83, o83, none⟩)) rfl (by kernel_rfl) hQp (wantT (j := 3) (b := true) (t := 104) (c := decide ((x45.length : Int) > 0)) rfl rfl rfl rfl hb82) (fun s' K hK => hel83 s' rfl rfl Try.underlying54 tI138 hK) rfl rfl (fun _ => hR) ?_
         refine HK_readP 6 (v := .pointer (some ⟨b83, o83 + 0, none⟩)) rfl (by kernel_rfl) hQp (wantT (j := 3) (b := true) (t := 104) (c := decide ((x45.length : Int) > 0)) rfl rfl rfl rfl hb82) (fun s' K hK => o_faddr' (ft := 3) (off := 0) rfl Try.underlying138 rfl tI3 (by decide) hK) rfl rfl (fun _ => hR) ?_
         refine HK_read 7 (v := .int .i64 u83.1) rfl (by kernel_rfl) hQp (wantT (j := 3) (b := true) (t := 104) (c := decide ((x45.length : Int) > 0)) rfl rfl rfl rfl hb82) (fun s' hR' K hK => o_load' rfl Try.underlying3 rfl ((hh83 (hH0.bs.mono.trans hR'.mono)) 0 _ rfl) hK) rfl rfl hR ?_
         try dsimp only [putL, setL, evL, getL]
         refine HK_readP 8 (v := .slice A0p p0.length c0p) rfl (by kernel_rfl) hQp (wantT (j := 3) (b := true) (t := 104) (c := decide ((x45.length : Int) > 0)) rfl rfl rfl rfl hb82) (fun s' K hK => o_move hK) rfl rfl (fun _ => hR) ?_
         refine HK_readP 9 (v := .int .i64 p3) rfl (by kernel_rfl) hQp (wantT (j := 3) (b := true) (t := 104) (c := decide ((x45.length : Int) > 0)) rfl rfl rfl rfl hb82) (fun s' K hK => o_move hK) rfl rfl (fun _ => hR) ?_
         refine HK_more [10] (by kernel_rfl) rfl (fun _ => hR) ⟨⟨_, rfl, Or.inl ⟨(wantT (j := 3) (b := true) (t := 104) (c := decide ((x45.length : Int) > 0)) rfl rfl rfl rfl hb82), ?_⟩⟩, trivial⟩
         replace H := headE H
         obtain ⟨u84, hu84, H⟩ := H
         skip
         refine o_call (args := #[.slice A0p p0.length c0p, .int .i64 p3]) Try.func202 rfl rfl rfl (spec_l5First.ok sb s39 no A0p c0p p0 p3 HRp0 (Hp.own hH.bs) _ hu84) ?_
         rintro _ s84 ⟨rfl, hD⟩
         replace hR := hR.trans hD.gro
         replace hH := hH.back0 hD (Up.refl _ _ _)
         clear hD
         try dsimp only [putL, setL, evL, getL]
         refine HK_readP 11 (v := .bool (u83.1 == u84)) rfl (by kernel_rfl) hQp (wantT (j := 3) (b := true) (t := 104) (c := decide ((x45.length : Int) > 0)) rfl rfl rfl rfl hb82) (fun s' K hK => o_bin rfl rfl rfl hK) rfl rfl (fun _ => hR) ?_
         refine HK_readP 12 (v := .bool (u83.1 == u84)) rfl (by kernel_rfl) hQp rfl (fun s' K hK => o_pickT rfl hb82 hK) rfl rfl (fun _ => hR) ?_
         refine HK_done (fun _ => hR) (by kernel_rfl) ?_
         exact hK77 _ _ ⟨u83.1 == u84, H, rfl, hH⟩
        ·refine HK_passP 4 rfl (by kernel_rfl) (fun c l s h => hQp c l s h) ?_ (fun _ => hR) ?_
         ·exact wantF (j := 3) (b := true) (t := 104) (c := decide ((x45.length : Int) > 0)) rfl rfl rfl rfl hb82
         try dsimp only [putL, setL, evL, getL]
         refine HK_passP 5 rfl (by kernel_rfl) (fun c l s h => hQp c l s h) ?_ (fun _ => hR) ?_
         ·exact wantF (j := 3) (b := true) (t := 104) (c := decide ((x45.length : Int) > 0)) rfl rfl rfl rfl hb82
         refine HK_passP 6 rfl (by kernel_rfl) (fun c l s h => hQp c l s h) ?_ (fun _ => hR) ?_
         ·exact wantF (j := 3) (b := true) (t := 104) (c := decide ((x45.length : Int) > 0)) rfl rfl rfl rfl hb82
         refine HK_passP 7 rfl (by kernel_rfl) (fun c l s h => hQp c l s h) ?_ (fun _ => hR) ?_
         ·exact wantF (j := 3) (b := true) (t := 104) (c := decide ((x45.length : Int) > 0)) rfl rfl rfl rfl hb82
         try dsimp only [putL, setL, evL, getL]
         refine HK_passP 8 rfl (by kernel_rfl) (fun c l s h => hQp c l s h) ?_ (fun _ => hR) ?_
         ·exact wantF (j := 3) (b := true) (t := 104) (c := decide ((x45.length : Int) > 0)) rfl rfl rfl rfl hb82
         refine HK_passP 9 rfl (by kernel_rfl) (fun c l s h => hQp c l s h) ?_ (fun _ => hR) ?_
         ·exact wantF (j := 3) (b := true) (t := 104) (c := decide ((x45.length : Int) > 0)) rfl rfl rfl rfl hb82
         refine HK_passP 10 rfl (by kernel_rfl) (fun c l s h => hQp c l s h) ?_ (fun _ => hR) ?_
         ·exact wantF (j := 3) (b := true) (t := 104) (c := decide ((x45.length : Int) > 0)) rfl rfl rfl rfl hb82
         try dsimp only [putL, setL, evL, getL]
         refine HK_passP 11 rfl (by kernel_rfl) (fun c l s h => hQp c l s h) ?_ (fun _ => hR) ?_
         ·exact wantF (j := 3) (b := true) (t := 104) (c := decide ((x45.length : Int) > 0)) rfl rfl rfl rfl hb82
         refine HK_readP 12 (v := .bool false) rfl (by kernel_rfl) hQp rfl (fun s' K hK => o_pickF rfl hb82 hK) rfl rfl (fun _ => hR) ?_
         refine HK_done (fun _ => hR) (by kernel_rfl) ?_
         exact hK77 _ _ ⟨false, H, rfl, hH⟩
       ·rintro l' s85 ⟨x81, H, hl, hH⟩
        revert l'
        refine skA ?_
        dsimp only [Al, Sk]
        intros
        replace H := hG77 _ H
        try dsimp only at H
        revert H
        refine ct rfl (fun hb86 H => ?_) (fun hb86 H => ?_)
        ·refine HT_region ?_
         try dsimp only [putL, setL, evL, getL]
         refine mv (mv ?_)
         replace H := headE H
         obtain ⟨u87, hu87, H⟩ := H
         refine hc (o_call (args := #[.slice A0p p0.length c0p, .int .i64 p3]) Try.func202 rfl rfl rfl (spec_l5First.ok sb s85 no A0p c0p p0 p3 HRp0 (Hp.own hH.bs) _ hu87) ?_)
         rintro _ s87 ⟨rfl, hD⟩
         replace hH := hH.back0 hD (Up.refl _ _ _)
         clear hD
         try dsimp only [putL, setL, evL, getL]
         refine ag (HL_nil ?_)
         exact hK64 _ _ ⟨u87, H, rfl, hH⟩
        ·refine HT_skip ?_
         exact hK64 _ _ ⟨IntKind.i64.wrap (p3 - 1), H, rfl, hH⟩
      ·rintro l' s88 ⟨x76, H, hl, hH⟩
       revert l'
       refine skA ?_
       dsimp only [Al, Sk]
       intros
       replace H := hG64 _ H
       try dsimp only at H
       refine sr fun K89 hK89 => mv (mv ?_)
       dsimp only [putL, setL, evL, getL]
       refine mv (mv (mv ?_))
       replace H := headE H
       obtain ⟨u90, hu90, H⟩ := H
       try dsimp only [putL, setL, evL, getL]
       refine hc (o_call (args := #[.slice A0p p0.length c0p, .slice A1p p1.length c1p, .slice (cutA A2p c2p (Int.toNat 1) (Kd.sz KS138)) x45.length (c2p - Int.toNat 1), .int .i64 x76, .int .i64 p4]) Try.func154 rfl rfl rfl (ih sb s88 no A0p c0p p0 A1p c1p p1 (cutA A2p c2p (Int.toNat 1) (Kd.sz KS138)) (c2p - Int.toNat 1) x45 x76 p4 HRp0 HRp1 D45 (Hp.own hH.bs) _ hu90) ?_)
       rintro _ s90 ⟨A91, c91, rfl, hD, D91⟩
       replace hH := hH.back0 hD (Up.refl _ _ _)
       clear hD
       refine mv (hc (o_extract rfl rfl ?_))
       dsimp only [putL, setL, evL, getL]
       refine hc (o_extract rfl rfl (hc (o_extract rfl rfl (ag ?_))))
       dsimp only [putL, setL, evL, getL]
       refine ag (ag (HL_nil (hK89 _ _ ?_)))
       dsimp only [putL, setL, evL, getL]
       refine sr fun K92 hK92 => mv (mv (mv ?_))
       dsimp only [putL, setL, evL, getL]
       refine mv ?_
       revert H
       refine it (fun hb93 H => ?_) (fun hb93 H => ?_)
       ·refine wt rfl rfl rfl rfl hb93 (o_move (wt rfl rfl rfl rfl hb93 (o_move ?_)))
        dsimp only [putL, setL, evL, getL]
        refine wt rfl rfl rfl rfl hb93 (o_bin rfl rfl rfl (hc (o_pickT rfl hb93 (ag ?_))))
        dsimp only [putL, setL, evL, getL]
        refine ag (ag (HL_nil (hK92 _ _ ?_)))
        dsimp only [putL, setL, evL, getL]
        refine HT_ret ?_
        exact hQr _ _ [.slice A91 u90.1.length c91, .int .i64 u43.2.2, .bool (u90.2.1 == u43.2.2)] _ ⟨rfl, rfl, rfl, trivial⟩ H ⟨A91, c91, rfl, hH, D91⟩
       ·refine wf rfl rfl rfl rfl hb93 (wf rfl rfl rfl rfl hb93 (wf rfl rfl rfl rfl hb93 ?_))
        dsimp only [putL, setL, evL, getL]
        refine hc (o_pickF rfl hb93 (ag (ag ?_)))
        dsimp only [putL, setL, evL, getL]
        refine ag (HL_nil (hK92 _ _ ?_))
        dsimp only [putL, setL, evL, getL]
        refine HT_ret ?_
        exact hQr _ _ [.slice A91 u90.1.length c91, .int .i64 u43.2.2, .bool false] _ ⟨rfl, rfl, rfl, trivial⟩ H ⟨A91, c91, rfl, hH, D91⟩
     ·refine sr fun K94 hK94 => bn rfl rfl rfl (ag (HL_nil (hK94 _ _ ?_)))
      dsimp only [putL, setL, evL, getL]
      revert H
      refine ct rfl (fun hb95 H => ?_) (fun hb95 H => ?_)
      ·refine sr fun K96 hK96 => mv (mv (mv ?_))
       dsimp only [putL, setL, evL, getL]
       refine mv (mv ?_)
       replace H := headE H
       obtain ⟨u97, hu97, H⟩ := H
       refine hc (o_call (args := #[.slice A0p p0.length c0p, .int .i64 p3]) Try.func202 rfl rfl rfl (spec_l5First.ok sb s39 no A0p c0p p0 p3 HRp0 (Hp.own hH.bs) _ hu97) ?_)
       rintro _ s97 ⟨rfl, hD⟩
       replace hH := hH.back0 hD (Up.refl _ _ _)
       clear hD
       try dsimp only [putL, setL, evL, getL]
       refine mv ?_
       replace H := headE H
       obtain ⟨u98, hu98, H⟩ := H
       refine hc (o_call (args := #[.slice A0p p0.length c0p, .slice A1p p1.length c1p, .slice (cutA A2p c2p (Int.toNat 1) (Kd.sz KS138)) x45.length (c2p - Int.toNat 1), .int .i64 u97, .int .i64 p4]) Try.func154 rfl rfl rfl (ih sb s97 no A0p c0p p0 A1p c1p p1 (cutA A2p c2p (Int.toNat 1) (Kd.sz KS138)) (c2p - Int.toNat 1) x45 u97 p4 HRp0 HRp1 D45 (Hp.own hH.bs) _ hu98) ?_)
       rintro _ s98 ⟨A99, c99, rfl, hD, D99⟩
       replace hH := hH.back0 hD (Up.refl _ _ _)
       clear hD
       refine mv ?_
       dsimp only [putL, setL, evL, getL]
       refine hc (o_extract rfl rfl (hc (o_extract rfl rfl (hc (o_extract rfl rfl ?_)))))
       dsimp only [putL, setL, evL, getL]
       refine ag (ag (ag (HL_nil (hK96 _ _ ?_))))
       dsimp only [putL, setL, evL, getL]
       refine HT_seq_k fun K100 hK100 => sr fun K101 hK101 => mv (hc (o_not rfl (HL_nil (hK101 _ _ ?_))))
       dsimp only [putL, setL, evL, getL]
       revert H
       refine ct rfl (fun hb102 H => ?_) (fun hb102 H => ?_)
       ·refine sr fun K103 hK103 => ag (ag (ag (HL_nil (hK103 _ _ ?_))))
        dsimp only [putL, setL, evL, getL]
        refine HT_ret ?_
        exact hQr _ _ [.slice none 0 0, .int .i64 0, .bool false] _ ⟨rfl, rfl, rfl, trivial⟩ H ⟨none, 0, rfl, hH, Rd.nil _ _⟩
       ·refine HT_skip (hK100 _ _ (sr fun K104 hK104 => (mv (mv (mv ?_)))))
        dsimp only [putL, setL, evL, getL]
        refine mv (bn rfl rfl rfl (mv ?_))
        replace H := headE H
        obtain ⟨u105, hu105, H⟩ := H
        try dsimp only [putL, setL, evL, getL]
        refine hc (o_call (args := #[.slice A0p p0.length c0p, .slice A1p p1.length c1p, .slice A99 u98.1.length c99, .int .i64 (IntKind.i64.wrap (p3 - 1)), .int .i64 u98.2.1]) Try.func154 rfl rfl rfl (ih sb s98 no A0p c0p p0 A1p c1p p1 A99 c99 u98.1 (IntKind.i64.wrap (p3 - 1)) u98.2.1 HRp0 HRp1 D99 (Hp.own hH.bs) _ hu105) ?_)
        rintro _ s105 ⟨A106, c106, rfl, hD, D106⟩
        replace hH := hH.back0 hD (Up.refl _ _ _)
        clear hD
        refine mv (hc (o_extract rfl rfl ?_))
        dsimp only [putL, setL, evL, getL]
        refine hc (o_extract rfl rfl (hc (o_extract rfl rfl (ag ?_))))
        dsimp only [putL, setL, evL, getL]
        refine ag (ag (HL_nil (hK104 _ _ ?_)))
        dsimp only [putL, setL, evL, getL]
        refine sr fun K107 hK107 => mv (mv (mv ?_))
        dsimp only [putL, setL, evL, getL]
        refine mv ?_
        revert H
        refine it (fun hb108 H => ?_) (fun hb108 H => ?_)
        ·refine wt rfl rfl rfl rfl hb108 (o_move (wt rfl rfl rfl rfl hb108 (o_move ?_)))
         dsimp only [putL, setL, evL, getL]
         refine wt rfl rfl rfl rfl hb108 (o_bin rfl rfl rfl (hc (o_pickT rfl hb108 (ag ?_))))
         dsimp only [putL, setL, evL, getL]
         refine ag (ag (HL_nil (hK107 _ _ ?_)))
         dsimp only [putL, setL, evL, getL]
         refine HT_ret ?_
         exact hQr _ _ [.slice A106 u105.1.length c106, .int .i64 u43.2.2, .bool (u105.2.1 == u43.2.2)] _ ⟨rfl, rfl, rfl, trivial⟩ H ⟨A106, c106, rfl, hH, D106⟩
        ·refine wf rfl rfl rfl rfl hb108 (wf rfl rfl rfl rfl hb108 (wf rfl rfl rfl rfl hb108 ?_))
         dsimp only [putL, setL, evL, getL]
         refine hc (o_pickF rfl hb108 (ag (ag ?_)))
         dsimp only [putL, setL, evL, getL]
         refine ag (HL_nil (hK107 _ _ ?_))
         dsimp only [putL, setL, evL, getL]
         refine HT_ret ?_
         exact hQr _ _ [.slice A106 u105.1.length c106, .int .i64 u43.2.2, .bool false] _ ⟨rfl, rfl, rfl, trivial⟩ H ⟨A106, c106, rfl, hH, D106⟩
      ·refine HT_skip (hK46 _ _ (sr fun K109 hK109 => (mv (ag (HL_nil (hK109 _ _ ?_))))))
       dsimp only [putL, setL, evL, getL]
       refine joinH H fun G110 hG110 H => ?_
       refine HT_joinK (fun l' s' => ∃ (x185 : List ((Int) × (Int) × (Int))) (A185 : Option Addr) (c185 : Nat) (x186 : Int), G110 (.go (x185, x186)) = some r ∧ skim [13, 0, 10] l' = ([.int .i64 u43.2.2, .slice A185 x185.length c185, .int .i64 x186], 174) ∧ Hp sb s F0 s' [] ∧ Rd KS138 sb A185 c185 x185) ?_ ?_
       ·intro K110 hK110
        refine HT_block ?_
        refine HT_loopK (fun kf l' s' => ∃ (x210 : List ((Int) × (Int) × (Int))) (A210 : Option Addr) (c210 : Nat) (x211 : Int), (spec_l14Check.l1 p0 p1 p3 self u43 kf x210 x211).bind G110 = some r ∧ skim [0, 0, 1, 9, 0, 10] l' = ([.slice A0p p0.length c0p, .slice A1p p1.length c1p, .int .i64 p3, .int .i64 u43.2.2, .slice A210 x210.length c210, .int .i64 x211], 174) ∧ Hp sb s F0 s' [] ∧ Rd KS138 sb A210 c210 x210) (((u43.2.2) - (p4)).toNat + 2) ⟨x45, (cutA A2p c2p (Int.toNat 1) (Kd.sz KS138)), c2p - Int.toNat 1, p4, H, rfl, hH, D45⟩ ?_
        rintro kf l' s237 ⟨x210, A210, c210, x211, H, hl, hH, D210⟩ K237 hK237
        revert l'
        refine skA ?_
        dsimp only [Al, Sk]
        intros
        cases kf with
        | zero => simp [spec_l14Check.l1] at H
        | succ kf =>
         rw [spec_l14Check.l1] at H
         refine HT_seq_k fun K238 hK238 => sr fun K239 hK239 => mv (mv (bn rfl rfl rfl (HL_nil (hK239 _ _ ?_))))
         dsimp only [putL, setL, evL, getL]
         revert H
         refine ct rfl (fun hb240 H => ?_) (fun hb240 H => ?_)
         ·refine HT_skip (hK238 _ _ (HT_block (sr fun K241 hK241 => (mv (mv (mv ?_))))))
          dsimp only [putL, setL, evL, getL]
          refine mv (bn rfl rfl rfl (mv ?_))
          replace H := headE H
          obtain ⟨u242, hu242, H⟩ := H
          try dsimp only [putL, setL, evL, getL]
          refine hc (o_call (args := #[.slice A0p p0.length c0p, .slice A1p p1.length c1p, .slice A210 x210.length c210, .int .i64 (IntKind.i64.wrap (p3 - 1)), .int .i64 x211]) Try.func154 rfl rfl rfl (ih sb s237 no A0p c0p p0 A1p c1p p1 A210 c210 x210 (IntKind.i64.wrap (p3 - 1)) x211 HRp0 HRp1 D210 (Hp.own hH.bs) _ hu242) ?_)
          rintro _ s242 ⟨A243, c243, rfl, hD, D243⟩
          replace hH := hH.back0 hD (Up.refl _ _ _)
          clear hD
          refine mv (hc (o_extract rfl rfl ?_))
          dsimp only [putL, setL, evL, getL]
          refine hc (o_extract rfl rfl (hc (o_extract rfl rfl (ag ?_))))
          dsimp only [putL, setL, evL, getL]
          refine ag (ag (HL_nil (hK241 _ _ ?_)))
          dsimp only [putL, setL, evL, getL]
          refine HT_seq_k fun K252 hK252 => ?_
          refine joinH H fun G253 hG253 H => ?_
          refine HT_joinK (fun l' s' => ∃ (x255 : Bool), G253 x255 = some r ∧ skim [0, 0, 1, 9, 12, 0, 163] l' = ([.slice A0p p0.length c0p, .slice A1p p1.length c1p, .int .i64 p3, .int .i64 u43.2.2, .slice A243 u242.1.length c243, .int .i64 u242.2.1, .bool x255], 8) ∧ Hp sb s F0 s' []) ?_ ?_
          ·intro K253 hK253
           refine HT_region ?_
           refine mv (hc (o_not rfl (mv ?_)))
           revert H
           refine it (fun hb256 H => ?_) (fun hb256 H => ?_)
           ·refine wf rfl rfl rfl rfl hb256 ?_
            dsimp only [putL, setL, evL, getL]
            refine wf rfl rfl rfl rfl hb256 (wf rfl rfl rfl rfl hb256 (hc (o_pickT rfl hb256 (HL_nil ?_))))
            exact hK253 _ _ ⟨true, H, rfl, hH⟩
           ·refine wt rfl rfl rfl rfl hb256 (o_move ?_)
            dsimp only [putL, setL, evL, getL]
            refine wt rfl rfl rfl rfl hb256 (o_move (wt rfl rfl rfl rfl hb256 (o_bin rfl rfl rfl (hc (o_pickF rfl hb256 (HL_nil ?_))))))
            exact hK253 _ _ ⟨u242.2.1 == x211, H, rfl, hH⟩
          ·rintro l' s257 ⟨x255, H, hl, hH⟩
           revert l'
           refine skA ?_
           dsimp only [Al, Sk]
           intros
           replace H := hG253 _ H
           try dsimp only at H
           revert H
           refine ct rfl (fun hb258 H => ?_) (fun hb258 H => ?_)
           ·refine sr fun K259 hK259 => ?_
            try dsimp only [putL, setL, evL, getL]
            refine ag (ag (ag (HL_nil (hK259 _ _ ?_))))
            dsimp only [putL, setL, evL, getL]
            refine HT_ret ?_
            replace H := escH (fun z hz => hG110 _ hz) H
            exact hQr _ _ [.slice none 0 0, .int .i64 0, .bool false] _ ⟨rfl, rfl, rfl, trivial⟩ H ⟨none, 0, rfl, hH, Rd.nil _ _⟩
           ·refine HT_skip (hK252 _ _ (sr fun K260 hK260 => (mv (ag (HL_nil (hK260 _ _ ?_))))))
            dsimp only [putL, setL, evL, getL]
            refine HT_region ?_
            refine mv (ag (HL_nil ?_))
            exact hK237 _ _ ⟨kf, Nat.lt_succ_self kf, u242.1, A243, c243, u242.2.1, H, rfl, hH, D243⟩
         ·refine HT_exit ?_
          exact hK110 _ _ ⟨x210, A210, c210, x211, H, rfl, hH, D210⟩
       ·rintro l' s261 ⟨x185, A185, c185, x186, H, hl, hH, D185⟩
        revert l'
        refine skA ?_
        dsimp only [Al, Sk]
        intros
        replace H := hG110 _ H
        try dsimp only at H
        refine sr fun K262 hK262 => mv ?_
        dsimp only [putL, setL, evL, getL]
        refine mv (mv (mv ?_))
        dsimp only [putL, setL, evL, getL]
        refine bn rfl rfl rfl (ag (ag ?_))
        dsimp only [putL, setL, evL, getL]
        refine ag (HL_nil (hK262 _ _ ?_))
        dsimp only [putL, setL, evL, getL]
        refine HT_ret ?_
        exact hQr _ _ [.slice A185 x185.length c185, .int .i64 u43.2.2, .bool (x186 == u43.2.2)] _ ⟨rfl, rfl, rfl, trivial⟩ H ⟨A185, c185, rfl, hH, D185⟩
theorem spec_l14Check.okr : ∀ (kr : Nat) (sb s : St) (F0 : Fp) (A0p : Option Addr) (c0p : Nat) (p0 : List ((Int) × (List (Int)))) (A1p : Option Addr) (c1p : Nat) (p1 : List (Int)) (A2p : Option Addr) (c2p : Nat) (p2 : List ((Int) × (Int) × (Int))) (p3 : Int) (p4 : Int) (HRp0 : Rd KS139 sb A0p c0p p0) (HRp1 : Rd KI sb A1p c1p p1) (HRp2 : Rd KS138 sb A2p c2p p2) (hH : Hp sb s F0 s []) (r : (List ((Int) × (Int) × (Int))) × Int × Bool) (H : spec_l14Check.r kr p0 p1 p2 p3 p4 = some r), GCall Try.prog 154 #[.slice A0p p0.length c0p, .slice A1p p1.length c1p, .slice A2p p2.length c2p, .int .i64 p3, .int .i64 p4] s (spec_l14Check.post sb s F0 r)
 | 0, sb, s, F0, A0p, c0p, p0, A1p, c1p, p1, A2p, c2p, p2, p3, p4, HRp0, HRp1, HRp2, hH, r, H => by cases H
 | kr + 1, sb, s, F0, A0p, c0p, p0, A1p, c1p, p1, A2p, c2p, p2, p3, p4, HRp0, HRp1, HRp2, hH, r, H => spec_l14Check.okb (spec_l14Check.r kr) (spec_l14Check.okr kr) sb s F0 A0p c0p p0 A1p c1p p1 A2p c2p p2 p3 p4 HRp0 HRp1 HRp2 hH r H
theorem spec_l14Check.ok (sb s : St) (F0 : Fp) (A0p : Option Addr) (c0p : Nat) (p0 : List ((Int) × (List (Int)))) (A1p : Option Addr) (c1p : Nat) (p1 : List (Int)) (A2p : Option Addr) (c2p : Nat) (p2 : List ((Int) × (Int) × (Int))) (p3 : Int) (p4 : Int) (HRp0 : Rd KS139 sb A0p c0p p0) (HRp1 : Rd KI sb A1p c1p p1) (HRp2 : Rd KS138 sb A2p c2p p2) (hH : Hp sb s F0 s []) (r : (List ((Int) × (Int) × (Int))) × Int × Bool) (H : spec_l14Check.f p0 p1 p2 p3 p4 = some r) : GCall Try.prog 154 #[.slice A0p p0.length c0p, .slice A1p p1.length c1p, .slice A2p p2.length c2p, .int .i64 p3, .int .i64 p4] s (spec_l14Check.post sb s F0 r) := spec_l14Check.okr _ sb s F0 A0p c0p p0 A1p c1p p1 A2p c2p p2 p3 p4 HRp0 HRp1 HRp2 hH r H
def spec_CheckParse.f (p0 : List ((Int) × (List (Int)))) (p1 : List (Int)) (p2 : List ((Int) × (Int) × (Int))) : Option (Bool × Bool) := ((spec_l14Asked.f p0 p1).bind fun u17 => if (!u17) = true then (some true) else (some (decide ((p2.length : Int) > 200)))).bind fun (o : Bool) => match o with | x16 => (if x16 = true then (some (false, false)) else ((spec_l14Check.f p0 p1 p2 (IntKind.i64.wrap ((p0.length : Int) - 1)) 0).bind fun u23 => if u23.2.2 = true then (if (u23.2.1 == (p1.length : Int)) = true then (some (((u23.1.length : Int) == 0), true)) else (some (false, true))) else (some (false, true))))
def spec_CheckParse.post (sb s : St) (F0 : Fp) (r : Bool × Bool) : Value → St → Prop := fun v s' => v = .tuple #[.bool r.1, .bool r.2] ∧ Hp sb s F0 s' []
set_option maxRecDepth 100000 in
set_option maxHeartbeats 4000000 in
theorem spec_CheckParse.ok (sb s : St) (F0 : Fp) (A0p : Option Addr) (c0p : Nat) (p0 : List ((Int) × (List (Int)))) (A1p : Option Addr) (c1p : Nat) (p1 : List (Int)) (A2p : Option Addr) (c2p : Nat) (p2 : List ((Int) × (Int) × (Int))) (HRp0 : Rd KS139 sb A0p c0p p0) (HRp1 : Rd KI sb A1p c1p p1) (HRp2 : Rd KS138 sb A2p c2p p2) (hH : Hp sb s F0 s []) (r : Bool × Bool) (H : spec_CheckParse.f p0 p1 p2 = some r) : GCall Try.prog 64 #[.slice A0p p0.length c0p, .slice A1p p1.length c1p, .slice A2p p2.length c2p] s (spec_CheckParse.post sb s F0 r) := by
 refine GCall_ofr (spec_CheckParse.post sb s F0) [.tmp 6, .tmp 7] (ud [.slice A0p p0.length c0p, .slice A1p p1.length c1p, .slice A2p p2.length c2p] 40) Try.func64 rfl rfl rfl fun w Q hQr hQn hQp => ?_
 replace H := topE H
 unfold spec_CheckParse.f at H
 dsimp only [ud, un]
 refine sr fun K1 hK1 => ag (ag (HL_nil (hK1 _ _ ?_)))
 dsimp only [putL, setL, evL, getL]
 refine HT_seq_k fun K12 hK12 => ?_
 refine joinH H fun G13 hG13 H => ?_
 refine HT_joinK (fun l' s' => ∃ (x16 : Bool), G13 x16 = some r ∧ skim [0, 0, 0, 16] l' = ([.slice A0p p0.length c0p, .slice A1p p1.length c1p, .slice A2p p2.length c2p, .bool x16], 24) ∧ Hp sb s F0 s' []) ?_ ?_
 ·intro K13 hK13
  refine HT_region ?_
  refine mv (mv ?_)
  replace H := headE H
  obtain ⟨u17, hu17, H⟩ := H
  refine hc (o_call (args := #[.slice A0p p0.length c0p, .slice A1p p1.length c1p]) Try.func150 rfl rfl rfl (spec_l14Asked.ok sb s no A0p c0p p0 A1p c1p p1 HRp0 HRp1 (Hp.own hH.bs) _ hu17) ?_)
  rintro _ s17 ⟨rfl, hD⟩
  replace hH := hH.back0 hD (Up.refl _ _ _)
  clear hD
  try dsimp only [putL, setL, evL, getL]
  refine hc (o_not rfl (mv ?_))
  revert H
  refine it (fun hb18 H => ?_) (fun hb18 H => ?_)
  ·refine wf rfl rfl rfl rfl hb18 ?_
   dsimp only [putL, setL, evL, getL]
   refine wf rfl rfl rfl rfl hb18 (wf rfl rfl rfl rfl hb18 (hc (o_pickT rfl hb18 (HL_nil ?_))))
   exact hK13 _ _ ⟨true, H, rfl, hH⟩
  ·refine wt rfl rfl rfl rfl hb18 (o_move ?_)
   dsimp only [putL, setL, evL, getL]
   refine wt rfl rfl rfl rfl hb18 (o_len rfl Try.underlying54 (wt rfl rfl rfl rfl hb18 (o_bin rfl rfl rfl (hc (o_pickF rfl hb18 (HL_nil ?_))))))
   exact hK13 _ _ ⟨decide ((p2.length : Int) > 200), H, rfl, hH⟩
 ·rintro l' s19 ⟨x16, H, hl, hH⟩
  revert l'
  refine skA ?_
  dsimp only [Al, Sk]
  intros
  replace H := hG13 _ H
  try dsimp only at H
  revert H
  refine ct rfl (fun hb20 H => ?_) (fun hb20 H => ?_)
  ·refine sr fun K21 hK21 => ?_
   try dsimp only [putL, setL, evL, getL]
   refine ag (ag (HL_nil (hK21 _ _ ?_)))
   dsimp only [putL, setL, evL, getL]
   refine HT_ret ?_
   exact hQr _ _ [.bool false, .bool false] _ ⟨rfl, rfl, trivial⟩ H ⟨rfl, hH⟩
  ·refine HT_skip (hK12 _ _ (sr fun K22 hK22 => (mv (mv (mv ?_)))))
   dsimp only [putL, setL, evL, getL]
   refine mv (hc (o_len rfl Try.underlying57 (bn rfl rfl rfl ?_)))
   replace H := headE H
   obtain ⟨u23, hu23, H⟩ := H
   try dsimp only [putL, setL, evL, getL]
   refine hc (o_call (args := #[.slice A0p p0.length c0p, .slice A1p p1.length c1p, .slice A2p p2.length c2p, .int .i64 (IntKind.i64.wrap ((p0.length : Int) - 1)), .int .i64 0]) Try.func154 rfl rfl rfl (spec_l14Check.ok sb s19 no A0p c0p p0 A1p c1p p1 A2p c2p p2 (IntKind.i64.wrap ((p0.length : Int) - 1)) 0 HRp0 HRp1 HRp2 (Hp.own hH.bs) _ hu23) ?_)
   rintro _ s23 ⟨A24, c24, rfl, hD, D24⟩
   replace hH := hH.back0 hD (Up.refl _ _ _)
   clear hD
   refine mv (hc (o_extract rfl rfl ?_))
   dsimp only [putL, setL, evL, getL]
   refine hc (o_extract rfl rfl (hc (o_extract rfl rfl (ag ?_))))
   dsimp only [putL, setL, evL, getL]
   refine ag (ag (HL_nil (hK22 _ _ ?_)))
   dsimp only [putL, setL, evL, getL]
   refine sr fun K25 hK25 => mv (mv ?_)
   revert H
   refine it (fun hb26 H => ?_) (fun hb26 H => ?_)
   ·refine wt rfl rfl rfl rfl hb26 (o_move ?_)
    dsimp only [putL, setL, evL, getL]
    refine wt rfl rfl rfl rfl hb26 (o_move (wt rfl rfl rfl rfl hb26 (o_len rfl Try.underlying24 (wt rfl rfl rfl rfl hb26 (o_bin rfl rfl rfl ?_)))))
    dsimp only [putL, setL, evL, getL]
    refine hc (o_pickT rfl hb26 (mv ?_))
    revert H
    refine it (fun hb27 H => ?_) (fun hb27 H => ?_)
    ·refine wt rfl rfl rfl rfl hb27 (o_move ?_)
     dsimp only [putL, setL, evL, getL]
     refine wt rfl rfl rfl rfl hb27 (o_len rfl Try.underlying54 (wt rfl rfl rfl rfl hb27 (o_bin rfl rfl rfl (hc (o_pickT rfl hb27 ?_)))))
     dsimp only [putL, setL, evL, getL]
     refine ag (ag (HL_nil (hK25 _ _ ?_)))
     dsimp only [putL, setL, evL, getL]
     refine HT_ret ?_
     exact hQr _ _ [.bool ((u23.1.length : Int) == 0), .bool true] _ ⟨rfl, rfl, trivial⟩ H ⟨rfl, hH⟩
    ·refine wf rfl rfl rfl rfl hb27 (wf rfl rfl rfl rfl hb27 (wf rfl rfl rfl rfl hb27 ?_))
     dsimp only [putL, setL, evL, getL]
     refine hc (o_pickF rfl hb27 (ag (ag (HL_nil (hK25 _ _ ?_)))))
     dsimp only [putL, setL, evL, getL]
     refine HT_ret ?_
     exact hQr _ _ [.bool false, .bool true] _ ⟨rfl, rfl, trivial⟩ H ⟨rfl, hH⟩
   ·refine wf rfl rfl rfl rfl hb26 (wf rfl rfl rfl rfl hb26 (wf rfl rfl rfl rfl hb26 ?_))
    dsimp only [putL, setL, evL, getL]
    refine wf rfl rfl rfl rfl hb26 (hc (o_pickF rfl hb26 (mv ?_)))
    dsimp only [putL, setL, evL, getL]
    refine wf rfl rfl rfl rfl rfl (wf rfl rfl rfl rfl rfl (wf rfl rfl rfl rfl rfl ?_))
    dsimp only [putL, setL, evL, getL]
    refine hc (o_pickF rfl rfl (ag (ag (HL_nil (hK25 _ _ ?_)))))
    dsimp only [putL, setL, evL, getL]
    refine HT_ret ?_
    exact hQr _ _ [.bool false, .bool true] _ ⟨rfl, rfl, trivial⟩ H ⟨rfl, hH⟩
def impl_inRange.f (p0 : Int) (p1 : Int) (p2 : Int) : Option Bool := if (decide (p1 ≤ p0)) = true then (some (decide (p0 ≤ p2))) else (some false)
def impl_inRange.post (sb s : St) (F0 : Fp) (r : Bool) : Value → St → Prop := fun v s' => v = .bool r ∧ Hp sb s F0 s' []
set_option maxRecDepth 100000 in
set_option maxHeartbeats 4000000 in
theorem impl_inRange.ok (sb s : St) (F0 : Fp) (p0 : Int) (p1 : Int) (p2 : Int) (hH : Hp sb s F0 s []) (r : Bool) (H : impl_inRange.f p0 p1 p2 = some r) : GCall Try.prog 105 #[.int .i64 p0, .int .i64 p1, .int .i64 p2] s (impl_inRange.post sb s F0 r) := by
 refine GCall_ofr (impl_inRange.post sb s F0) [.tmp 6] (ud [.int .i64 p0, .int .i64 p1, .int .i64 p2] 12) Try.func105 rfl rfl rfl fun w Q hQr hQn hQp => ?_
 replace H := topE H
 unfold impl_inRange.f at H
 dsimp only [ud, un]
 refine sr fun K1 hK1 => ag (HL_nil (hK1 _ _ ?_))
 dsimp only [putL, setL, evL, getL]
 refine sr fun K2 hK2 => mv (mv (bn rfl rfl rfl ?_))
 dsimp only [putL, setL, evL, getL]
 refine mv ?_
 revert H
 refine it (fun hb3 H => ?_) (fun hb3 H => ?_)
 ·refine wt rfl rfl rfl rfl hb3 (o_move (wt rfl rfl rfl rfl hb3 (o_move ?_)))
  dsimp only [putL, setL, evL, getL]
  refine wt rfl rfl rfl rfl hb3 (o_bin rfl rfl rfl (hc (o_pickT rfl hb3 (ag (HL_nil (hK2 _ _ ?_))))))
  dsimp only [putL, setL, evL, getL]
  refine HT_ret ?_
  exact hQr _ _ [.bool (decide (p0 ≤ p2))] _ ⟨rfl, trivial⟩ H ⟨rfl, hH⟩
 ·refine wf rfl rfl rfl rfl hb3 (wf rfl rfl rfl rfl hb3 (wf rfl rfl rfl rfl hb3 ?_))
  dsimp only [putL, setL, evL, getL]
  refine hc (o_pickF rfl hb3 (ag (HL_nil (hK2 _ _ ?_))))
  dsimp only [putL, setL, evL, getL]
  refine HT_ret ?_
  exact hQr _ _ [.bool false] _ ⟨rfl, trivial⟩ H ⟨rfl, hH⟩
def impl_GoodSet.l1 (p0 : List (Int)) : Nat → Int → Option (Lo Unit Bool)
 | 0, _ => none
 | kf + 1, x300 => if (decide (x300 < (p0.length : Int))) = true then ((rd? p0 x300).bind fun u416 => ((if (decide (x300 > 0)) = true then ((rem? x300 2).bind fun u437 => some (u437 == 0)) else (some false)).bind fun (o : Bool) => match o with | x435 => (if x435 = true then ((rd? p0 (IntKind.i64.wrap (x300 - 1))).bind fun u440 => some (IntKind.i64.wrap (u440 + 2))) else (if (decide (x300 > 0)) = true then ((rd? p0 (IntKind.i64.wrap (x300 - 1))).bind fun u443 => some u443) else (some 0)))).bind fun (o : Int) => match o with | x431 => ((impl_inRange.f u416 x431 1114111).bind fun u446 => if (!u446) = true then ((some false).bind fun z => some (Lo.ret z)) else (impl_GoodSet.l1 p0 kf (IntKind.i64.wrap (x300 + 1))))) else (some (Lo.go ()))
def impl_GoodSet.f (p0 : List (Int)) : Option Bool := (impl_GoodSet.l1 p0 ((((p0.length : Int)) - (0)).toNat + 2) 0).bind fun (o : Lo Unit Bool) => match o with | .go () => ((rem? (p0.length : Int) 2).bind fun u451 => if (u451 == 0) = true then (some (decide ((p0.length : Int) ≤ 24))) else (some false)) | .ret z => some z
def impl_GoodSet.post (sb s : St) (F0 : Fp) (r : Bool) : Value → St → Prop := fun v s' => v = .bool r ∧ Hp sb s F0 s' []
set_option maxRecDepth 100000 in
set_option maxHeartbeats 4000000 in
theorem impl_GoodSet.ok (sb s : St) (F0 : Fp) (A0p : Option Addr) (c0p : Nat) (p0 : List (Int)) (HRp0 : Rd KI sb A0p c0p p0) (hH : Hp sb s F0 s []) (r : Bool) (H : impl_GoodSet.f p0 = some r) : GCall Try.prog 192 #[.slice A0p p0.length c0p] s (impl_GoodSet.post sb s F0 r) := by
 refine GCall_ofr (impl_GoodSet.post sb s F0) [.tmp 2] (ud [.slice A0p p0.length c0p] 48) Try.func192 rfl rfl rfl fun w Q hQr hQn hQp => ?_
 replace H := topE H
 unfold impl_GoodSet.f at H
 dsimp only [ud, un]
 refine sr fun K1 hK1 => ag (HL_nil (hK1 _ _ ?_))
 dsimp only [putL, setL, evL, getL]
 refine HT_seq_k fun K2 hK2 => sr fun K3 hK3 => mv (hc (o_len rfl Try.underlying24 (mv (HL_nil (hK3 _ _ ?_)))))
 dsimp only [putL, setL, evL, getL]
 refine joinH H fun G4 hG4 H => ?_
 refine HT_toK (fun l' s' => G4 (.go ()) = some r ∧ skim [0] l' = ([.slice A0p p0.length c0p], 49) ∧ Hp sb s F0 s' []) ?_ ?_
 ·intro K4 hK4
  refine HT_block ?_
  refine HT_loopK (fun kf l' s' => ∃ (x300 : Int), (impl_GoodSet.l1 p0 kf x300).bind G4 = some r ∧ skim [0, 5, 0, 0] l' = ([.slice A0p p0.length c0p, .slice A0p p0.length c0p, .int .i64 (p0.length : Int), .int .i64 x300], 41) ∧ Hp sb s F0 s' []) ((((p0.length : Int)) - (0)).toNat + 2) ⟨0, H, rfl, hH⟩ ?_
  rintro kf l' s375 ⟨x300, H, hl, hH⟩ K375 hK375
  revert l'
  refine skA ?_
  dsimp only [Al, Sk]
  intros
  cases kf with
  | zero => simp [impl_GoodSet.l1] at H
  | succ kf =>
   rw [impl_GoodSet.l1] at H
   refine sr fun K376 hK376 => bn rfl rfl rfl (HL_nil (hK376 _ _ ?_))
   dsimp only [putL, setL, evL, getL]
   refine HT_seq_k fun K377 hK377 => ?_
   revert H
   refine ct rfl (fun hb378 H => ?_) (fun hb378 H => ?_)
   ·refine HT_skip (hK377 _ _ (HT_seq_k fun K414 hK414 => (HT_block (sr fun K415 hK415 => (mv ?_)))))
    replace H := headE H
    obtain ⟨u416, hu416, H⟩ := H
    obtain ⟨b416, o416, cs416, hr416, hh416, hel416⟩ := Rd.elb HRp0 hu416
    obtain rfl := hr416
    refine hc (hel416 s375 rfl rfl Try.underlying24 tI3 (hc (o_load' rfl Try.underlying3 rfl ((hh416 hH.bs.mono) 0 _ rfl) ?_)))
    dsimp only [putL, setL, evL, getL]
    refine ag (ag (HL_nil (hK415 _ _ ?_)))
    dsimp only [putL, setL, evL, getL]
    refine sr fun K417 hK417 => ag (HL_nil (hK417 _ _ ?_))
    dsimp only [putL, setL, evL, getL]
    refine joinH H fun G418 hG418 H => ?_
    refine HT_joinK (fun l' s' => ∃ (x431 : Int), G418 x431 = some r ∧ skim [0, 3, 0, 0, 0, 0] l' = ([.slice A0p p0.length c0p, .int .i64 u416, .int .i64 x431, .slice A0p p0.length c0p, .int .i64 (p0.length : Int), .int .i64 x300], 41) ∧ Hp sb s F0 s' []) ?_ ?_
    ·intro K418 hK418
     refine HT_block ?_
     refine joinH H fun G432 hG432 H => ?_
     refine HT_joinK (fun l' s' => ∃ (x435 : Bool), G432 x435 = some r ∧ skim [0, 2, 0, 0, 0, 0, 0, 4] l' = ([.slice A0p p0.length c0p, .int .i64 x300, .int .i64 u416, .int .i64 0, .slice A0p p0.length c0p, .int .i64 (p0.length : Int), .int .i64 x300, .bool x435], 36) ∧ Hp sb s F0 s' []) ?_ ?_
     ·intro K432 hK432
      refine HT_region ?_
      refine mv (bn rfl rfl rfl (mv ?_))
      revert H
      refine it (fun hb436 H => ?_) (fun hb436 H => ?_)
      ·refine wt rfl rfl rfl rfl hb436 (o_move ?_)
       replace H := headE H
       obtain ⟨u437, hu437, H⟩ := H
       try dsimp only [putL, setL, evL, getL]
       refine wt rfl rfl rfl rfl hb436 (o_rem' rfl rfl hu437 (wt rfl rfl rfl rfl hb436 (o_bin rfl rfl rfl (hc (o_pickT rfl hb436 ?_)))))
       dsimp only [putL, setL, evL, getL]
       refine ag (HL_nil ?_)
       exact hK432 _ _ ⟨u437 == 0, H, rfl, hH⟩
      ·refine wf rfl rfl rfl rfl hb436 (wf rfl rfl rfl rfl hb436 ?_)
       dsimp only [putL, setL, evL, getL]
       refine wf rfl rfl rfl rfl hb436 (hc (o_pickF rfl hb436 (ag (HL_nil ?_))))
       exact hK432 _ _ ⟨false, H, rfl, hH⟩
     ·rintro l' s438 ⟨x435, H, hl, hH⟩
      revert l'
      refine skA ?_
      dsimp only [Al, Sk]
      intros
      replace H := hG432 _ H
      try dsimp only at H
      revert H
      refine ct rfl (fun hb439 H => ?_) (fun hb439 H => ?_)
      ·refine HT_region ?_
       try dsimp only [putL, setL, evL, getL]
       refine mv (mv (bn rfl rfl rfl ?_))
       replace H := headE H
       obtain ⟨u440, hu440, H⟩ := H
       obtain ⟨b440, o440, cs440, hr440, hh440, hel440⟩ := Rd.elb HRp0 hu440
       obtain rfl := hr440
       try dsimp only [putL, setL, evL, getL]
       refine hc (hel440 s438 rfl rfl Try.underlying24 tI3 (hc (o_load' rfl Try.underlying3 rfl ((hh440 hH.bs.mono) 0 _ rfl) (bn rfl rfl rfl ?_))))
       dsimp only [putL, setL, evL, getL]
       refine ag (HL_nil ?_)
       exact hK418 _ _ ⟨IntKind.i64.wrap (u440 + 2), H, rfl, hH⟩
      ·refine sr fun K441 hK441 => mv (bn rfl rfl rfl ?_)
       dsimp only [putL, setL, evL, getL]
       refine ag (HL_nil (hK441 _ _ ?_))
       dsimp only [putL, setL, evL, getL]
       revert H
       refine ct rfl (fun hb442 H => ?_) (fun hb442 H => ?_)
       ·refine HT_region ?_
        refine mv (mv (bn rfl rfl rfl ?_))
        replace H := headE H
        obtain ⟨u443, hu443, H⟩ := H
        obtain ⟨b443, o443, cs443, hr443, hh443, hel443⟩ := Rd.elb HRp0 hu443
        obtain rfl := hr443
        try dsimp only [putL, setL, evL, getL]
        refine hc (hel443 s438 rfl rfl Try.underlying24 tI3 (hc (o_load' rfl Try.underlying3 rfl ((hh443 hH.bs.mono) 0 _ rfl) (ag (HL_nil ?_)))))
        exact hK418 _ _ ⟨u443, H, rfl, hH⟩
       ·refine HT_skip ?_
        exact hK418 _ _ ⟨0, H, rfl, hH⟩
    ·rintro l' s444 ⟨x431, H, hl, hH⟩
     revert l'
     refine skA ?_
     dsimp only [Al, Sk]
     intros
     replace H := hG418 _ H
     try dsimp only at H
     refine sr fun K445 hK445 => ?_
     try dsimp only [putL, setL, evL, getL]
     refine mv (mv ?_)
     replace H := headE H
     obtain ⟨u446, hu446, H⟩ := H
     refine hc (o_call (args := #[.int .i64 u416, .int .i64 x431, .int .i64 1114111]) Try.func105 rfl rfl rfl (impl_inRange.ok sb s444 no u416 x431 1114111 (Hp.own hH.bs) _ hu446) ?_)
     rintro _ s446 ⟨rfl, hD⟩
     replace hH := hH.back0 hD (Up.refl _ _ _)
     clear hD
     try dsimp only [putL, setL, evL, getL]
     refine hc (o_not rfl (HL_nil (hK445 _ _ ?_)))
     dsimp only [putL, setL, evL, getL]
     revert H
     refine ct rfl (fun hb447 H => ?_) (fun hb447 H => ?_)
     ·refine sr fun K448 hK448 => ag (HL_nil (hK448 _ _ ?_))
      dsimp only [putL, setL, evL, getL]
      refine HT_ret ?_
      replace H := escH (fun z hz => hG4 _ hz) H
      exact hQr _ _ [.bool false] _ ⟨rfl, trivial⟩ H ⟨rfl, hH⟩
     ·refine HT_skip (hK414 _ _ ?_)
      refine HT_region ?_
      refine bn rfl rfl rfl (mv (HL_nil ?_))
      exact hK375 _ _ ⟨kf, Nat.lt_succ_self kf, IntKind.i64.wrap (x300 + 1), H, rfl, hH⟩
   ·refine HT_exit ?_
    exact hK4 _ _ ⟨H, rfl, hH⟩
 ·rintro l' s449 ⟨H, hl, hH⟩
  revert l'
  refine skA ?_
  dsimp only [Al, Sk]
  intros
  replace H := hG4 _ H
  try dsimp only at H
  refine hK2 _ _ ?_
  refine sr fun K450 hK450 => mv ?_
  dsimp only [putL, setL, evL, getL]
  refine hc (o_len rfl Try.underlying24 ?_)
  replace H := headE H
  obtain ⟨u451, hu451, H⟩ := H
  refine hc (o_rem' rfl rfl hu451 (bn rfl rfl rfl ?_))
  dsimp only [putL, setL, evL, getL]
  refine mv ?_
  revert H
  refine it (fun hb452 H => ?_) (fun hb452 H => ?_)
  ·refine wt rfl rfl rfl rfl hb452 (o_move (wt rfl rfl rfl rfl hb452 (o_len rfl Try.underlying24 ?_)))
   dsimp only [putL, setL, evL, getL]
   refine wt rfl rfl rfl rfl hb452 (o_bin rfl rfl rfl (hc (o_pickT rfl hb452 (ag (HL_nil (hK450 _ _ ?_))))))
   dsimp only [putL, setL, evL, getL]
   refine HT_ret ?_
   exact hQr _ _ [.bool (decide ((p0.length : Int) ≤ 24))] _ ⟨rfl, trivial⟩ H ⟨rfl, hH⟩
  ·refine wf rfl rfl rfl rfl hb452 (wf rfl rfl rfl rfl hb452 (wf rfl rfl rfl rfl hb452 ?_))
   dsimp only [putL, setL, evL, getL]
   refine hc (o_pickF rfl hb452 (ag (HL_nil (hK450 _ _ ?_))))
   dsimp only [putL, setL, evL, getL]
   refine HT_ret ?_
   exact hQr _ _ [.bool false] _ ⟨rfl, trivial⟩ H ⟨rfl, hH⟩
def impl_GoodRune.f (p0 : Int) : Option Bool := (impl_inRange.f p0 0 1114111).bind fun u3 => if u3 = true then ((impl_inRange.f p0 55296 57343).bind fun u5 => some (!u5)) else (some false)
def impl_GoodRune.post (sb s : St) (F0 : Fp) (r : Bool) : Value → St → Prop := fun v s' => v = .bool r ∧ Hp sb s F0 s' []
set_option maxRecDepth 100000 in
set_option maxHeartbeats 4000000 in
theorem impl_GoodRune.ok (sb s : St) (F0 : Fp) (p0 : Int) (hH : Hp sb s F0 s []) (r : Bool) (H : impl_GoodRune.f p0 = some r) : GCall Try.prog 146 #[.int .i64 p0] s (impl_GoodRune.post sb s F0 r) := by
 refine GCall_ofr (impl_GoodRune.post sb s F0) [.tmp 2] (ud [.int .i64 p0] 9) Try.func146 rfl rfl rfl fun w Q hQr hQn hQp => ?_
 replace H := topE H
 unfold impl_GoodRune.f at H
 dsimp only [ud, un]
 refine sr fun K1 hK1 => ag (HL_nil (hK1 _ _ ?_))
 dsimp only [putL, setL, evL, getL]
 refine sr fun K2 hK2 => mv ?_
 replace H := headE H
 obtain ⟨u3, hu3, H⟩ := H
 refine hc (o_call (args := #[.int .i64 p0, .int .i64 0, .int .i64 1114111]) Try.func105 rfl rfl rfl (impl_inRange.ok sb s no p0 0 1114111 (Hp.own hH.bs) _ hu3) ?_)
 rintro _ s3 ⟨rfl, hD⟩
 replace hH := hH.back0 hD (Up.refl _ _ _)
 clear hD
 refine mv ?_
 revert H
 refine it (fun hb4 H => ?_) (fun hb4 H => ?_)
 ·refine wt rfl rfl rfl rfl hb4 (o_move ?_)
  replace H := headE H
  obtain ⟨u5, hu5, H⟩ := H
  try dsimp only [putL, setL, evL, getL]
  refine wt rfl rfl rfl rfl hb4 (o_call (args := #[.int .i64 p0, .int .i64 55296, .int .i64 57343]) Try.func105 rfl rfl rfl (impl_inRange.ok sb s3 no p0 55296 57343 (Hp.own hH.bs) _ hu5) ?_)
  rintro _ s5 ⟨rfl, hD⟩
  replace hH := hH.back0 hD (Up.refl _ _ _)
  clear hD
  refine wt rfl rfl rfl rfl hb4 (o_not rfl (hc (o_pickT rfl hb4 ?_)))
  dsimp only [putL, setL, evL, getL]
  refine ag (HL_nil (hK2 _ _ ?_))
  dsimp only [putL, setL, evL, getL]
  refine HT_ret ?_
  exact hQr _ _ [.bool (!u5)] _ ⟨rfl, trivial⟩ H ⟨rfl, hH⟩
 ·refine wf rfl rfl rfl rfl hb4 (wf rfl rfl rfl rfl hb4 (wf rfl rfl rfl rfl hb4 ?_))
  dsimp only [putL, setL, evL, getL]
  refine hc (o_pickF rfl hb4 (ag (HL_nil (hK2 _ _ ?_))))
  dsimp only [putL, setL, evL, getL]
  refine HT_ret ?_
  exact hQr _ _ [.bool false] _ ⟨rfl, trivial⟩ H ⟨rfl, hH⟩
def impl_GoodRe_1_1.f (p0 : Int) : Option Bool := (impl_GoodRune.f p0).bind fun u3 => some (!u3)
def impl_GoodRe_1_1.post (sb s : St) (F0 : Fp) (r : Bool) : Value → St → Prop := fun v s' => v = .bool r ∧ Hp sb s F0 s' []
set_option maxRecDepth 100000 in
set_option maxHeartbeats 4000000 in
theorem impl_GoodRe_1_1.ok (sb s : St) (F0 : Fp) (p0 : Int) (hH : Hp sb s F0 s []) (r : Bool) (H : impl_GoodRe_1_1.f p0 = some r) : GCall Try.prog 193 #[.int .i64 p0] s (impl_GoodRe_1_1.post sb s F0 r) := by
 refine GCall_ofr (impl_GoodRe_1_1.post sb s F0) [.tmp 2] (ud [.int .i64 p0] 5) Try.func193 rfl rfl rfl fun w Q hQr hQn hQp => ?_
 replace H := topE H
 unfold impl_GoodRe_1_1.f at H
 dsimp only [ud, un]
 refine sr fun K1 hK1 => ag (HL_nil (hK1 _ _ ?_))
 dsimp only [putL, setL, evL, getL]
 refine sr fun K2 hK2 => mv ?_
 replace H := headE H
 obtain ⟨u3, hu3, H⟩ := H
 refine hc (o_call (args := #[.int .i64 p0]) Try.func146 rfl rfl rfl (impl_GoodRune.ok sb s no p0 (Hp.own hH.bs) _ hu3) ?_)
 rintro _ s3 ⟨rfl, hD⟩
 replace hH := hH.back0 hD (Up.refl _ _ _)
 clear hD
 refine hc (o_not rfl ?_)
 dsimp only [putL, setL, evL, getL]
 refine ag (HL_nil (hK2 _ _ ?_))
 dsimp only [putL, setL, evL, getL]
 refine HT_ret ?_
 exact hQr _ _ [.bool (!u3)] _ ⟨rfl, trivial⟩ H ⟨rfl, hH⟩
def slices_IndexFunc_int_int_impl_GoodRe_1_1.l1 (p0 : List (Int)) : Nat → Int → Option (Lo Unit Int)
 | 0, _ => none
 | kf + 1, x48 => if (decide (x48 < (p0.length : Int))) = true then ((rd? p0 x48).bind fun u67 => (impl_GoodRe_1_1.f u67).bind fun u68 => if u68 = true then ((some x48).bind fun z => some (Lo.ret z)) else (slices_IndexFunc_int_int_impl_GoodRe_1_1.l1 p0 kf (IntKind.i64.wrap (x48 + 1)))) else (some (Lo.go ()))
def slices_IndexFunc_int_int_impl_GoodRe_1_1.f (p0 : List (Int)) : Option Int := (slices_IndexFunc_int_int_impl_GoodRe_1_1.l1 p0 ((((p0.length : Int)) - (0)).toNat + 2) 0).bind fun (o : Lo Unit Int) => match o with | .go () => (some (-1)) | .ret z => some z
def slices_IndexFunc_int_int_impl_GoodRe_1_1.post (sb s : St) (F0 : Fp) (r : Int) : Value → St → Prop := fun v s' => v = .int .i64 r ∧ Hp sb s F0 s' []
set_option maxRecDepth 100000 in
set_option maxHeartbeats 4000000 in
theorem slices_IndexFunc_int_int_impl_GoodRe_1_1.ok (sb s : St) (F0 : Fp) (A0p : Option Addr) (c0p : Nat) (p0 : List (Int)) (HRp0 : Rd KI sb A0p c0p p0) (hH : Hp sb s F0 s []) (r : Int) (H : slices_IndexFunc_int_int_impl_GoodRe_1_1.f p0 = some r) : GCall Try.prog 184 #[.slice A0p p0.length c0p, .func (.func 193) #[] #[]] s (slices_IndexFunc_int_int_impl_GoodRe_1_1.post sb s F0 r) := by
 refine GCall_ofr (slices_IndexFunc_int_int_impl_GoodRe_1_1.post sb s F0) [.tmp 4] (ud [.slice A0p p0.length c0p, .func (.func 193) #[] #[]] 17) Try.func184 rfl rfl rfl fun w Q hQr hQn hQp => ?_
 replace H := topE H
 unfold slices_IndexFunc_int_int_impl_GoodRe_1_1.f at H
 dsimp only [ud, un]
 refine sr fun K1 hK1 => ag (HL_nil (hK1 _ _ ?_))
 dsimp only [putL, setL, evL, getL]
 refine HT_seq_k fun K2 hK2 => sr fun K3 hK3 => mv (hc (o_len rfl Try.underlying24 (mv (HL_nil (hK3 _ _ ?_)))))
 dsimp only [putL, setL, evL, getL]
 refine joinH H fun G4 hG4 H => ?_
 refine HT_toK (fun l' s' => G4 (.go ()) = some r ∧ skim [] l' = ([], 20) ∧ Hp sb s F0 s' []) ?_ ?_
 ·intro K4 hK4
  refine HT_block ?_
  refine HT_loopK (fun kf l' s' => ∃ (x48 : Int), (slices_IndexFunc_int_int_impl_GoodRe_1_1.l1 p0 kf x48).bind G4 = some r ∧ skim [0, 0, 5, 0] l' = ([.slice A0p p0.length c0p, .func (.func 193) #[] #[], .int .i64 (p0.length : Int), .int .i64 x48], 11) ∧ Hp sb s F0 s' []) ((((p0.length : Int)) - (0)).toNat + 2) ⟨0, H, rfl, hH⟩ ?_
  rintro kf l' s60 ⟨x48, H, hl, hH⟩ K60 hK60
  revert l'
  refine skA ?_
  dsimp only [Al, Sk]
  intros
  cases kf with
  | zero => simp [slices_IndexFunc_int_int_impl_GoodRe_1_1.l1] at H
  | succ kf =>
   rw [slices_IndexFunc_int_int_impl_GoodRe_1_1.l1] at H
   refine sr fun K61 hK61 => bn rfl rfl rfl (HL_nil (hK61 _ _ ?_))
   dsimp only [putL, setL, evL, getL]
   refine HT_seq_k fun K62 hK62 => ?_
   revert H
   refine ct rfl (fun hb63 H => ?_) (fun hb63 H => ?_)
   ·refine HT_skip (hK62 _ _ (HT_seq_k fun K64 hK64 => (HT_block (sr fun K65 hK65 => (mv (ag (HL_nil (hK65 _ _ ?_))))))))
    dsimp only [putL, setL, evL, getL]
    refine sr fun K66 hK66 => mv (mv (mv ?_))
    replace H := headE H
    obtain ⟨u67, hu67, H⟩ := H
    obtain ⟨b67, o67, cs67, hr67, hh67, hel67⟩ := Rd.elb HRp0 hu67
    obtain rfl := hr67
    try dsimp only [putL, setL, evL, getL]
    refine hc (hel67 s60 rfl rfl Try.underlying24 tI3 (hc (o_load' rfl Try.underlying3 rfl ((hh67 hH.bs.mono) 0 _ rfl) ?_)))
    replace H := headE H
    obtain ⟨u68, hu68, H⟩ := H
    refine hc (o_callv (first := #[]) (cap := #[]) (args := #[.int .i64 u67]) rfl Try.func193 rfl rfl [.int .i64 u67] rfl (by simp) (impl_GoodRe_1_1.ok sb s60 no u67 (Hp.own hH.bs) _ hu68) ?_)
    rintro _ s68 ⟨rfl, hD⟩
    replace hH := hH.back0 hD (Up.refl _ _ _)
    clear hD
    refine HL_nil (hK66 _ _ ?_)
    try dsimp only [putL, setL, evL, getL]
    revert H
    refine ct rfl (fun hb69 H => ?_) (fun hb69 H => ?_)
    ·refine sr fun K70 hK70 => mv (ag (HL_nil (hK70 _ _ ?_)))
     dsimp only [putL, setL, evL, getL]
     refine HT_ret ?_
     replace H := escH (fun z hz => hG4 _ hz) H
     exact hQr _ _ [.int .i64 x48] _ ⟨rfl, trivial⟩ H ⟨rfl, hH⟩
    ·refine HT_skip (hK64 _ _ ?_)
     refine HT_region ?_
     refine bn rfl rfl rfl (mv (HL_nil ?_))
     exact hK60 _ _ ⟨kf, Nat.lt_succ_self kf, IntKind.i64.wrap (x48 + 1), H, rfl, hH⟩
   ·refine HT_exit ?_
    exact hK4 _ _ ⟨H, rfl, hH⟩
 ·rintro l' s71 ⟨H, hl, hH⟩
  revert l'
  refine skA ?_
  dsimp only [Al, Sk]
  intros
  replace H := hG4 _ H
  try dsimp only at H
  refine hK2 _ _ ?_
  refine sr fun K72 hK72 => ag (HL_nil (hK72 _ _ ?_))
  dsimp only [putL, setL, evL, getL]
  refine HT_ret ?_
  exact hQr _ _ [.int .i64 (-1)] _ ⟨rfl, trivial⟩ H ⟨rfl, hH⟩
def slices_ContainsFunc_int_int_impl_GoodRe_1_1.f (p0 : List (Int)) : Option Bool := (slices_IndexFunc_int_int_impl_GoodRe_1_1.f p0).bind fun u3 => some (decide (u3 ≥ 0))
def slices_ContainsFunc_int_int_impl_GoodRe_1_1.post (sb s : St) (F0 : Fp) (r : Bool) : Value → St → Prop := fun v s' => v = .bool r ∧ Hp sb s F0 s' []
set_option maxRecDepth 100000 in
set_option maxHeartbeats 4000000 in
theorem slices_ContainsFunc_int_int_impl_GoodRe_1_1.ok (sb s : St) (F0 : Fp) (A0p : Option Addr) (c0p : Nat) (p0 : List (Int)) (HRp0 : Rd KI sb A0p c0p p0) (hH : Hp sb s F0 s []) (r : Bool) (H : slices_ContainsFunc_int_int_impl_GoodRe_1_1.f p0 = some r) : GCall Try.prog 114 #[.slice A0p p0.length c0p, .func (.func 193) #[] #[]] s (slices_ContainsFunc_int_int_impl_GoodRe_1_1.post sb s F0 r) := by
 refine GCall_ofr (slices_ContainsFunc_int_int_impl_GoodRe_1_1.post sb s F0) [.tmp 4] (ud [.slice A0p p0.length c0p, .func (.func 193) #[] #[]] 7) Try.func114 rfl rfl rfl fun w Q hQr hQn hQp => ?_
 replace H := topE H
 unfold slices_ContainsFunc_int_int_impl_GoodRe_1_1.f at H
 dsimp only [ud, un]
 refine sr fun K1 hK1 => ag (HL_nil (hK1 _ _ ?_))
 dsimp only [putL, setL, evL, getL]
 refine sr fun K2 hK2 => mv (mv ?_)
 replace H := headE H
 obtain ⟨u3, hu3, H⟩ := H
 refine hc (o_call (args := #[.slice A0p p0.length c0p, .func (.func 193) #[] #[]]) Try.func184 rfl rfl rfl (slices_IndexFunc_int_int_impl_GoodRe_1_1.ok sb s no A0p c0p p0 HRp0 (Hp.own hH.bs) _ hu3) ?_)
 rintro _ s3 ⟨rfl, hD⟩
 replace hH := hH.back0 hD (Up.refl _ _ _)
 clear hD
 try dsimp only [putL, setL, evL, getL]
 refine bn rfl rfl rfl (ag (HL_nil (hK2 _ _ ?_)))
 dsimp only [putL, setL, evL, getL]
 refine HT_ret ?_
 exact hQr _ _ [.bool (decide (u3 ≥ 0))] _ ⟨rfl, trivial⟩ H ⟨rfl, hH⟩
end Go.Proofs.Ytkieinlcpkpcjaa
