/- The functions that the law reaches, as plain functions, each with its contract: printed by a program of the prover's. No conditions: lemmas. -/
import Derived.Test.YtkieinlcpkpcjaaProg
import Derived.Test.YtkieinlcpkpcjaaGP
set_option linter.unusedVariables false
set_option linter.unusedSimpArgs false
namespace Go.Proofs.Ytkieinlcpkpcjaa
open Go Go.Proofs.GL
attribute [local irreducible] HL HT HX HK
abbrev KS135 := (Kd.pair KI (Kd.sl KI))
abbrev OS135 : Ow KS135 := (Ow.pair OI (Ow.sl OI 3))
abbrev OL135 : Ow KS135 := (Ow.pair OI (Ow.lent (Kd.sl KI)))
abbrev KS139 := (Kd.pair KI (Kd.sl KI))
abbrev OS139 : Ow KS139 := (Ow.pair OI (Ow.sl OI 3))
abbrev OL139 : Ow KS139 := (Ow.pair OI (Ow.lent (Kd.sl KI)))
abbrev KS138 := (Kd.pair KI (Kd.pair KI KI))
abbrev OS138 : Ow KS138 := (Ow.pair OI (Ow.pair OI OI))
abbrev KS219 := (Kd.pair KI KI)
abbrev OS219 : Ow KS219 := (Ow.pair OI OI)
theorem tI3 : TI Try.prog 3 (.int .i64 0) 1 8 := by unfold TI; kernel_rfl
theorem tI4 : TI Try.prog 4 (.bool false) 1 1 := by unfold TI; kernel_rfl
theorem tI24 : TI Try.prog 24 (.slice none 0 0) 1 24 := by unfold TI; kernel_rfl
theorem tI57 : TI Try.prog 57 (.slice none 0 0) 1 24 := by unfold TI; kernel_rfl
theorem tI105 : TI Try.prog 105 (.slice none 0 0) 1 24 := by unfold TI; kernel_rfl
theorem tI135 : TI Try.prog 135 (.agg #[.int .i64 0, .slice none 0 0]) 2 32 := by unfold TI; kernel_rfl
theorem tI138 : TI Try.prog 138 (.agg #[.int .i64 0, .int .i64 0, .int .i64 0]) 3 24 := by unfold TI; kernel_rfl
theorem tI139 : TI Try.prog 139 (.agg #[.int .i64 0, .slice none 0 0]) 2 32 := by unfold TI; kernel_rfl
theorem tI163 : TI Try.prog 163 (.slice none 0 0) 1 24 := by unfold TI; kernel_rfl
theorem tI165 : TI Try.prog 165 (.agg #[.slice none 0 0, .slice none 0 0, .slice none 0 0, .slice none 0 0]) 4 96 := by unfold TI; kernel_rfl
theorem tI178 : TI Try.prog 178 (.slice none 0 0) 1 24 := by unfold TI; kernel_rfl
theorem tI209 : TI Try.prog 209 (.slice none 0 0) 1 24 := by unfold TI; kernel_rfl
theorem tI219 : TI Try.prog 219 (.agg #[.int .i64 0, .int .i64 0]) 2 16 := by unfold TI; kernel_rfl
theorem hMix : Try.prog.follows .mixedOrders = true := by kernel_rfl
def laws_szIntS.f (p0 : List (Int)) (p1 : Int) : Option Int := if (decide ((IntKind.i64.wrap (p1 - (p0.length : Int))) < 0)) = true then (some (-1)) else (some (IntKind.i64.wrap (p1 - (p0.length : Int))))
def laws_szIntS.post (sb s : St) (F0 : Fp) (r : Int) : Value → St → Prop := fun v s' => v = .int .i64 r ∧ Hp sb s F0 s' []
set_option maxRecDepth 100000 in
set_option maxHeartbeats 4000000 in
theorem laws_szIntS.ok (sb s : St) (F0 : Fp) (A0p : Option Addr) (c0p : Nat) (p0 : List (Int)) (p1 : Int) (HRp0 : Rd KI sb A0p c0p p0) (hH : Hp sb s F0 s []) (r : Int) (H : laws_szIntS.f p0 p1 = some r) : GCall Try.prog 188 #[.slice A0p p0.length c0p, .int .i64 p1] s (laws_szIntS.post sb s F0 r) := by
 refine GCall_ofr (laws_szIntS.post sb s F0) [.tmp 4] (ud [.slice A0p p0.length c0p, .int .i64 p1] 10) Try.func188 rfl rfl rfl fun w Q hQr hQn hQp => ?_
 replace H := topE H
 unfold laws_szIntS.f at H
 dsimp only [ud, un]
 refine sr fun K1 hK1 => ag (HL_nil (hK1 _ _ ?_))
 dsimp only [putL, setL, evL, getL]
 refine sr fun K2 hK2 => mv (mv (hc (o_len rfl Try.underlying24 ?_)))
 dsimp only [putL, setL, evL, getL]
 refine bn rfl rfl rfl (ag (HL_nil (hK2 _ _ ?_)))
 dsimp only [putL, setL, evL, getL]
 refine HT_seq_k fun K3 hK3 => sr fun K4 hK4 => mv (bn rfl rfl rfl (HL_nil (hK4 _ _ ?_)))
 dsimp only [putL, setL, evL, getL]
 revert H
 refine ct rfl (fun hb5 H => ?_) (fun hb5 H => ?_)
 ·refine sr fun K6 hK6 => ag (HL_nil (hK6 _ _ ?_))
  dsimp only [putL, setL, evL, getL]
  refine HT_ret ?_
  exact hQr _ _ [.int .i64 (-1)] _ ⟨rfl, trivial⟩ H ⟨rfl, hH⟩
 ·refine HT_skip (hK3 _ _ (sr fun K7 hK7 => (mv (ag (HL_nil (hK7 _ _ ?_))))))
  dsimp only [putL, setL, evL, getL]
  refine HT_ret ?_
  exact hQr _ _ [.int .i64 (IntKind.i64.wrap (p1 - (p0.length : Int)))] _ ⟨rfl, trivial⟩ H ⟨rfl, hH⟩
def laws_szRe.f (p0_0 : Int) (p0_1 : List (Int)) (p1 : Int) : Option Int := (laws_szIntS.f p0_1 p1).bind fun u4 => if (decide (u4 < 0)) = true then (some (-1)) else (some u4)
def laws_szRe.post (sb s : St) (F0 : Fp) (r : Int) : Value → St → Prop := fun v s' => v = .int .i64 r ∧ Hp sb s F0 s' []
set_option maxRecDepth 100000 in
set_option maxHeartbeats 4000000 in
theorem laws_szRe.ok (sb s : St) (F0 : Fp) (p0_0 : Int) (A0_1p : Option Addr) (c0_1p : Nat) (p0_1 : List (Int)) (p1 : Int) (HRp0_1 : Rd KI sb A0_1p c0_1p p0_1) (hH : Hp sb s F0 s []) (r : Int) (H : laws_szRe.f p0_0 p0_1 p1 = some r) : GCall Try.prog 127 #[.agg #[.int .i64 p0_0, .slice A0_1p p0_1.length c0_1p], .int .i64 p1] s (laws_szRe.post sb s F0 r) := by
 refine GCall_ofr (laws_szRe.post sb s F0) [.tmp 4] (ud [.agg #[.int .i64 p0_0, .slice A0_1p p0_1.length c0_1p], .int .i64 p1] 10) Try.func127 rfl rfl rfl fun w Q hQr hQn hQp => ?_
 replace H := topE H
 unfold laws_szRe.f at H
 dsimp only [ud, un]
 refine sr fun K1 hK1 => hc (o_boxH hH rfl ?_)
 clear hH
 intro b2 s2 hH _
 refine ag (HL_nil (hK1 _ _ ?_))
 dsimp only [putL, setL, evL, getL]
 refine sr fun K3 hK3 => hc (o_faddr' (ft := 24) (off := 1) rfl Try.underlying135 rfl tI24 (by decide) (hc (o_load' rfl Try.underlying24 rfl (hH.hasv 0 rfl rfl) (mv ?_))))
 replace H := headE H
 obtain ⟨u4, hu4, H⟩ := H
 try dsimp only [putL, setL, evL, getL]
 refine hc (o_call (args := #[.slice A0_1p p0_1.length c0_1p, .int .i64 p1]) Try.func188 rfl rfl rfl (laws_szIntS.ok sb s2 no A0_1p c0_1p p0_1 p1 HRp0_1 (Hp.own hH.bs) _ hu4) ?_)
 rintro _ s4 ⟨rfl, hD⟩
 replace hH := hH.back0 hD (Up.refl _ _ _)
 clear hD
 refine ag (HL_nil (hK3 _ _ ?_))
 dsimp only [putL, setL, evL, getL]
 refine HT_seq_k fun K5 hK5 => sr fun K6 hK6 => mv (bn rfl rfl rfl (HL_nil (hK6 _ _ ?_)))
 dsimp only [putL, setL, evL, getL]
 revert H
 refine ct rfl (fun hb7 H => ?_) (fun hb7 H => ?_)
 ·refine sr fun K8 hK8 => ag (HL_nil (hK8 _ _ ?_))
  dsimp only [putL, setL, evL, getL]
  refine HT_ret ?_
  exact hQr _ _ [.int .i64 (-1)] _ ⟨rfl, trivial⟩ H ⟨rfl, hH.sel [] (by decide)⟩
 ·refine HT_skip (hK5 _ _ (sr fun K9 hK9 => (mv (ag (HL_nil (hK9 _ _ ?_))))))
  dsimp only [putL, setL, evL, getL]
  refine HT_ret ?_
  exact hQr _ _ [.int .i64 u4] _ ⟨rfl, trivial⟩ H ⟨rfl, hH.sel [] (by decide)⟩
def laws_szReS.l1 (p0 : List ((Int) × (List (Int)))) : Nat → Int → Int → Option (Lo Int Int)
 | 0, _, _ => none
 | kf + 1, x60, x61 => if (decide (x61 < (p0.length : Int))) = true then ((rd? p0 x61).bind fun u81 => (laws_szRe.f u81.1 u81.2 x60).bind fun u83 => if (decide (u83 < 0)) = true then ((some (-1)).bind fun z => some (Lo.ret z)) else (laws_szReS.l1 p0 kf u83 (IntKind.i64.wrap (x61 + 1)))) else (some (Lo.go x60))
def laws_szReS.f (p0 : List ((Int) × (List (Int)))) (p1 : Int) : Option Int := if (decide ((IntKind.i64.wrap (p1 - (p0.length : Int))) < 0)) = true then (some (-1)) else ((laws_szReS.l1 p0 ((((p0.length : Int)) - (0)).toNat + 2) (IntKind.i64.wrap (p1 - (p0.length : Int))) 0).bind fun (o : Lo Int Int) => match o with | .go x48 => (some x48) | .ret z => some z)
def laws_szReS.post (sb s : St) (F0 : Fp) (r : Int) : Value → St → Prop := fun v s' => v = .int .i64 r ∧ Hp sb s F0 s' []
set_option maxRecDepth 100000 in
set_option maxHeartbeats 4000000 in
theorem laws_szReS.ok (sb s : St) (F0 : Fp) (A0p : Option Addr) (c0p : Nat) (p0 : List ((Int) × (List (Int)))) (p1 : Int) (HRp0 : Rd KS135 sb A0p c0p p0) (hH : Hp sb s F0 s []) (r : Int) (H : laws_szReS.f p0 p1 = some r) : GCall Try.prog 37 #[.slice A0p p0.length c0p, .int .i64 p1] s (laws_szReS.post sb s F0 r) := by
 refine GCall_ofr (laws_szReS.post sb s F0) [.tmp 4] (ud [.slice A0p p0.length c0p, .int .i64 p1] 25) Try.func37 rfl rfl rfl fun w Q hQr hQn hQp => ?_
 replace H := topE H
 unfold laws_szReS.f at H
 dsimp only [ud, un]
 refine sr fun K1 hK1 => ag (HL_nil (hK1 _ _ ?_))
 dsimp only [putL, setL, evL, getL]
 refine sr fun K2 hK2 => mv (mv (hc (o_len rfl Try.underlying50 ?_)))
 dsimp only [putL, setL, evL, getL]
 refine bn rfl rfl rfl (ag (HL_nil (hK2 _ _ ?_)))
 dsimp only [putL, setL, evL, getL]
 refine HT_seq_k fun K3 hK3 => sr fun K4 hK4 => mv (bn rfl rfl rfl (HL_nil (hK4 _ _ ?_)))
 dsimp only [putL, setL, evL, getL]
 revert H
 refine ct rfl (fun hb5 H => ?_) (fun hb5 H => ?_)
 ·refine sr fun K6 hK6 => ag (HL_nil (hK6 _ _ ?_))
  dsimp only [putL, setL, evL, getL]
  refine HT_ret ?_
  exact hQr _ _ [.int .i64 (-1)] _ ⟨rfl, trivial⟩ H ⟨rfl, hH⟩
 ·refine HT_skip (hK3 _ _ (HT_seq_k fun K7 hK7 => (sr fun K8 hK8 => (ag (HL_nil (hK8 _ _ ?_))))))
  dsimp only [putL, setL, evL, getL]
  refine joinH H fun G9 hG9 H => ?_
  refine HT_toK (fun l' s' => ∃ (x48 : Int), G9 (.go x48) = some r ∧ skim [1] l' = ([.int .i64 x48], 26) ∧ Hp sb s F0 s' []) ?_ ?_
  ·intro K9 hK9
   refine HT_block ?_
   refine HT_loopK (fun kf l' s' => ∃ (x60 : Int) (x61 : Int), (laws_szReS.l1 p0 kf x60 x61).bind G9 = some r ∧ skim [0, 0, 3] l' = ([.slice A0p p0.length c0p, .int .i64 x60, .int .i64 x61], 22) ∧ Hp sb s F0 s' []) ((((p0.length : Int)) - (0)).toNat + 2) ⟨IntKind.i64.wrap (p1 - (p0.length : Int)), 0, H, rfl, hH⟩ ?_
   rintro kf l' s75 ⟨x60, x61, H, hl, hH⟩ K75 hK75
   revert l'
   refine skA ?_
   dsimp only [Al, Sk]
   intros
   cases kf with
   | zero => simp [laws_szReS.l1] at H
   | succ kf =>
    rw [laws_szReS.l1] at H
    refine HT_seq_k fun K76 hK76 => sr fun K77 hK77 => mv (mv (hc (o_len rfl Try.underlying50 ?_)))
    dsimp only [putL, setL, evL, getL]
    refine bn rfl rfl rfl (HL_nil (hK77 _ _ ?_))
    dsimp only [putL, setL, evL, getL]
    revert H
    refine ct rfl (fun hb78 H => ?_) (fun hb78 H => ?_)
    ·refine HT_skip (hK76 _ _ (HT_seq_k fun K79 hK79 => (HT_block (sr fun K80 hK80 => (mv (mv ?_))))))
     replace H := headE H
     obtain ⟨u81, hu81, H⟩ := H
     obtain ⟨b81, o81, cs81, hr81, hh81, hel81⟩ := Rd.elb HRp0 hu81
     obtain ⟨_, _, rfl, rfl, ⟨A82, c82, rfl, D82⟩⟩ := hr81
     refine hc (hel81 s75 rfl rfl Try.underlying50 tI135 ?_)
     dsimp only [putL, setL, evL, getL]
     refine hc (o_loads' [.int .i64 u81.1, .slice A82 u81.2.length c82] rfl Try.underlying135 rfl tI135 rfl (fun j v hj => (hh81 hH.bs.mono) j v hj) (mv ?_))
     replace H := headE H
     obtain ⟨u83, hu83, H⟩ := H
     refine hc (o_call (args := #[.agg #[.int .i64 u81.1, .slice A82 u81.2.length c82], .int .i64 x60]) Try.func127 rfl rfl rfl (laws_szRe.ok sb s75 no u81.1 A82 c82 u81.2 x60 D82 (Hp.own hH.bs) _ hu83) ?_)
     rintro _ s83 ⟨rfl, hD⟩
     replace hH := hH.back0 hD (Up.refl _ _ _)
     clear hD
     try dsimp only [putL, setL, evL, getL]
     refine ag (HL_nil (hK80 _ _ ?_))
     dsimp only [putL, setL, evL, getL]
     refine sr fun K84 hK84 => mv (bn rfl rfl rfl (HL_nil (hK84 _ _ ?_)))
     dsimp only [putL, setL, evL, getL]
     revert H
     refine ct rfl (fun hb85 H => ?_) (fun hb85 H => ?_)
     ·refine sr fun K86 hK86 => ag (HL_nil (hK86 _ _ ?_))
      dsimp only [putL, setL, evL, getL]
      refine HT_ret ?_
      replace H := escH (fun z hz => hG9 _ hz) H
      exact hQr _ _ [.int .i64 (-1)] _ ⟨rfl, trivial⟩ H ⟨rfl, hH⟩
     ·refine HT_skip (hK79 _ _ ?_)
      refine HT_region ?_
      refine mv (bn rfl rfl rfl (ag (HL_nil ?_)))
      exact hK75 _ _ ⟨kf, Nat.lt_succ_self kf, u83, IntKind.i64.wrap (x61 + 1), H, rfl, hH⟩
    ·refine HT_exit ?_
     exact hK9 _ _ ⟨x60, H, rfl, hH⟩
  ·rintro l' s87 ⟨x48, H, hl, hH⟩
   revert l'
   refine skA ?_
   dsimp only [Al, Sk]
   intros
   replace H := hG9 _ H
   try dsimp only at H
   refine hK7 _ _ ?_
   refine sr fun K88 hK88 => ?_
   try dsimp only [putL, setL, evL, getL]
   refine mv (ag (HL_nil (hK88 _ _ ?_)))
   dsimp only [putL, setL, evL, getL]
   refine HT_ret ?_
   exact hQr _ _ [.int .i64 x48] _ ⟨rfl, trivial⟩ H ⟨rfl, hH⟩
def laws_toIntS.l1 (p0 : List (Int)) : Nat → (List (Int)) → Int → Option (List (Int))
 | 0, _, _ => none
 | kf + 1, x41, x42 => if (decide (x42 < (p0.length : Int))) = true then ((rd? p0 x42).bind fun u57 => (rd? x41 x42).bind fun u58 => (st? x41 x42 u57).bind fun x59 => laws_toIntS.l1 p0 kf x59 (IntKind.i64.wrap (x42 + 1))) else (some x41)
def laws_toIntS.f (p0 : List (Int)) : Option (List (Int)) := (mk? 17592186044416 0 (p0.length : Int)).bind fun x3 => (laws_toIntS.l1 p0 ((((p0.length : Int)) - (0)).toNat + 2) x3 0).bind fun (o : (List (Int))) => match o with | x33 => (some x33)
def laws_toIntS.post (sb s : St) (F0 : Fp) (r : (List (Int))) : Value → St → Prop := fun v s' => ∃ (A0 : Option Addr) (c0 : Nat), v = .slice A0 r.length c0 ∧ Hp sb s F0 s' [Ck.ol OI 3 A0 c0 r]
set_option maxRecDepth 100000 in
set_option maxHeartbeats 4000000 in
theorem laws_toIntS.ok (sb s : St) (F0 : Fp) (A0p : Option Addr) (c0p : Nat) (p0 : List (Int)) (HRp0 : Rd KI sb A0p c0p p0) (hH : Hp sb s F0 s []) (r : (List (Int))) (H : laws_toIntS.f p0 = some r) : GCall Try.prog 61 #[.slice A0p p0.length c0p] s (laws_toIntS.post sb s F0 r) := by
 refine GCall_ofr (laws_toIntS.post sb s F0) [.tmp 2] (ud [.slice A0p p0.length c0p] 21) Try.func61 rfl rfl rfl fun w Q hQr hQn hQp => ?_
 replace H := topE H
 unfold laws_toIntS.f at H
 dsimp only [ud, un]
 refine sr fun K1 hK1 => ag (HL_nil (hK1 _ _ ?_))
 dsimp only [putL, setL, evL, getL]
 refine sr fun K2 hK2 => mv (hc (o_len rfl Try.underlying24 ?_))
 replace H := headE H
 obtain ⟨x3, hx3, H⟩ := H
 refine hc (o_makeH (K := KI) (O := OI) (x0 := 0) hH rfl Try.underlying24 tI3 rfl (by decide) (by decide) (by decide) (Own0.fl fun _ => rfl) hx3 ?_)
 clear hH
 intro A3 c3 s3 hH _
 try dsimp only [putL, setL, evL, getL]
 refine ag (HL_nil (hK2 _ _ ?_))
 dsimp only [putL, setL, evL, getL]
 refine HT_seq_k fun K4 hK4 => sr fun K5 hK5 => ag (HL_nil (hK5 _ _ ?_))
 dsimp only [putL, setL, evL, getL]
 refine joinH H fun G6 hG6 H => ?_
 refine HT_toK (fun l' s' => ∃ (x33 : List (Int)), G6 x33 = some r ∧ skim [3] l' = ([.slice A3 x3.length c3], 19) ∧ Hp sb s F0 s' [Ck.ol OI 3 A3 c3 x33] ∧ x33.length = x3.length) ?_ ?_
 ·intro K6 hK6
  refine HT_block ?_
  refine HT_loopK (fun kf l' s' => ∃ (x41 : List (Int)) (x42 : Int), (laws_toIntS.l1 p0 kf x41 x42).bind G6 = some r ∧ skim [0, 2, 0] l' = ([.slice A0p p0.length c0p, .slice A3 x3.length c3, .int .i64 x42], 18) ∧ Hp sb s F0 s' [Ck.ol OI 3 A3 c3 x41] ∧ x41.length = x3.length) ((((p0.length : Int)) - (0)).toNat + 2) ⟨x3, 0, H, rfl, hH, rfl⟩ ?_
  rintro kf l' s52 ⟨x41, x42, H, hl, hH, hl41⟩ K52 hK52
  revert l'
  refine skA ?_
  dsimp only [Al, Sk]
  intros
  cases kf with
  | zero => simp [laws_toIntS.l1] at H
  | succ kf =>
   rw [laws_toIntS.l1] at H
   refine HT_seq_k fun K53 hK53 => sr fun K54 hK54 => mv (mv (hc (o_len rfl Try.underlying24 ?_)))
   dsimp only [putL, setL, evL, getL]
   refine bn rfl rfl rfl (HL_nil (hK54 _ _ ?_))
   dsimp only [putL, setL, evL, getL]
   revert H
   refine ct rfl (fun hb55 H => ?_) (fun hb55 H => ?_)
   ·refine HT_skip (hK53 _ _ (HT_seq_k fun K56 hK56 => (HT_block ?_)))
    refine HT_region ?_
    refine mv (mv (mv ?_))
    dsimp only [putL, setL, evL, getL]
    refine mv ?_
    replace H := headE H
    obtain ⟨u57, hu57, H⟩ := H
    obtain ⟨b57, o57, cs57, hr57, hh57, hel57⟩ := Rd.elb HRp0 hu57
    obtain rfl := hr57
    refine hc (hel57 s52 rfl rfl Try.underlying24 tI3 (hc (o_load' rfl Try.underlying3 rfl ((hh57 hH.bs.mono) 0 _ rfl) ?_)))
    replace H := headE H
    obtain ⟨u58, hu58, H⟩ := H
    obtain ⟨b58, o58, cs58, hA58, hr58, hh58, hel58⟩ := hH.elo 0 rfl hu58
    obtain rfl := hr58
    try dsimp only [putL, setL, evL, getL]
    refine hc (hel58 s52 (sliceLen hl41) rfl Try.underlying24 tI3 ?_)
    replace H := headE H
    obtain ⟨x59, hx59, H⟩ := H
    refine hc (o_setF (vs := [.int .i64 u57]) (u := u57) hH 0 rfl rfl rfl rfl rfl tI3 hA58 hx59 (Ent.own (Ent.flat rfl)) ?_)
    clear hH
    intro s59 hH
    have hl59 := (st?_len hx59).trans hl41
    refine HL_nil (hK56 _ _ ?_)
    try dsimp only [putL, setL, evL, getL]
    refine HT_region ?_
    refine mv (bn rfl rfl rfl (ag (HL_nil ?_)))
    exact hK52 _ _ ⟨kf, Nat.lt_succ_self kf, x59, IntKind.i64.wrap (x42 + 1), H, rfl, hH, hl59⟩
   ·refine HT_exit ?_
    exact hK6 _ _ ⟨x41, H, rfl, hH, hl41⟩
 ·rintro l' s60 ⟨x33, H, hl, hH, hl33⟩
  revert l'
  refine skA ?_
  dsimp only [Al, Sk]
  intros
  replace H := hG6 _ H
  try dsimp only at H
  refine hK4 _ _ ?_
  refine sr fun K61 hK61 => ?_
  try dsimp only [putL, setL, evL, getL]
  refine mv (ag (HL_nil (hK61 _ _ ?_)))
  dsimp only [putL, setL, evL, getL]
  refine HT_ret ?_
  exact hQr _ _ [.slice A3 x3.length c3] _ ⟨rfl, trivial⟩ H ⟨A3, c3, (by first | (rw [hl33]; first | done | rfl) | rfl), hH⟩
def laws_toRe.f (p0_0 : Int) (p0_1 : List (Int)) : Option (Int × (List (Int))) := (laws_toIntS.f p0_1).bind fun u9 => some (p0_0, u9)
def laws_toRe.post (sb s : St) (F0 : Fp) (r : Int × (List (Int))) : Value → St → Prop := fun v s' => ∃ (A1 : Option Addr) (c1 : Nat), v = .agg #[.int .i64 r.1, .slice A1 r.2.length c1] ∧ Hp sb s F0 s' [Ck.ol OI 3 A1 c1 r.2]
set_option maxRecDepth 100000 in
set_option maxHeartbeats 4000000 in
theorem laws_toRe.ok (sb s : St) (F0 : Fp) (p0_0 : Int) (A0_1p : Option Addr) (c0_1p : Nat) (p0_1 : List (Int)) (HRp0_1 : Rd KI sb A0_1p c0_1p p0_1) (hH : Hp sb s F0 s []) (r : Int × (List (Int))) (H : laws_toRe.f p0_0 p0_1 = some r) : GCall Try.prog 129 #[.agg #[.int .i64 p0_0, .slice A0_1p p0_1.length c0_1p]] s (laws_toRe.post sb s F0 r) := by
 refine GCall_ofr (laws_toRe.post sb s F0) [.cell 2 139] (ud [.agg #[.int .i64 p0_0, .slice A0_1p p0_1.length c0_1p]] 11) Try.func129 rfl rfl rfl fun w Q hQr hQn hQp => ?_
 replace H := topE H
 unfold laws_toRe.f at H
 dsimp only [ud, un]
 refine sr fun K1 hK1 => hc (o_boxH hH rfl ?_)
 clear hH
 intro b2 s2 hH _
 refine hc (o_allocH hH tI139 ?_)
 clear hH
 intro b3 s3 hH _
 refine HL_nil (hK1 _ _ ?_)
 try dsimp only [putL, setL, evL, getL]
 refine sr fun K4 hK4 => hc (o_allocH hH tI139 ?_)
 clear hH
 intro b5 s5 hH _
 refine HL_nil (hK4 _ _ ?_)
 try dsimp only [putL, setL, evL, getL]
 refine sr fun K6 hK6 => hc (o_faddr' (ft := 3) (off := 0) rfl Try.underlying135 rfl tI3 (by decide) (hc (o_load' rfl Try.underlying3 rfl (hH.hasv 0 rfl rfl) (hc (o_faddr' (ft := 3) (off := 0) rfl Try.underlying139 rfl tI3 (by decide) ?_)))))
 dsimp only [putL, setL, evL, getL]
 refine hc (o_stvH (vs := [.int .i64 p0_0]) (us' := [.int .i64 p0_0, .slice none 0 0]) hH 2 rfl rfl rfl rfl rfl tI3 rfl (List.cons_ne_nil _ _) rfl rfl rfl ?_)
 clear hH
 intro s7 hH
 refine HL_nil (hK6 _ _ ?_)
 try dsimp only [putL, setL, evL, getL]
 refine sr fun K8 hK8 => hc (o_faddr' (ft := 24) (off := 1) rfl Try.underlying135 rfl tI24 (by decide) (hc (o_load' rfl Try.underlying24 rfl (hH.hasv 0 rfl rfl) ?_)))
 replace H := headE H
 obtain ⟨u9, hu9, H⟩ := H
 refine hc (o_call (args := #[.slice A0_1p p0_1.length c0_1p]) Try.func61 rfl rfl rfl (laws_toIntS.ok sb s7 no A0_1p c0_1p p0_1 HRp0_1 (Hp.own hH.bs) _ hu9) ?_)
 rintro _ s9 ⟨A10, c10, rfl, hD⟩
 replace hH := hH.back0 hD (Up.refl _ _ _)
 clear hD
 try dsimp only [putL, setL, evL, getL]
 refine hc (o_faddr' (ft := 24) (off := 1) rfl Try.underlying139 rfl tI24 (by decide) (hc (o_stvH (vs := [.slice A10 u9.length c10]) (us' := [.int .i64 p0_0, .slice A10 u9.length c10]) hH 2 rfl rfl rfl rfl rfl tI24 rfl (List.cons_ne_nil _ _) rfl rfl rfl ?_)))
 clear hH
 intro s11 hH
 refine HL_nil (hK8 _ _ ?_)
 try dsimp only [putL, setL, evL, getL]
 refine sr fun K12 hK12 => hc (o_loads' [.int .i64 p0_0, .slice A10 u9.length c10] rfl Try.underlying139 rfl tI139 rfl (hH.partv 2 rfl (0) [.int .i64 p0_0, .slice A10 u9.length c10] rfl) (hc (o_stvH (vs := [.int .i64 p0_0, .slice A10 u9.length c10]) (us' := [.int .i64 p0_0, .slice A10 u9.length c10]) hH 1 rfl rfl rfl rfl rfl tI139 rfl (List.cons_ne_nil _ _) rfl rfl rfl ?_)))
 clear hH
 intro s13 hH
 refine HL_nil (hK12 _ _ ?_)
 try dsimp only [putL, setL, evL, getL]
 refine HT_ret ?_
 exact hQr _ _ [.agg #[.int .i64 p0_0, .slice A10 u9.length c10]] _ ⟨ResV.cells rfl Try.underlying139 rfl tI139 (hH.var 1 rfl) rfl, trivial⟩ H ⟨A10, c10, rfl, hH.sel [3] (by decide)⟩
def laws_toReS.l1 (p0 : List ((Int) × (List (Int)))) : Nat → (List ((Int) × (List (Int)))) → Int → Option (List ((Int) × (List (Int))))
 | 0, _, _ => none
 | kf + 1, x57, x58 => if (decide (x58 < (p0.length : Int))) = true then ((rd? p0 x58).bind fun u77 => (laws_toRe.f u77.1 u77.2).bind fun u79 => (rd? x57 x58).bind fun u81 => (st? x57 x58 (u79.1, u79.2)).bind fun x83 => laws_toReS.l1 p0 kf x83 (IntKind.i64.wrap (x58 + 1))) else (some x57)
def laws_toReS.f (p0 : List ((Int) × (List (Int)))) : Option (List ((Int) × (List (Int)))) := (mk? 4398046511104 (0, []) (p0.length : Int)).bind fun x3 => (laws_toReS.l1 p0 ((((p0.length : Int)) - (0)).toNat + 2) x3 0).bind fun (o : (List ((Int) × (List (Int))))) => match o with | x45 => (some x45)
def laws_toReS.post (sb s : St) (F0 : Fp) (r : (List ((Int) × (List (Int))))) : Value → St → Prop := fun v s' => ∃ (A0 : Option Addr) (c0 : Nat), v = .slice A0 r.length c0 ∧ Hp sb s F0 s' [Ck.ol OS139 139 A0 c0 r]
set_option maxRecDepth 100000 in
set_option maxHeartbeats 4000000 in
theorem laws_toReS.ok (sb s : St) (F0 : Fp) (A0p : Option Addr) (c0p : Nat) (p0 : List ((Int) × (List (Int)))) (HRp0 : Rd KS135 sb A0p c0p p0) (hH : Hp sb s F0 s []) (r : (List ((Int) × (List (Int))))) (H : laws_toReS.f p0 = some r) : GCall Try.prog 40 #[.slice A0p p0.length c0p] s (laws_toReS.post sb s F0 r) := by
 refine GCall_ofr (laws_toReS.post sb s F0) [.tmp 2] (ud [.slice A0p p0.length c0p] 22) Try.func40 rfl rfl rfl fun w Q hQr hQn hQp => ?_
 replace H := topE H
 unfold laws_toReS.f at H
 dsimp only [ud, un]
 refine sr fun K1 hK1 => ag (HL_nil (hK1 _ _ ?_))
 dsimp only [putL, setL, evL, getL]
 refine sr fun K2 hK2 => mv (hc (o_len rfl Try.underlying50 ?_))
 replace H := headE H
 obtain ⟨x3, hx3, H⟩ := H
 refine hc (o_makeH (K := KS139) (O := OS139) (x0 := (0, [])) hH rfl Try.underlying57 tI139 rfl (by decide) (by decide) (by decide) (Own0.pair (v1 := [.int .i64 0]) (v2 := [.slice none 0 0]) (x1 := 0) (x2 := []) (Own0.fl fun _ => rfl) Own0.nil) hx3 ?_)
 clear hH
 intro A3 c3 s3 hH _
 try dsimp only [putL, setL, evL, getL]
 refine ag (HL_nil (hK2 _ _ ?_))
 dsimp only [putL, setL, evL, getL]
 refine HT_seq_k fun K4 hK4 => sr fun K5 hK5 => ag (HL_nil (hK5 _ _ ?_))
 dsimp only [putL, setL, evL, getL]
 refine joinH H fun G6 hG6 H => ?_
 refine HT_toK (fun l' s' => ∃ (x45 : List ((Int) × (List (Int)))), G6 x45 = some r ∧ skim [3] l' = ([.slice A3 x3.length c3], 20) ∧ Hp sb s F0 s' [Ck.ol OS139 139 A3 c3 x45] ∧ x45.length = x3.length) ?_ ?_
 ·intro K6 hK6
  refine HT_block ?_
  refine HT_loopK (fun kf l' s' => ∃ (x57 : List ((Int) × (List (Int)))) (x58 : Int), (laws_toReS.l1 p0 kf x57 x58).bind G6 = some r ∧ skim [0, 2, 0] l' = ([.slice A0p p0.length c0p, .slice A3 x3.length c3, .int .i64 x58], 19) ∧ Hp sb s F0 s' [Ck.ol OS139 139 A3 c3 x57] ∧ x57.length = x3.length) ((((p0.length : Int)) - (0)).toNat + 2) ⟨x3, 0, H, rfl, hH, rfl⟩ ?_
  rintro kf l' s72 ⟨x57, x58, H, hl, hH, hl57⟩ K72 hK72
  revert l'
  refine skA ?_
  dsimp only [Al, Sk]
  intros
  cases kf with
  | zero => simp [laws_toReS.l1] at H
  | succ kf =>
   rw [laws_toReS.l1] at H
   refine HT_seq_k fun K73 hK73 => sr fun K74 hK74 => mv (mv (hc (o_len rfl Try.underlying50 ?_)))
   dsimp only [putL, setL, evL, getL]
   refine bn rfl rfl rfl (HL_nil (hK74 _ _ ?_))
   dsimp only [putL, setL, evL, getL]
   revert H
   refine ct rfl (fun hb75 H => ?_) (fun hb75 H => ?_)
   ·refine HT_skip (hK73 _ _ (HT_seq_k fun K76 hK76 => (HT_block ?_)))
    refine HT_region ?_
    refine mv (mv (mv ?_))
    dsimp only [putL, setL, evL, getL]
    refine mv ?_
    replace H := headE H
    obtain ⟨u77, hu77, H⟩ := H
    obtain ⟨b77, o77, cs77, hr77, hh77, hel77⟩ := Rd.elb HRp0 hu77
    obtain ⟨_, _, rfl, rfl, ⟨A78, c78, rfl, D78⟩⟩ := hr77
    refine hc (hel77 s72 rfl rfl Try.underlying50 tI135 (hc (o_loads' [.int .i64 u77.1, .slice A78 u77.2.length c78] rfl Try.underlying135 rfl tI135 rfl (fun j v hj => (hh77 hH.bs.mono) j v hj) ?_)))
    replace H := headE H
    obtain ⟨u79, hu79, H⟩ := H
    try dsimp only [putL, setL, evL, getL]
    refine hc (o_call (args := #[.agg #[.int .i64 u77.1, .slice A78 u77.2.length c78]]) Try.func129 rfl rfl rfl (laws_toRe.ok sb s72 no u77.1 A78 c78 u77.2 D78 (Hp.own hH.bs) _ hu79) ?_)
    rintro _ s79 ⟨A80, c80, rfl, hD⟩
    replace hH := hH.back0 hD (Up.refl _ _ _)
    clear hD
    replace H := headE H
    obtain ⟨u81, hu81, H⟩ := H
    obtain ⟨b81, o81, cs81, hA81, hr81, hh81, hel81⟩ := hH.elo 0 rfl hu81
    obtain ⟨_, _, rfl, rfl, ⟨A82, c82, rfl, D82⟩⟩ := hr81
    refine hc (hel81 s79 (sliceLen hl57) rfl Try.underlying57 tI139 ?_)
    replace hH := hH.conv [1] (by decide) (d := Ck.el OS139 [.int .i64 u79.1, .slice A80 u79.2.length c80] (u79.1, u79.2)) (Ent.pair (v1 := [.int .i64 u79.1]) (v2 := [.slice A80 u79.2.length c80]) (x1 := u79.1) (x2 := u79.2) (Ent.flat rfl) Ent.sl)
    replace H := headE H
    obtain ⟨x83, hx83, H⟩ := H
    refine hc (o_setD (u := (u79.1, u79.2)) hH 0 2 (by decide) rfl rfl rfl rfl rfl rfl tI139 hA81 hx83 ?_)
    clear hH
    intro s83 hH
    have hl83 := (st?_len hx83).trans hl57
    refine HL_nil (hK76 _ _ ?_)
    try dsimp only [putL, setL, evL, getL]
    refine HT_region ?_
    refine mv (bn rfl rfl rfl (ag (HL_nil ?_)))
    exact hK72 _ _ ⟨kf, Nat.lt_succ_self kf, x83, IntKind.i64.wrap (x58 + 1), H, rfl, hH.sel [0] (by decide), hl83⟩
   ·refine HT_exit ?_
    exact hK6 _ _ ⟨x57, H, rfl, hH, hl57⟩
 ·rintro l' s84 ⟨x45, H, hl, hH, hl45⟩
  revert l'
  refine skA ?_
  dsimp only [Al, Sk]
  intros
  replace H := hG6 _ H
  try dsimp only at H
  refine hK4 _ _ ?_
  refine sr fun K85 hK85 => ?_
  try dsimp only [putL, setL, evL, getL]
  refine mv (ag (HL_nil (hK85 _ _ ?_)))
  dsimp only [putL, setL, evL, getL]
  refine HT_ret ?_
  exact hQr _ _ [.slice A3 x3.length c3] _ ⟨rfl, trivial⟩ H ⟨A3, c3, (by first | (rw [hl45]; first | done | rfl) | rfl), hH⟩
def spec_l5Arity.f (p0 : Int) : Option Int := (if (p0 == 1) = true then (some (p0 == 1)) else (some (p0 == 2))).bind fun (o : Bool) => match o with | x40 => (if x40 = true then (some 0) else ((if (p0 == 6) = true then (some (p0 == 6)) else (some (p0 == 7))).bind fun (o : Bool) => match o with | x49 => (if x49 = true then (some 1) else ((if (p0 == 3) = true then (some (p0 == 3)) else (if (p0 == 4) = true then (some (p0 == 4)) else (some (p0 == 5)))).bind fun (o : Bool) => match o with | x60 => (if x60 = true then (some 2) else (some (-1)))))))
def spec_l5Arity.post (sb s : St) (F0 : Fp) (r : Int) : Value → St → Prop := fun v s' => v = .int .i64 r ∧ Hp sb s F0 s' []
set_option maxRecDepth 100000 in
set_option maxHeartbeats 4000000 in
theorem spec_l5Arity.ok (sb s : St) (F0 : Fp) (p0 : Int) (hH : Hp sb s F0 s []) (r : Int) (H : spec_l5Arity.f p0 = some r) : GCall Try.prog 223 #[.int .i64 p0] s (spec_l5Arity.post sb s F0 r) := by
 refine GCall_ofr (spec_l5Arity.post sb s F0) [.tmp 2] (ud [.int .i64 p0] 13) Try.func223 rfl rfl rfl fun w Q hQr hQn hQp => ?_
 replace H := topE H
 unfold spec_l5Arity.f at H
 dsimp only [ud, un]
 refine sr fun K1 hK1 => ag (HL_nil (hK1 _ _ ?_))
 dsimp only [putL, setL, evL, getL]
 refine HT_seq_k fun K35 hK35 => sr fun K36 hK36 => mv (HL_nil (hK36 _ _ ?_))
 dsimp only [putL, setL, evL, getL]
 refine HT_block ?_
 refine joinH H fun G37 hG37 H => ?_
 refine HT_joinK (fun l' s' => ∃ (x40 : Bool), G37 x40 = some r ∧ skim [3, 0] l' = ([.int .i64 p0, .bool x40], 10) ∧ Hp sb s F0 s' []) ?_ ?_
 ·intro K37 hK37
  refine sr fun K41 hK41 => bn rfl rfl rfl (ag (HL_nil (hK41 _ _ ?_)))
  dsimp only [putL, setL, evL, getL]
  revert H
  refine ct rfl (fun hb42 H => ?_) (fun hb42 H => ?_)
  ·refine HT_skip ?_
   exact hK37 _ _ ⟨p0 == 1, H, rfl, hH⟩
  ·refine HT_region ?_
   refine bn rfl rfl rfl (ag (HL_nil ?_))
   exact hK37 _ _ ⟨p0 == 2, H, rfl, hH⟩
 ·rintro l' s43 ⟨x40, H, hl, hH⟩
  revert l'
  refine skA ?_
  dsimp only [Al, Sk]
  intros
  replace H := hG37 _ H
  try dsimp only at H
  revert H
  refine ct rfl (fun hb44 H => ?_) (fun hb44 H => ?_)
  ·refine sr fun K45 hK45 => ag (HL_nil (hK45 _ _ ?_))
   dsimp only [putL, setL, evL, getL]
   refine HT_ret ?_
   exact hQr _ _ [.int .i64 0] _ ⟨rfl, trivial⟩ H ⟨rfl, hH⟩
  ·refine joinH H fun G46 hG46 H => ?_
   refine HT_joinK (fun l' s' => ∃ (x49 : Bool), G46 x49 = some r ∧ skim [3, 3] l' = ([.int .i64 p0, .bool x49], 7) ∧ Hp sb s F0 s' []) ?_ ?_
   ·intro K46 hK46
    refine sr fun K50 hK50 => bn rfl rfl rfl (ag (HL_nil (hK50 _ _ ?_)))
    dsimp only [putL, setL, evL, getL]
    revert H
    refine ct rfl (fun hb51 H => ?_) (fun hb51 H => ?_)
    ·refine HT_skip ?_
     exact hK46 _ _ ⟨p0 == 6, H, rfl, hH⟩
    ·refine HT_region ?_
     refine bn rfl rfl rfl (ag (HL_nil ?_))
     exact hK46 _ _ ⟨p0 == 7, H, rfl, hH⟩
   ·rintro l' s52 ⟨x49, H, hl, hH⟩
    revert l'
    refine skA ?_
    dsimp only [Al, Sk]
    intros
    replace H := hG46 _ H
    try dsimp only at H
    revert H
    refine ct rfl (fun hb53 H => ?_) (fun hb53 H => ?_)
    ·refine sr fun K54 hK54 => ag (HL_nil (hK54 _ _ ?_))
     dsimp only [putL, setL, evL, getL]
     refine HT_ret ?_
     exact hQr _ _ [.int .i64 1] _ ⟨rfl, trivial⟩ H ⟨rfl, hH⟩
    ·refine joinH H fun G55 hG55 H => ?_
     refine HT_joinK (fun l' s' => ∃ (x60 : Bool), G55 x60 = some r ∧ skim [10] l' = ([.bool x60], 4) ∧ Hp sb s F0 s' []) ?_ ?_
     ·intro K55 hK55
      refine sr fun K61 hK61 => bn rfl rfl rfl (ag (HL_nil (hK61 _ _ ?_)))
      dsimp only [putL, setL, evL, getL]
      revert H
      refine ct rfl (fun hb62 H => ?_) (fun hb62 H => ?_)
      ·refine HT_skip ?_
       exact hK55 _ _ ⟨p0 == 3, H, rfl, hH⟩
      ·refine sr fun K63 hK63 => bn rfl rfl rfl (ag (HL_nil (hK63 _ _ ?_)))
       dsimp only [putL, setL, evL, getL]
       revert H
       refine ct rfl (fun hb64 H => ?_) (fun hb64 H => ?_)
       ·refine HT_skip ?_
        exact hK55 _ _ ⟨p0 == 4, H, rfl, hH⟩
       ·refine HT_region ?_
        refine bn rfl rfl rfl (ag (HL_nil ?_))
        exact hK55 _ _ ⟨p0 == 5, H, rfl, hH⟩
     ·rintro l' s65 ⟨x60, H, hl, hH⟩
      revert l'
      refine skA ?_
      dsimp only [Al, Sk]
      intros
      replace H := hG55 _ H
      try dsimp only at H
      revert H
      refine ct rfl (fun hb66 H => ?_) (fun hb66 H => ?_)
      ·refine sr fun K67 hK67 => ag (HL_nil (hK67 _ _ ?_))
       dsimp only [putL, setL, evL, getL]
       refine HT_ret ?_
       exact hQr _ _ [.int .i64 2] _ ⟨rfl, trivial⟩ H ⟨rfl, hH⟩
      ·refine HT_skip (hK35 _ _ (sr fun K68 hK68 => (ag (HL_nil (hK68 _ _ ?_)))))
       dsimp only [putL, setL, evL, getL]
       refine HT_ret ?_
       exact hQr _ _ [.int .i64 (-1)] _ ⟨rfl, trivial⟩ H ⟨rfl, hH⟩
def spec_l1In.f (p0 : Int) (p1 : Int) (p2 : Int) : Option Bool := if (decide (p0 ≥ p1)) = true then (some (decide (p0 ≤ p2))) else (some false)
def spec_l1In.post (sb s : St) (F0 : Fp) (r : Bool) : Value → St → Prop := fun v s' => v = .bool r ∧ Hp sb s F0 s' []
set_option maxRecDepth 100000 in
set_option maxHeartbeats 4000000 in
theorem spec_l1In.ok (sb s : St) (F0 : Fp) (p0 : Int) (p1 : Int) (p2 : Int) (hH : Hp sb s F0 s []) (r : Bool) (H : spec_l1In.f p0 p1 p2 = some r) : GCall Try.prog 108 #[.int .i64 p0, .int .i64 p1, .int .i64 p2] s (spec_l1In.post sb s F0 r) := by
 refine GCall_ofr (spec_l1In.post sb s F0) [.tmp 6] (ud [.int .i64 p0, .int .i64 p1, .int .i64 p2] 12) Try.func108 rfl rfl rfl fun w Q hQr hQn hQp => ?_
 replace H := topE H
 unfold spec_l1In.f at H
 dsimp only [ud, un]
 refine sr fun K1 hK1 => ag (HL_nil (hK1 _ _ ?_))
 dsimp only [putL, setL, evL, getL]
 refine sr fun K2 hK2 => mv (mv (bn rfl rfl rfl ?_))
 dsimp only [putL, setL, evL, getL]
 refine mv ?_
 revert H
 refine it (fun hb3 H => ?_) (fun hb3 H => ?_)
 ·refine wt rfl rfl rfl rfl hb3 (o_move (wt rfl rfl rfl rfl hb3 (o_move ?_)))
  dsimp only [putL, setL, evL, getL]
  refine wt rfl rfl rfl rfl hb3 (o_bin rfl rfl rfl (hc (o_pickT rfl hb3 (ag (HL_nil (hK2 _ _ ?_))))))
  dsimp only [putL, setL, evL, getL]
  refine HT_ret ?_
  exact hQr _ _ [.bool (decide (p0 ≤ p2))] _ ⟨rfl, trivial⟩ H ⟨rfl, hH⟩
 ·refine wf rfl rfl rfl rfl hb3 (wf rfl rfl rfl rfl hb3 (wf rfl rfl rfl rfl hb3 ?_))
  dsimp only [putL, setL, evL, getL]
  refine hc (o_pickF rfl hb3 (ag (HL_nil (hK2 _ _ ?_))))
  dsimp only [putL, setL, evL, getL]
  refine HT_ret ?_
  exact hQr _ _ [.bool false] _ ⟨rfl, trivial⟩ H ⟨rfl, hH⟩
def spec_l1All.l1 (p0 : List (Int)) (p1 : Int) (p2 : Int) : Nat → Int → Option (Lo Unit Bool)
 | 0, _ => none
 | kf + 1, x48 => if (decide (x48 < (p0.length : Int))) = true then ((rd? p0 x48).bind fun u66 => (spec_l1In.f u66 p1 p2).bind fun u68 => if (!u68) = true then ((some false).bind fun z => some (Lo.ret z)) else (spec_l1All.l1 p0 p1 p2 kf (IntKind.i64.wrap (x48 + 1)))) else (some (Lo.go ()))
def spec_l1All.f (p0 : List (Int)) (p1 : Int) (p2 : Int) : Option Bool := (spec_l1All.l1 p0 p1 p2 ((((p0.length : Int)) - (0)).toNat + 2) 0).bind fun (o : Lo Unit Bool) => match o with | .go () => (some true) | .ret z => some z
def spec_l1All.post (sb s : St) (F0 : Fp) (r : Bool) : Value → St → Prop := fun v s' => v = .bool r ∧ Hp sb s F0 s' []
set_option maxRecDepth 100000 in
set_option maxHeartbeats 4000000 in
theorem spec_l1All.ok (sb s : St) (F0 : Fp) (A0p : Option Addr) (c0p : Nat) (p0 : List (Int)) (p1 : Int) (p2 : Int) (HRp0 : Rd KI sb A0p c0p p0) (hH : Hp sb s F0 s []) (r : Bool) (H : spec_l1All.f p0 p1 p2 = some r) : GCall Try.prog 120 #[.slice A0p p0.length c0p, .int .i64 p1, .int .i64 p2] s (spec_l1All.post sb s F0 r) := by
 refine GCall_ofr (spec_l1All.post sb s F0) [.tmp 6] (ud [.slice A0p p0.length c0p, .int .i64 p1, .int .i64 p2] 18) Try.func120 rfl rfl rfl fun w Q hQr hQn hQp => ?_
 replace H := topE H
 unfold spec_l1All.f at H
 dsimp only [ud, un]
 refine sr fun K1 hK1 => ag (HL_nil (hK1 _ _ ?_))
 dsimp only [putL, setL, evL, getL]
 refine HT_seq_k fun K2 hK2 => sr fun K3 hK3 => mv (hc (o_len rfl Try.underlying24 (mv (HL_nil (hK3 _ _ ?_)))))
 dsimp only [putL, setL, evL, getL]
 refine joinH H fun G4 hG4 H => ?_
 refine HT_toK (fun l' s' => G4 (.go ()) = some r ∧ skim [] l' = ([], 22) ∧ Hp sb s F0 s' []) ?_ ?_
 ·intro K4 hK4
  refine HT_block ?_
  refine HT_loopK (fun kf l' s' => ∃ (x48 : Int), (spec_l1All.l1 p0 p1 p2 kf x48).bind G4 = some r ∧ skim [1, 0, 6, 0, 0] l' = ([.int .i64 p1, .int .i64 p2, .slice A0p p0.length c0p, .int .i64 (p0.length : Int), .int .i64 x48], 10) ∧ Hp sb s F0 s' []) ((((p0.length : Int)) - (0)).toNat + 2) ⟨0, H, rfl, hH⟩ ?_
  rintro kf l' s60 ⟨x48, H, hl, hH⟩ K60 hK60
  revert l'
  refine skA ?_
  dsimp only [Al, Sk]
  intros
  cases kf with
  | zero => simp [spec_l1All.l1] at H
  | succ kf =>
   rw [spec_l1All.l1] at H
   refine sr fun K61 hK61 => bn rfl rfl rfl (HL_nil (hK61 _ _ ?_))
   dsimp only [putL, setL, evL, getL]
   refine HT_seq_k fun K62 hK62 => ?_
   revert H
   refine ct rfl (fun hb63 H => ?_) (fun hb63 H => ?_)
   ·refine HT_skip (hK62 _ _ (HT_seq_k fun K64 hK64 => (HT_block (sr fun K65 hK65 => ?_))))
    replace H := headE H
    obtain ⟨u66, hu66, H⟩ := H
    obtain ⟨b66, o66, cs66, hr66, hh66, hel66⟩ := Rd.elb HRp0 hu66
    obtain rfl := hr66
    refine hc (hel66 s60 rfl rfl Try.underlying24 tI3 (hc (o_load' rfl Try.underlying3 rfl ((hh66 hH.bs.mono) 0 _ rfl) (ag (HL_nil (hK65 _ _ ?_))))))
    dsimp only [putL, setL, evL, getL]
    refine sr fun K67 hK67 => mv (mv (mv ?_))
    replace H := headE H
    obtain ⟨u68, hu68, H⟩ := H
    try dsimp only [putL, setL, evL, getL]
    refine hc (o_call (args := #[.int .i64 u66, .int .i64 p1, .int .i64 p2]) Try.func108 rfl rfl rfl (spec_l1In.ok sb s60 no u66 p1 p2 (Hp.own hH.bs) _ hu68) ?_)
    rintro _ s68 ⟨rfl, hD⟩
    replace hH := hH.back0 hD (Up.refl _ _ _)
    clear hD
    refine hc (o_not rfl (HL_nil (hK67 _ _ ?_)))
    dsimp only [putL, setL, evL, getL]
    revert H
    refine ct rfl (fun hb69 H => ?_) (fun hb69 H => ?_)
    ·refine sr fun K70 hK70 => ag (HL_nil (hK70 _ _ ?_))
     dsimp only [putL, setL, evL, getL]
     refine HT_ret ?_
     replace H := escH (fun z hz => hG4 _ hz) H
     exact hQr _ _ [.bool false] _ ⟨rfl, trivial⟩ H ⟨rfl, hH⟩
    ·refine HT_skip (hK64 _ _ ?_)
     refine HT_region ?_
     refine bn rfl rfl rfl (mv (HL_nil ?_))
     exact hK60 _ _ ⟨kf, Nat.lt_succ_self kf, IntKind.i64.wrap (x48 + 1), H, rfl, hH⟩
   ·refine HT_exit ?_
    exact hK4 _ _ ⟨H, rfl, hH⟩
 ·rintro l' s71 ⟨H, hl, hH⟩
  revert l'
  refine skA ?_
  dsimp only [Al, Sk]
  intros
  replace H := hG4 _ H
  try dsimp only at H
  refine hK2 _ _ ?_
  refine sr fun K72 hK72 => ag (HL_nil (hK72 _ _ ?_))
  dsimp only [putL, setL, evL, getL]
  refine HT_ret ?_
  exact hQr _ _ [.bool true] _ ⟨rfl, trivial⟩ H ⟨rfl, hH⟩
def spec_GoodSet.l1 (p0 : List (Int)) : Nat → Int → Option (Lo Unit Bool)
 | 0, _ => none
 | kf + 1, x192 => if (decide (x192 < (p0.length : Int))) = true then (((rd? p0 x192).bind fun u264 => (rd? p0 (IntKind.i64.wrap (x192 + 1))).bind fun u265 => if (decide (u264 > u265)) = true then (some true) else (if (decide (x192 > 0)) = true then ((rd? p0 x192).bind fun u268 => (rd? p0 (IntKind.i64.wrap (x192 - 1))).bind fun u269 => some (decide (u268 < (IntKind.i64.wrap (u269 + 2))))) else (some false))).bind fun (o : Bool) => match o with | x263 => (if x263 = true then ((some false).bind fun z => some (Lo.ret z)) else (spec_GoodSet.l1 p0 kf (IntKind.i64.wrap (x192 + 2))))) else (some (Lo.go ()))
def spec_GoodSet.f (p0 : List (Int)) : Option Bool := ((rem? (p0.length : Int) 2).bind fun u23 => if (u23 == 1) = true then (some true) else (if (decide ((p0.length : Int) > 24)) = true then (some true) else ((spec_l1All.f p0 0 1114111).bind fun u26 => some (!u26)))).bind fun (o : Bool) => match o with | x22 => (if x22 = true then (some false) else ((spec_GoodSet.l1 p0 ((((p0.length : Int)) - (0)).toNat + 2) 0).bind fun (o : Lo Unit Bool) => match o with | .go () => (some true) | .ret z => some z))
def spec_GoodSet.post (sb s : St) (F0 : Fp) (r : Bool) : Value → St → Prop := fun v s' => v = .bool r ∧ Hp sb s F0 s' []
set_option maxRecDepth 100000 in
set_option maxHeartbeats 4000000 in
theorem spec_GoodSet.ok (sb s : St) (F0 : Fp) (A0p : Option Addr) (c0p : Nat) (p0 : List (Int)) (HRp0 : Rd KI sb A0p c0p p0) (hH : Hp sb s F0 s []) (r : Bool) (H : spec_GoodSet.f p0 = some r) : GCall Try.prog 240 #[.slice A0p p0.length c0p] s (spec_GoodSet.post sb s F0 r) := by
 refine GCall_ofr (spec_GoodSet.post sb s F0) [.tmp 2] (ud [.slice A0p p0.length c0p] 50) Try.func240 rfl rfl rfl fun w Q hQr hQn hQp => ?_
 replace H := topE H
 unfold spec_GoodSet.f at H
 dsimp only [ud, un]
 refine sr fun K1 hK1 => ag (HL_nil (hK1 _ _ ?_))
 dsimp only [putL, setL, evL, getL]
 refine HT_seq_k fun K16 hK16 => ?_
 refine joinH H fun G17 hG17 H => ?_
 refine HT_joinK (fun l' s' => ∃ (x22 : Bool), G17 x22 = some r ∧ skim [0, 16] l' = ([.slice A0p p0.length c0p, .bool x22], 34) ∧ Hp sb s F0 s' []) ?_ ?_
 ·intro K17 hK17
  refine HT_region ?_
  refine mv (hc (o_len rfl Try.underlying24 ?_))
  replace H := headE H
  obtain ⟨u23, hu23, H⟩ := H
  refine hc (o_rem' rfl rfl hu23 ?_)
  dsimp only [putL, setL, evL, getL]
  refine bn rfl rfl rfl (mv ?_)
  revert H
  refine it (fun hb24 H => ?_) (fun hb24 H => ?_)
  ·refine wf rfl rfl rfl rfl hb24 ?_
   dsimp only [putL, setL, evL, getL]
   refine wf rfl rfl rfl rfl hb24 (wf rfl rfl rfl rfl hb24 (hc (o_pickT rfl hb24 ?_)))
   dsimp only [putL, setL, evL, getL]
   refine mv (wf rfl rfl rfl rfl rfl (wf rfl rfl rfl rfl rfl ?_))
   dsimp only [putL, setL, evL, getL]
   refine wf rfl rfl rfl rfl rfl (hc (o_pickT rfl rfl (HL_nil ?_)))
   exact hK17 _ _ ⟨true, H, rfl, hH⟩
  ·refine wt rfl rfl rfl rfl hb24 (o_move ?_)
   dsimp only [putL, setL, evL, getL]
   refine wt rfl rfl rfl rfl hb24 (o_len rfl Try.underlying24 (wt rfl rfl rfl rfl hb24 (o_bin rfl rfl rfl (hc (o_pickF rfl hb24 ?_)))))
   dsimp only [putL, setL, evL, getL]
   refine mv ?_
   revert H
   refine it (fun hb25 H => ?_) (fun hb25 H => ?_)
   ·refine wf rfl rfl rfl rfl hb25 (wf rfl rfl rfl rfl hb25 ?_)
    dsimp only [putL, setL, evL, getL]
    refine wf rfl rfl rfl rfl hb25 (hc (o_pickT rfl hb25 (HL_nil ?_)))
    exact hK17 _ _ ⟨true, H, rfl, hH⟩
   ·refine wt rfl rfl rfl rfl hb25 (o_move ?_)
    replace H := headE H
    obtain ⟨u26, hu26, H⟩ := H
    try dsimp only [putL, setL, evL, getL]
    refine wt rfl rfl rfl rfl hb25 (o_call (args := #[.slice A0p p0.length c0p, .int .i64 0, .int .i64 1114111]) Try.func120 rfl rfl rfl (spec_l1All.ok sb s no A0p c0p p0 0 1114111 HRp0 (Hp.own hH.bs) _ hu26) ?_)
    rintro _ s26 ⟨rfl, hD⟩
    replace hH := hH.back0 hD (Up.refl _ _ _)
    clear hD
    refine wt rfl rfl rfl rfl hb25 (o_not rfl (hc (o_pickF rfl hb25 (HL_nil ?_))))
    exact hK17 _ _ ⟨!u26, H, rfl, hH⟩
 ·rintro l' s27 ⟨x22, H, hl, hH⟩
  revert l'
  refine skA ?_
  dsimp only [Al, Sk]
  intros
  replace H := hG17 _ H
  try dsimp only at H
  revert H
  refine ct rfl (fun hb28 H => ?_) (fun hb28 H => ?_)
  ·refine sr fun K29 hK29 => ?_
   try dsimp only [putL, setL, evL, getL]
   refine ag (HL_nil (hK29 _ _ ?_))
   dsimp only [putL, setL, evL, getL]
   refine HT_ret ?_
   exact hQr _ _ [.bool false] _ ⟨rfl, trivial⟩ H ⟨rfl, hH⟩
  ·refine HT_skip (hK16 _ _ (HT_seq_k fun K30 hK30 => (sr fun K31 hK31 => (ag (HL_nil (hK31 _ _ ?_))))))
   dsimp only [putL, setL, evL, getL]
   refine joinH H fun G32 hG32 H => ?_
   refine HT_toK (fun l' s' => G32 (.go ()) = some r ∧ skim [] l' = ([], 52) ∧ Hp sb s F0 s' []) ?_ ?_
   ·intro K32 hK32
    refine HT_block ?_
    refine HT_loopK (fun kf l' s' => ∃ (x192 : Int), (spec_GoodSet.l1 p0 kf x192).bind G32 = some r ∧ skim [0, 2] l' = ([.slice A0p p0.length c0p, .int .i64 x192], 48) ∧ Hp sb s F0 s' []) ((((p0.length : Int)) - (0)).toNat + 2) ⟨0, H, rfl, hH⟩ ?_
    rintro kf l' s233 ⟨x192, H, hl, hH⟩ K233 hK233
    revert l'
    refine skA ?_
    dsimp only [Al, Sk]
    intros
    cases kf with
    | zero => simp [spec_GoodSet.l1] at H
    | succ kf =>
     rw [spec_GoodSet.l1] at H
     refine HT_seq_k fun K234 hK234 => sr fun K235 hK235 => mv (mv (hc (o_len rfl Try.underlying24 ?_)))
     dsimp only [putL, setL, evL, getL]
     refine bn rfl rfl rfl (HL_nil (hK235 _ _ ?_))
     dsimp only [putL, setL, evL, getL]
     revert H
     refine ct rfl (fun hb236 H => ?_) (fun hb236 H => ?_)
     ·refine HT_skip (hK234 _ _ (HT_seq_k fun K255 hK255 => (HT_block ?_)))
      refine joinH H fun G256 hG256 H => ?_
      refine HT_joinK (fun l' s' => ∃ (x263 : Bool), G256 x263 = some r ∧ skim [0, 2, 46] l' = ([.slice A0p p0.length c0p, .int .i64 x192, .bool x263], 1) ∧ Hp sb s F0 s' []) ?_ ?_
      ·intro K256 hK256
       refine HX_draw hMix ?_
       refine HX_lim (R := fun _ => True) (k := 0) (fun s' => Gro s233 s') 28 ?_
       have hR := Gro.refl s233
       have hH0 := hH
       refine HK_readP 0 (v := .slice A0p p0.length c0p) rfl (by kernel_rfl) hQp rfl (fun s' K hK => o_move hK) rfl rfl (fun _ => hR) ?_
       try dsimp only [putL, setL, evL, getL]
       refine HK_readP 1 (v := .int .i64 x192) rfl (by kernel_rfl) hQp rfl (fun s' K hK => o_move hK) rfl rfl (fun _ => hR) ?_
       replace H := headE H
       obtain ⟨u264, hu264, H⟩ := H
       obtain ⟨b264, o264, cs264, hr264, hh264, hel264⟩ := Rd.elb HRp0 hu264
       obtain rfl := hr264
       refine HK_readP 2 (v := .pointer (some ⟨b264, o264, none⟩)) rfl (by kernel_rfl) hQp rfl (fun s' K hK => hel264 s' rfl rfl Try.underlying24 tI3 hK) rfl rfl (fun _ => hR) ?_
       refine HK_read 3 (v := .int .i64 u264) rfl (by kernel_rfl) hQp rfl (fun s' hR' K hK => o_load' rfl Try.underlying3 rfl ((hh264 (hH0.bs.mono.trans hR'.mono)) 0 _ rfl) hK) rfl rfl hR ?_
       try dsimp only [putL, setL, evL, getL]
       refine HK_readP 4 (v := .slice A0p p0.length c0p) rfl (by kernel_rfl) hQp rfl (fun s' K hK => o_move hK) rfl rfl (fun _ => hR) ?_
       refine HK_readP 5 (v := .int .i64 x192) rfl (by kernel_rfl) hQp rfl (fun s' K hK => o_move hK) rfl rfl (fun _ => hR) ?_
       refine HK_readP 6 (v := .int .i64 (IntKind.i64.wrap (x192 + 1))) rfl (by kernel_rfl) hQp rfl (fun s' K hK => o_bin rfl rfl rfl hK) rfl rfl (fun _ => hR) ?_
       replace H := headE H
       obtain ⟨u265, hu265, H⟩ := H
       obtain ⟨b265, o265, cs265, hr265, hh265, hel265⟩ := Rd.elb HRp0 hu265
       obtain rfl := hr265
       try dsimp only [putL, setL, evL, getL]
       refine HK_readP 7 (v := .pointer (some ⟨b265, o265, none⟩)) rfl (by kernel_rfl) hQp rfl (fun s' K hK => hel265 s' rfl rfl Try.underlying24 tI3 hK) rfl rfl (fun _ => hR) ?_
       refine HK_read 8 (v := .int .i64 u265) rfl (by kernel_rfl) hQp rfl (fun s' hR' K hK => o_load' rfl Try.underlying3 rfl ((hh265 (hH0.bs.mono.trans hR'.mono)) 0 _ rfl) hK) rfl rfl hR ?_
       refine HK_readP 9 (v := .bool (decide (u264 > u265))) rfl (by kernel_rfl) hQp rfl (fun s' K hK => o_bin rfl rfl rfl hK) rfl rfl (fun _ => hR) ?_
       try dsimp only [putL, setL, evL, getL]
       refine HK_readP 10 (v := .bool (decide (u264 > u265))) rfl (by kernel_rfl) hQp rfl (fun s' K hK => o_move hK) rfl rfl (fun _ => hR) ?_
       revert H
       refine it (fun hb266 H => ?_) (fun hb266 H => ?_)
       ·refine HK_passP 11 rfl (by kernel_rfl) (fun c l s h => hQp c l s h) ?_ (fun _ => hR) ?_
        ·exact wantF (j := 10) (b := false) (t := 34) (c := decide (u264 > u265)) rfl rfl rfl rfl hb266
        refine HK_passP 12 rfl (by kernel_rfl) (fun c l s h => hQp c l s h) ?_ (fun _ => hR) ?_
        ·exact wantF (j := 10) (b := false) (t := 34) (c := decide (u264 > u265)) rfl rfl rfl rfl hb266
        try dsimp only [putL, setL, evL, getL]
        refine HK_passP 13 rfl (by kernel_rfl) (fun c l s h => hQp c l s h) ?_ (fun _ => hR) ?_
        ·exact wantF (j := 10) (b := false) (t := 34) (c := decide (u264 > u265)) rfl rfl rfl rfl hb266
        refine HK_passP 14 rfl (by kernel_rfl) (fun c l s h => hQp c l s h) ?_ (fun _ => hR) ?_
        ·exact wantU (j := 13) (b := true) (t := 37) rfl rfl rfl rfl
        refine HK_passP 15 rfl (by kernel_rfl) (fun c l s h => hQp c l s h) ?_ (fun _ => hR) ?_
        ·exact wantU (j := 13) (b := true) (t := 37) rfl rfl rfl rfl
        try dsimp only [putL, setL, evL, getL]
        refine HK_passP 16 rfl (by kernel_rfl) (fun c l s h => hQp c l s h) ?_ (fun _ => hR) ?_
        ·exact wantU (j := 13) (b := true) (t := 37) rfl rfl rfl rfl
        refine HK_passP 17 rfl (by kernel_rfl) (fun c l s h => hQp c l s h) ?_ (fun _ => hR) ?_
        ·exact wantU (j := 13) (b := true) (t := 37) rfl rfl rfl rfl
        refine HK_passP 18 rfl (by kernel_rfl) (fun c l s h => hQp c l s h) ?_ (fun _ => hR) ?_
        ·exact wantU (j := 13) (b := true) (t := 37) rfl rfl rfl rfl
        try dsimp only [putL, setL, evL, getL]
        refine HK_passP 19 rfl (by kernel_rfl) (fun c l s h => hQp c l s h) ?_ (fun _ => hR) ?_
        ·exact wantU (j := 13) (b := true) (t := 37) rfl rfl rfl rfl
        refine HK_passP 20 rfl (by kernel_rfl) (fun c l s h => hQp c l s h) ?_ (fun _ => hR) ?_
        ·exact wantU (j := 13) (b := true) (t := 37) rfl rfl rfl rfl
        refine HK_passP 21 rfl (by kernel_rfl) (fun c l s h => hQp c l s h) ?_ (fun _ => hR) ?_
        ·exact wantU (j := 13) (b := true) (t := 37) rfl rfl rfl rfl
        try dsimp only [putL, setL, evL, getL]
        refine HK_passP 22 rfl (by kernel_rfl) (fun c l s h => hQp c l s h) ?_ (fun _ => hR) ?_
        ·exact wantU (j := 13) (b := true) (t := 37) rfl rfl rfl rfl
        refine HK_passP 23 rfl (by kernel_rfl) (fun c l s h => hQp c l s h) ?_ (fun _ => hR) ?_
        ·exact wantU (j := 13) (b := true) (t := 37) rfl rfl rfl rfl
        refine HK_passP 24 rfl (by kernel_rfl) (fun c l s h => hQp c l s h) ?_ (fun _ => hR) ?_
        ·exact wantU (j := 13) (b := true) (t := 37) rfl rfl rfl rfl
        try dsimp only [putL, setL, evL, getL]
        refine HK_passP 25 rfl (by kernel_rfl) (fun c l s h => hQp c l s h) ?_ (fun _ => hR) ?_
        ·exact wantF (j := 10) (b := false) (t := 34) (c := decide (u264 > u265)) rfl rfl rfl rfl hb266
        refine HK_readP 26 (v := .bool true) rfl (by kernel_rfl) hQp rfl (fun s' K hK => o_pickT rfl hb266 hK) rfl rfl (fun _ => hR) ?_
        refine HK_done (fun _ => hR) (by kernel_rfl) ?_
        exact hK256 _ _ ⟨true, H, rfl, hH⟩
       ·refine HK_readP 11 (v := .int .i64 x192) rfl (by kernel_rfl) hQp (wantT (j := 10) (b := false) (t := 34) (c := decide (u264 > u265)) rfl rfl rfl rfl hb266) (fun s' K hK => o_move hK) rfl rfl (fun _ => hR) ?_
        try dsimp only [putL, setL, evL, getL]
        refine HK_readP 12 (v := .bool (decide (x192 > 0))) rfl (by kernel_rfl) hQp (wantT (j := 10) (b := false) (t := 34) (c := decide (u264 > u265)) rfl rfl rfl rfl hb266) (fun s' K hK => o_bin rfl rfl rfl hK) rfl rfl (fun _ => hR) ?_
        refine HK_readP 13 (v := .bool (decide (x192 > 0))) rfl (by kernel_rfl) hQp (wantT (j := 10) (b := false) (t := 34) (c := decide (u264 > u265)) rfl rfl rfl rfl hb266) (fun s' K hK => o_move hK) rfl rfl (fun _ => hR) ?_
        revert H
        refine it (fun hb267 H => ?_) (fun hb267 H => ?_)
        ·refine HK_readP 14 (v := .slice A0p p0.length c0p) rfl (by kernel_rfl) hQp (wantT (j := 13) (b := true) (t := 37) (c := decide (x192 > 0)) rfl rfl rfl rfl hb267) (fun s' K hK => o_move hK) rfl rfl (fun _ => hR) ?_
         try dsimp only [putL, setL, evL, getL]
         refine HK_readP 15 (v := .int .i64 x192) rfl (by kernel_rfl) hQp (wantT (j := 13) (b := true) (t := 37) (c := decide (x192 > 0)) rfl rfl rfl rfl hb267) (fun s' K hK => o_move hK) rfl rfl (fun _ => hR) ?_
         replace H := headE H
         obtain ⟨u268, hu268, H⟩ := H
         obtain ⟨b268, o268, cs268, hr268, hh268, hel268⟩ := Rd.elb HRp0 hu268
         obtain rfl := hr268
         refine HK_readP 16 (v := .pointer (some ⟨b268, o268, none⟩)) rfl (by kernel_rfl) hQp (wantT (j := 13) (b := true) (t := 37) (c := decide (x192 > 0)) rfl rfl rfl rfl hb267) (fun s' K hK => hel268 s' rfl rfl Try.underlying24 tI3 hK) rfl rfl (fun _ => hR) ?_
         refine HK_read 17 (v := .int .i64 u268) rfl (by kernel_rfl) hQp (wantT (j := 13) (b := true) (t := 37) (c := decide (x192 > 0)) rfl rfl rfl rfl hb267) (fun s' hR' K hK => o_load' rfl Try.underlying3 rfl ((hh268 (hH0.bs.mono.trans hR'.mono)) 0 _ rfl) hK) rfl rfl hR ?_
         try dsimp only [putL, setL, evL, getL]
         refine HK_readP 18 (v := .slice A0p p0.length c0p) rfl (by kernel_rfl) hQp (wantT (j := 13) (b := true) (t := 37) (c := decide (x192 > 0)) rfl rfl rfl rfl hb267) (fun s' K hK => o_move hK) rfl rfl (fun _ => hR) ?_
         refine HK_readP 19 (v := .int .i64 x192) rfl (by kernel_rfl) hQp (wantT (j := 13) (b := true) (t := 37) (c := decide (x192 > 0)) rfl rfl rfl rfl hb267) (fun s' K hK => o_move hK) rfl rfl (fun _ => hR) ?_
         refine HK_readP 20 (v := .int .i64 (IntKind.i64.wrap (x192 - 1))) rfl (by kernel_rfl) hQp (wantT (j := 13) (b := true) (t := 37) (c := decide (x192 > 0)) rfl rfl rfl rfl hb267) (fun s' K hK => o_bin rfl rfl rfl hK) rfl rfl (fun _ => hR) ?_
         replace H := headE H
         obtain ⟨u269, hu269, H⟩ := H
         obtain ⟨b269, o269, cs269, hr269, hh269, hel269⟩ := Rd.elb HRp0 hu269
         obtain rfl := hr269
         try dsimp only [putL, setL, evL, getL]
         refine HK_readP 21 (v := .pointer (some ⟨b269, o269, none⟩)) rfl (by kernel_rfl) hQp (wantT (j := 13) (b := true) (t := 37) (c := decide (x192 > 0)) rfl rfl rfl rfl hb267) (fun s' K hK => hel269 s' rfl rfl Try.underlying24 tI3 hK) rfl rfl (fun _ => hR) ?_
         refine HK_read 22 (v := .int .i64 u269) rfl (by kernel_rfl) hQp (wantT (j := 13) (b := true) (t := 37) (c := decide (x192 > 0)) rfl rfl rfl rfl hb267) (fun s' hR' K hK => o_load' rfl Try.underlying3 rfl ((hh269 (hH0.bs.mono.trans hR'.mono)) 0 _ rfl) hK) rfl rfl hR ?_
         refine HK_readP 23 (v := .int .i64 (IntKind.i64.wrap (u269 + 2))) rfl (by kernel_rfl) hQp (wantT (j := 13) (b := true) (t := 37) (c := decide (x192 > 0)) rfl rfl rfl rfl hb267) (fun s' K hK => o_bin rfl rfl rfl hK) rfl rfl (fun _ => hR) ?_
         try dsimp only [putL, setL, evL, getL]
         refine HK_readP 24 (v := .bool (decide (u268 < (IntKind.i64.wrap (u269 + 2))))) rfl (by kernel_rfl) hQp (wantT (j := 13) (b := true) (t := 37) (c := decide (x192 > 0)) rfl rfl rfl rfl hb267) (fun s' K hK => o_bin rfl rfl rfl hK) rfl rfl (fun _ => hR) ?_
         refine HK_readP 25 (v := .bool (decide (u268 < (IntKind.i64.wrap (u269 + 2))))) rfl (by kernel_rfl) hQp (wantT (j := 10) (b := false) (t := 34) (c := decide (u264 > u265)) rfl rfl rfl rfl hb266) (fun s' K hK => o_pickT rfl hb267 hK) rfl rfl (fun _ => hR) ?_
         refine HK_readP 26 (v := .bool (decide (u268 < (IntKind.i64.wrap (u269 + 2))))) rfl (by kernel_rfl) hQp rfl (fun s' K hK => o_pickF rfl hb266 hK) rfl rfl (fun _ => hR) ?_
         try dsimp only [putL, setL, evL, getL]
         refine HK_done (fun _ => hR) (by kernel_rfl) ?_
         exact hK256 _ _ ⟨decide (u268 < (IntKind.i64.wrap (u269 + 2))), H, rfl, hH⟩
        ·refine HK_passP 14 rfl (by kernel_rfl) (fun c l s h => hQp c l s h) ?_ (fun _ => hR) ?_
         ·exact wantF (j := 13) (b := true) (t := 37) (c := decide (x192 > 0)) rfl rfl rfl rfl hb267
         refine HK_passP 15 rfl (by kernel_rfl) (fun c l s h => hQp c l s h) ?_ (fun _ => hR) ?_
         ·exact wantF (j := 13) (b := true) (t := 37) (c := decide (x192 > 0)) rfl rfl rfl rfl hb267
         try dsimp only [putL, setL, evL, getL]
         refine HK_passP 16 rfl (by kernel_rfl) (fun c l s h => hQp c l s h) ?_ (fun _ => hR) ?_
         ·exact wantF (j := 13) (b := true) (t := 37) (c := decide (x192 > 0)) rfl rfl rfl rfl hb267
         refine HK_passP 17 rfl (by kernel_rfl) (fun c l s h => hQp c l s h) ?_ (fun _ => hR) ?_
         ·exact wantF (j := 13) (b := true) (t := 37) (c := decide (x192 > 0)) rfl rfl rfl rfl hb267
         refine HK_passP 18 rfl (by kernel_rfl) (fun c l s h => hQp c l s h) ?_ (fun _ => hR) ?_
         ·exact wantF (j := 13) (b := true) (t := 37) (c := decide (x192 > 0)) rfl rfl rfl rfl hb267
         try dsimp only [putL, setL, evL, getL]
         refine HK_passP 19 rfl (by kernel_rfl) (fun c l s h => hQp c l s h) ?_ (fun _ => hR) ?_
         ·exact wantF (j := 13) (b := true) (t := 37) (c := decide (x192 > 0)) rfl rfl rfl rfl hb267
         refine HK_passP 20 rfl (by kernel_rfl) (fun c l s h => hQp c l s h) ?_ (fun _ => hR) ?_
         ·exact wantF (j := 13) (b := true) (t := 37) (c := decide (x192 > 0)) rfl rfl rfl rfl hb267
         refine HK_passP 21 rfl (by kernel_rfl) (fun c l s h => hQp c l s h) ?_ (fun _ => hR) ?_
         ·exact wantF (j := 13) (b := true) (t := 37) (c := decide (x192 > 0)) rfl rfl rfl rfl hb267
         try dsimp only [putL, setL, evL, getL]
         refine HK_passP 22 rfl (by kernel_rfl) (fun c l s h => hQp c l s h) ?_ (fun _ => hR) ?_
         ·exact wantF (j := 13) (b := true) (t := 37) (c := decide (x192 > 0)) rfl rfl rfl rfl hb267
         refine HK_passP 23 rfl (by kernel_rfl) (fun c l s h => hQp c l s h) ?_ (fun _ => hR) ?_
         ·exact wantF (j := 13) (b := true) (t := 37) (c := decide (x192 > 0)) rfl rfl rfl rfl hb267
         refine HK_passP 24 rfl (by kernel_rfl) (fun c l s h => hQp c l s h) ?_ (fun _ => hR) ?_
         ·exact wantF (j := 13) (b := true) (t := 37) (c := decide (x192 > 0)) rfl rfl rfl rfl hb267
         try dsimp only [putL, setL, evL, getL]
         refine HK_readP 25 (v := .bool false) rfl (by kernel_rfl) hQp (wantT (j := 10) (b := false) (t := 34) (c := decide (u264 > u265)) rfl rfl rfl rfl hb266) (fun s' K hK => o_pickF rfl hb267 hK) rfl rfl (fun _ => hR) ?_
         refine HK_readP 26 (v := .bool false) rfl (by kernel_rfl) hQp rfl (fun s' K hK => o_pickF rfl hb266 hK) rfl rfl (fun _ => hR) ?_
         refine HK_done (fun _ => hR) (by kernel_rfl) ?_
         exact hK256 _ _ ⟨false, H, rfl, hH⟩
      ·rintro l' s270 ⟨x263, H, hl, hH⟩
       revert l'
       refine skA ?_
       dsimp only [Al, Sk]
       intros
       replace H := hG256 _ H
       try dsimp only at H
       revert H
       refine ct rfl (fun hb271 H => ?_) (fun hb271 H => ?_)
       ·refine sr fun K272 hK272 => ?_
        try dsimp only [putL, setL, evL, getL]
        refine ag (HL_nil (hK272 _ _ ?_))
        dsimp only [putL, setL, evL, getL]
        refine HT_ret ?_
        replace H := escH (fun z hz => hG32 _ hz) H
        exact hQr _ _ [.bool false] _ ⟨rfl, trivial⟩ H ⟨rfl, hH⟩
       ·refine HT_skip (hK255 _ _ ?_)
        refine HT_region ?_
        refine mv (bn rfl rfl rfl (ag (HL_nil ?_)))
        exact hK233 _ _ ⟨kf, Nat.lt_succ_self kf, IntKind.i64.wrap (x192 + 2), H, rfl, hH⟩
     ·refine HT_exit ?_
      exact hK32 _ _ ⟨H, rfl, hH⟩
   ·rintro l' s273 ⟨H, hl, hH⟩
    revert l'
    refine skA ?_
    dsimp only [Al, Sk]
    intros
    replace H := hG32 _ H
    try dsimp only at H
    refine hK30 _ _ ?_
    refine sr fun K274 hK274 => ?_
    try dsimp only [putL, setL, evL, getL]
    refine ag (HL_nil (hK274 _ _ ?_))
    dsimp only [putL, setL, evL, getL]
    refine HT_ret ?_
    exact hQr _ _ [.bool true] _ ⟨rfl, trivial⟩ H ⟨rfl, hH⟩
def spec_GoodRune.f (p0 : Int) : Option Bool := (spec_l1In.f p0 0 1114111).bind fun u3 => if u3 = true then ((spec_l1In.f p0 55296 57343).bind fun u5 => some (!u5)) else (some false)
def spec_GoodRune.post (sb s : St) (F0 : Fp) (r : Bool) : Value → St → Prop := fun v s' => v = .bool r ∧ Hp sb s F0 s' []
set_option maxRecDepth 100000 in
set_option maxHeartbeats 4000000 in
theorem spec_GoodRune.ok (sb s : St) (F0 : Fp) (p0 : Int) (hH : Hp sb s F0 s []) (r : Bool) (H : spec_GoodRune.f p0 = some r) : GCall Try.prog 148 #[.int .i64 p0] s (spec_GoodRune.post sb s F0 r) := by
 refine GCall_ofr (spec_GoodRune.post sb s F0) [.tmp 2] (ud [.int .i64 p0] 9) Try.func148 rfl rfl rfl fun w Q hQr hQn hQp => ?_
 replace H := topE H
 unfold spec_GoodRune.f at H
 dsimp only [ud, un]
 refine sr fun K1 hK1 => ag (HL_nil (hK1 _ _ ?_))
 dsimp only [putL, setL, evL, getL]
 refine sr fun K2 hK2 => mv ?_
 replace H := headE H
 obtain ⟨u3, hu3, H⟩ := H
 refine hc (o_call (args := #[.int .i64 p0, .int .i64 0, .int .i64 1114111]) Try.func108 rfl rfl rfl (spec_l1In.ok sb s no p0 0 1114111 (Hp.own hH.bs) _ hu3) ?_)
 rintro _ s3 ⟨rfl, hD⟩
 replace hH := hH.back0 hD (Up.refl _ _ _)
 clear hD
 refine mv ?_
 revert H
 refine it (fun hb4 H => ?_) (fun hb4 H => ?_)
 ·refine wt rfl rfl rfl rfl hb4 (o_move ?_)
  replace H := headE H
  obtain ⟨u5, hu5, H⟩ := H
  try dsimp only [putL, setL, evL, getL]
  refine wt rfl rfl rfl rfl hb4 (o_call (args := #[.int .i64 p0, .int .i64 55296, .int .i64 57343]) Try.func108 rfl rfl rfl (spec_l1In.ok sb s3 no p0 55296 57343 (Hp.own hH.bs) _ hu5) ?_)
  rintro _ s5 ⟨rfl, hD⟩
  replace hH := hH.back0 hD (Up.refl _ _ _)
  clear hD
  refine wt rfl rfl rfl rfl hb4 (o_not rfl (hc (o_pickT rfl hb4 ?_)))
  dsimp only [putL, setL, evL, getL]
  refine ag (HL_nil (hK2 _ _ ?_))
  dsimp only [putL, setL, evL, getL]
  refine HT_ret ?_
  exact hQr _ _ [.bool (!u5)] _ ⟨rfl, trivial⟩ H ⟨rfl, hH⟩
 ·refine wf rfl rfl rfl rfl hb4 (wf rfl rfl rfl rfl hb4 (wf rfl rfl rfl rfl hb4 ?_))
  dsimp only [putL, setL, evL, getL]
  refine hc (o_pickF rfl hb4 (ag (HL_nil (hK2 _ _ ?_))))
  dsimp only [putL, setL, evL, getL]
  refine HT_ret ?_
  exact hQr _ _ [.bool false] _ ⟨rfl, trivial⟩ H ⟨rfl, hH⟩
def spec_l1AllRunes.l1 (p0 : List (Int)) : Nat → Int → Option (Lo Unit Bool)
 | 0, _ => none
 | kf + 1, x48 => if (decide (x48 < (p0.length : Int))) = true then ((rd? p0 x48).bind fun u66 => (spec_GoodRune.f u66).bind fun u68 => if (!u68) = true then ((some false).bind fun z => some (Lo.ret z)) else (spec_l1AllRunes.l1 p0 kf (IntKind.i64.wrap (x48 + 1)))) else (some (Lo.go ()))
def spec_l1AllRunes.f (p0 : List (Int)) : Option Bool := (spec_l1AllRunes.l1 p0 ((((p0.length : Int)) - (0)).toNat + 2) 0).bind fun (o : Lo Unit Bool) => match o with | .go () => (some (decide ((p0.length : Int) ≤ 1000))) | .ret z => some z
def spec_l1AllRunes.post (sb s : St) (F0 : Fp) (r : Bool) : Value → St → Prop := fun v s' => v = .bool r ∧ Hp sb s F0 s' []
set_option maxRecDepth 100000 in
set_option maxHeartbeats 4000000 in
theorem spec_l1AllRunes.ok (sb s : St) (F0 : Fp) (A0p : Option Addr) (c0p : Nat) (p0 : List (Int)) (HRp0 : Rd KI sb A0p c0p p0) (hH : Hp sb s F0 s []) (r : Bool) (H : spec_l1AllRunes.f p0 = some r) : GCall Try.prog 119 #[.slice A0p p0.length c0p] s (spec_l1AllRunes.post sb s F0 r) := by
 refine GCall_ofr (spec_l1AllRunes.post sb s F0) [.tmp 2] (ud [.slice A0p p0.length c0p] 17) Try.func119 rfl rfl rfl fun w Q hQr hQn hQp => ?_
 replace H := topE H
 unfold spec_l1AllRunes.f at H
 dsimp only [ud, un]
 refine sr fun K1 hK1 => ag (HL_nil (hK1 _ _ ?_))
 dsimp only [putL, setL, evL, getL]
 refine HT_seq_k fun K2 hK2 => sr fun K3 hK3 => mv (hc (o_len rfl Try.underlying24 (mv (HL_nil (hK3 _ _ ?_)))))
 dsimp only [putL, setL, evL, getL]
 refine joinH H fun G4 hG4 H => ?_
 refine HT_toK (fun l' s' => G4 (.go ()) = some r ∧ skim [0] l' = ([.slice A0p p0.length c0p], 18) ∧ Hp sb s F0 s' []) ?_ ?_
 ·intro K4 hK4
  refine HT_block ?_
  refine HT_loopK (fun kf l' s' => ∃ (x48 : Int), (spec_l1AllRunes.l1 p0 kf x48).bind G4 = some r ∧ skim [0, 4, 0, 0] l' = ([.slice A0p p0.length c0p, .slice A0p p0.length c0p, .int .i64 (p0.length : Int), .int .i64 x48], 11) ∧ Hp sb s F0 s' []) ((((p0.length : Int)) - (0)).toNat + 2) ⟨0, H, rfl, hH⟩ ?_
  rintro kf l' s60 ⟨x48, H, hl, hH⟩ K60 hK60
  revert l'
  refine skA ?_
  dsimp only [Al, Sk]
  intros
  cases kf with
  | zero => simp [spec_l1AllRunes.l1] at H
  | succ kf =>
   rw [spec_l1AllRunes.l1] at H
   refine sr fun K61 hK61 => bn rfl rfl rfl (HL_nil (hK61 _ _ ?_))
   dsimp only [putL, setL, evL, getL]
   refine HT_seq_k fun K62 hK62 => ?_
   revert H
   refine ct rfl (fun hb63 H => ?_) (fun hb63 H => ?_)
   ·refine HT_skip (hK62 _ _ (HT_seq_k fun K64 hK64 => (HT_block (sr fun K65 hK65 => ?_))))
    replace H := headE H
    obtain ⟨u66, hu66, H⟩ := H
    obtain ⟨b66, o66, cs66, hr66, hh66, hel66⟩ := Rd.elb HRp0 hu66
    obtain rfl := hr66
    refine hc (hel66 s60 rfl rfl Try.underlying24 tI3 (hc (o_load' rfl Try.underlying3 rfl ((hh66 hH.bs.mono) 0 _ rfl) (ag (HL_nil (hK65 _ _ ?_))))))
    dsimp only [putL, setL, evL, getL]
    refine sr fun K67 hK67 => mv ?_
    replace H := headE H
    obtain ⟨u68, hu68, H⟩ := H
    refine hc (o_call (args := #[.int .i64 u66]) Try.func148 rfl rfl rfl (spec_GoodRune.ok sb s60 no u66 (Hp.own hH.bs) _ hu68) ?_)
    rintro _ s68 ⟨rfl, hD⟩
    replace hH := hH.back0 hD (Up.refl _ _ _)
    clear hD
    refine hc (o_not rfl (HL_nil (hK67 _ _ ?_)))
    dsimp only [putL, setL, evL, getL]
    revert H
    refine ct rfl (fun hb69 H => ?_) (fun hb69 H => ?_)
    ·refine sr fun K70 hK70 => ag (HL_nil (hK70 _ _ ?_))
     dsimp only [putL, setL, evL, getL]
     refine HT_ret ?_
     replace H := escH (fun z hz => hG4 _ hz) H
     exact hQr _ _ [.bool false] _ ⟨rfl, trivial⟩ H ⟨rfl, hH⟩
    ·refine HT_skip (hK64 _ _ ?_)
     refine HT_region ?_
     refine bn rfl rfl rfl (mv (HL_nil ?_))
     exact hK60 _ _ ⟨kf, Nat.lt_succ_self kf, IntKind.i64.wrap (x48 + 1), H, rfl, hH⟩
   ·refine HT_exit ?_
    exact hK4 _ _ ⟨H, rfl, hH⟩
 ·rintro l' s71 ⟨H, hl, hH⟩
  revert l'
  refine skA ?_
  dsimp only [Al, Sk]
  intros
  replace H := hG4 _ H
  try dsimp only at H
  refine hK2 _ _ ?_
  refine sr fun K72 hK72 => mv ?_
  dsimp only [putL, setL, evL, getL]
  refine hc (o_len rfl Try.underlying24 (bn rfl rfl rfl (ag (HL_nil (hK72 _ _ ?_)))))
  dsimp only [putL, setL, evL, getL]
  refine HT_ret ?_
  exact hQr _ _ [.bool (decide ((p0.length : Int) ≤ 1000))] _ ⟨rfl, trivial⟩ H ⟨rfl, hH⟩
def spec_l5Node.f (p0_0 : Int) (p0_1 : List (Int)) : Option Bool := ((spec_l5Arity.f p0_0).bind fun u30 => if (decide (u30 < 0)) = true then (some true) else (if (p0_0 != 2) = true then (if (decide ((p0_1.length : Int) > 0)) = true then (some true) else ((spec_GoodSet.f p0_1).bind fun u34 => some (!u34))) else ((spec_GoodSet.f p0_1).bind fun u35 => some (!u35)))).bind fun (o : Bool) => match o with | x29 => (if x29 = true then (some false) else ((spec_l1AllRunes.f p0_1).bind fun u40 => some u40))
def spec_l5Node.post (sb s : St) (F0 : Fp) (r : Bool) : Value → St → Prop := fun v s' => v = .bool r ∧ Hp sb s F0 s' []
set_option maxRecDepth 100000 in
set_option maxHeartbeats 4000000 in
theorem spec_l5Node.ok (sb s : St) (F0 : Fp) (p0_0 : Int) (A0_1p : Option Addr) (c0_1p : Nat) (p0_1 : List (Int)) (HRp0_1 : Rd KI sb A0_1p c0_1p p0_1) (hH : Hp sb s F0 s []) (r : Bool) (H : spec_l5Node.f p0_0 p0_1 = some r) : GCall Try.prog 234 #[.agg #[.int .i64 p0_0, .slice A0_1p p0_1.length c0_1p]] s (spec_l5Node.post sb s F0 r) := by
 refine GCall_ofr (spec_l5Node.post sb s F0) [.tmp 2] (ud [.agg #[.int .i64 p0_0, .slice A0_1p p0_1.length c0_1p]] 26) Try.func234 rfl rfl rfl fun w Q hQr hQn hQp => ?_
 replace H := topE H
 unfold spec_l5Node.f at H
 dsimp only [ud, un]
 refine sr fun K1 hK1 => hc (o_boxH hH rfl ?_)
 clear hH
 intro b2 s2 hH _
 refine ag (HL_nil (hK1 _ _ ?_))
 dsimp only [putL, setL, evL, getL]
 refine HT_seq_k fun K21 hK21 => ?_
 refine joinH H fun G22 hG22 H => ?_
 refine HT_joinK (fun l' s' => ∃ (x29 : Bool), G22 x29 = some r ∧ skim [1, 21] l' = ([.pointer (some ⟨b2, 0, none⟩), .bool x29], 4) ∧ Hp sb s F0 s' [Ck.ov b2 [.int .i64 p0_0, .slice A0_1p p0_1.length c0_1p] 139]) ?_ ?_
 ·intro K22 hK22
  refine HT_region ?_
  refine hc (o_faddr' (ft := 3) (off := 0) rfl Try.underlying139 rfl tI3 (by decide) (hc (o_load' rfl Try.underlying3 rfl (hH.hasv 0 rfl rfl) ?_)))
  replace H := headE H
  obtain ⟨u30, hu30, H⟩ := H
  refine hc (o_call (args := #[.int .i64 p0_0]) Try.func223 rfl rfl rfl (spec_l5Arity.ok sb s2 no p0_0 (Hp.own hH.bs) _ hu30) ?_)
  rintro _ s30 ⟨rfl, hD⟩
  replace hH := hH.back0 hD (Up.refl _ _ _)
  clear hD
  try dsimp only [putL, setL, evL, getL]
  refine bn rfl rfl rfl (mv ?_)
  revert H
  refine it (fun hb31 H => ?_) (fun hb31 H => ?_)
  ·refine wf rfl rfl rfl rfl hb31 ?_
   dsimp only [putL, setL, evL, getL]
   refine wf rfl rfl rfl rfl hb31 (wf rfl rfl rfl rfl hb31 (wf rfl rfl rfl rfl hb31 ?_))
   dsimp only [putL, setL, evL, getL]
   refine wu rfl rfl rfl rfl (wu rfl rfl rfl rfl (wu rfl rfl rfl rfl ?_))
   dsimp only [putL, setL, evL, getL]
   refine wu rfl rfl rfl rfl (wf rfl rfl rfl rfl hb31 (hc (o_pickT rfl hb31 ?_)))
   dsimp only [putL, setL, evL, getL]
   refine mv (wf rfl rfl rfl rfl rfl (wf rfl rfl rfl rfl rfl ?_))
   dsimp only [putL, setL, evL, getL]
   refine wf rfl rfl rfl rfl rfl (wf rfl rfl rfl rfl rfl (hc (o_pickT rfl rfl (HL_nil ?_))))
   exact hK22 _ _ ⟨true, H, rfl, hH⟩
  ·refine wt rfl rfl rfl rfl hb31 (o_faddr' (ft := 3) (off := 0) rfl Try.underlying139 rfl tI3 (by decide) ?_)
   dsimp only [putL, setL, evL, getL]
   refine wt rfl rfl rfl rfl hb31 (o_load' rfl Try.underlying3 rfl (hH.hasv 0 rfl rfl) (wt rfl rfl rfl rfl hb31 (o_bin rfl rfl rfl (wt rfl rfl rfl rfl hb31 (o_move ?_)))))
   revert H
   refine it (fun hb32 H => ?_) (fun hb32 H => ?_)
   ·refine wt rfl rfl rfl rfl hb32 (o_faddr' (ft := 24) (off := 1) rfl Try.underlying139 rfl tI24 (by decide) ?_)
    dsimp only [putL, setL, evL, getL]
    refine wt rfl rfl rfl rfl hb32 (o_load' rfl Try.underlying24 rfl (hH.hasv 0 rfl rfl) (wt rfl rfl rfl rfl hb32 (o_len rfl Try.underlying24 (wt rfl rfl rfl rfl hb32 (o_bin rfl rfl rfl ?_)))))
    dsimp only [putL, setL, evL, getL]
    refine wt rfl rfl rfl rfl hb31 (o_pickT rfl hb32 (hc (o_pickF rfl hb31 (mv ?_))))
    revert H
    refine it (fun hb33 H => ?_) (fun hb33 H => ?_)
    ·refine wf rfl rfl rfl rfl hb33 ?_
     dsimp only [putL, setL, evL, getL]
     refine wf rfl rfl rfl rfl hb33 (wf rfl rfl rfl rfl hb33 (wf rfl rfl rfl rfl hb33 ?_))
     dsimp only [putL, setL, evL, getL]
     refine hc (o_pickT rfl hb33 (HL_nil ?_))
     exact hK22 _ _ ⟨true, H, rfl, hH⟩
    ·refine wt rfl rfl rfl rfl hb33 (o_faddr' (ft := 24) (off := 1) rfl Try.underlying139 rfl tI24 (by decide) (wt rfl rfl rfl rfl hb33 (o_load' rfl Try.underlying24 rfl (hH.hasv 0 rfl rfl) ?_)))
     replace H := headE H
     obtain ⟨u34, hu34, H⟩ := H
     try dsimp only [putL, setL, evL, getL]
     refine wt rfl rfl rfl rfl hb33 (o_call (args := #[.slice A0_1p p0_1.length c0_1p]) Try.func240 rfl rfl rfl (spec_GoodSet.ok sb s30 no A0_1p c0_1p p0_1 HRp0_1 (Hp.own hH.bs) _ hu34) ?_)
     rintro _ s34 ⟨rfl, hD⟩
     replace hH := hH.back0 hD (Up.refl _ _ _)
     clear hD
     refine wt rfl rfl rfl rfl hb33 (o_not rfl (hc (o_pickF rfl hb33 (HL_nil ?_))))
     exact hK22 _ _ ⟨!u34, H, rfl, hH⟩
   ·refine wf rfl rfl rfl rfl hb32 ?_
    dsimp only [putL, setL, evL, getL]
    refine wf rfl rfl rfl rfl hb32 (wf rfl rfl rfl rfl hb32 (wf rfl rfl rfl rfl hb32 ?_))
    dsimp only [putL, setL, evL, getL]
    refine wt rfl rfl rfl rfl hb31 (o_pickF rfl hb32 (hc (o_pickF rfl hb31 (mv ?_))))
    dsimp only [putL, setL, evL, getL]
    refine wt rfl rfl rfl rfl rfl (o_faddr' (ft := 24) (off := 1) rfl Try.underlying139 rfl tI24 (by decide) (wt rfl rfl rfl rfl rfl (o_load' rfl Try.underlying24 rfl (hH.hasv 0 rfl rfl) ?_)))
    replace H := headE H
    obtain ⟨u35, hu35, H⟩ := H
    refine wt rfl rfl rfl rfl rfl (o_call (args := #[.slice A0_1p p0_1.length c0_1p]) Try.func240 rfl rfl rfl (spec_GoodSet.ok sb s30 no A0_1p c0_1p p0_1 HRp0_1 (Hp.own hH.bs) _ hu35) ?_)
    rintro _ s35 ⟨rfl, hD⟩
    replace hH := hH.back0 hD (Up.refl _ _ _)
    clear hD
    try dsimp only [putL, setL, evL, getL]
    refine wt rfl rfl rfl rfl rfl (o_not rfl (hc (o_pickF rfl rfl (HL_nil ?_))))
    exact hK22 _ _ ⟨!u35, H, rfl, hH⟩
 ·rintro l' s36 ⟨x29, H, hl, hH⟩
  revert l'
  refine skA ?_
  dsimp only [Al, Sk]
  intros
  replace H := hG22 _ H
  try dsimp only at H
  revert H
  refine ct rfl (fun hb37 H => ?_) (fun hb37 H => ?_)
  ·refine sr fun K38 hK38 => ag (HL_nil (hK38 _ _ ?_))
   dsimp only [putL, setL, evL, getL]
   refine HT_ret ?_
   exact hQr _ _ [.bool false] _ ⟨rfl, trivial⟩ H ⟨rfl, hH.sel [] (by decide)⟩
  ·refine HT_skip (hK21 _ _ (sr fun K39 hK39 => (hc (o_faddr' (ft := 24) (off := 1) rfl Try.underlying139 rfl tI24 (by decide) (hc (o_load' rfl Try.underlying24 rfl (hH.hasv 0 rfl rfl) ?_))))))
   replace H := headE H
   obtain ⟨u40, hu40, H⟩ := H
   refine hc (o_call (args := #[.slice A0_1p p0_1.length c0_1p]) Try.func119 rfl rfl rfl (spec_l1AllRunes.ok sb s36 no A0_1p c0_1p p0_1 HRp0_1 (Hp.own hH.bs) _ hu40) ?_)
   rintro _ s40 ⟨rfl, hD⟩
   replace hH := hH.back0 hD (Up.refl _ _ _)
   clear hD
   try dsimp only [putL, setL, evL, getL]
   refine ag (HL_nil (hK39 _ _ ?_))
   dsimp only [putL, setL, evL, getL]
   refine HT_ret ?_
   exact hQr _ _ [.bool u40] _ ⟨rfl, trivial⟩ H ⟨rfl, hH.sel [] (by decide)⟩
def spec_l5Good.l1 (p0 : List ((Int) × (List (Int)))) : Nat → Int → Int → Option (Lo Int Bool)
 | 0, _, _ => none
 | kf + 1, x272, x273 => if (decide (x273 < (p0.length : Int))) = true then ((rd? p0 x273).bind fun u378 => ((spec_l5Node.f u378.1 u378.2).bind fun u400 => if (!u400) = true then (some true) else ((spec_l5Arity.f u378.1).bind fun u402 => some (decide (x272 < u402)))).bind fun (o : Bool) => match o with | x399 => (if x399 = true then ((some false).bind fun z => some (Lo.ret z)) else ((spec_l5Arity.f u378.1).bind fun u406 => spec_l5Good.l1 p0 kf (IntKind.i64.wrap (x272 + (IntKind.i64.wrap (1 - u406)))) (IntKind.i64.wrap (x273 + 1))))) else (some (Lo.go x272))
def spec_l5Good.f (p0 : List ((Int) × (List (Int)))) : Option Bool := (spec_l5Good.l1 p0 ((((p0.length : Int)) - (0)).toNat + 2) 0 0).bind fun (o : Lo Int Bool) => match o with | .go x206 => (some (x206 == 1)) | .ret z => some z
def spec_l5Good.post (sb s : St) (F0 : Fp) (r : Bool) : Value → St → Prop := fun v s' => v = .bool r ∧ Hp sb s F0 s' []
set_option maxRecDepth 100000 in
set_option maxHeartbeats 4000000 in
theorem spec_l5Good.ok (sb s : St) (F0 : Fp) (A0p : Option Addr) (c0p : Nat) (p0 : List ((Int) × (List (Int)))) (HRp0 : Rd KS139 sb A0p c0p p0) (hH : Hp sb s F0 s []) (r : Bool) (H : spec_l5Good.f p0 = some r) : GCall Try.prog 220 #[.slice A0p p0.length c0p] s (spec_l5Good.post sb s F0 r) := by
 refine GCall_ofr (spec_l5Good.post sb s F0) [.tmp 2] (ud [.slice A0p p0.length c0p] 30) Try.func220 rfl rfl rfl fun w Q hQr hQn hQp => ?_
 replace H := topE H
 unfold spec_l5Good.f at H
 dsimp only [ud, un]
 refine sr fun K1 hK1 => ag (HL_nil (hK1 _ _ ?_))
 dsimp only [putL, setL, evL, getL]
 refine sr fun K2 hK2 => ag (HL_nil (hK2 _ _ ?_))
 dsimp only [putL, setL, evL, getL]
 refine HT_seq_k fun K3 hK3 => sr fun K4 hK4 => mv (hc (o_len rfl Try.underlying57 (mv (HL_nil (hK4 _ _ ?_)))))
 dsimp only [putL, setL, evL, getL]
 refine joinH H fun G5 hG5 H => ?_
 refine HT_toK (fun l' s' => ∃ (x206 : Int), G5 (.go x206) = some r ∧ skim [3] l' = ([.int .i64 x206], 28) ∧ Hp sb s F0 s' []) ?_ ?_
 ·intro K5 hK5
  refine HT_block ?_
  refine HT_loopK (fun kf l' s' => ∃ (x272 : Int) (x273 : Int), (spec_l5Good.l1 p0 kf x272 x273).bind G5 = some r ∧ skim [3, 2, 0, 0] l' = ([.int .i64 x272, .slice A0p p0.length c0p, .int .i64 (p0.length : Int), .int .i64 x273], 23) ∧ Hp sb s F0 s' []) ((((p0.length : Int)) - (0)).toNat + 2) ⟨0, 0, H, rfl, hH⟩ ?_
  rintro kf l' s341 ⟨x272, x273, H, hl, hH⟩ K341 hK341
  revert l'
  refine skA ?_
  dsimp only [Al, Sk]
  intros
  cases kf with
  | zero => simp [spec_l5Good.l1] at H
  | succ kf =>
   rw [spec_l5Good.l1] at H
   refine sr fun K342 hK342 => bn rfl rfl rfl (HL_nil (hK342 _ _ ?_))
   dsimp only [putL, setL, evL, getL]
   refine HT_seq_k fun K343 hK343 => ?_
   revert H
   refine ct rfl (fun hb344 H => ?_) (fun hb344 H => ?_)
   ·refine HT_skip (hK343 _ _ (HT_seq_k fun K376 hK376 => (HT_block (sr fun K377 hK377 => ?_))))
    replace H := headE H
    obtain ⟨u378, hu378, H⟩ := H
    obtain ⟨b378, o378, cs378, hr378, hh378, hel378⟩ := Rd.elb HRp0 hu378
    obtain ⟨_, _, rfl, rfl, ⟨A379, c379, rfl, D379⟩⟩ := hr378
    refine hc (hel378 s341 rfl rfl Try.underlying57 tI139 (hc (o_loads' [.int .i64 u378.1, .slice A379 u378.2.length c379] rfl Try.underlying139 rfl tI139 rfl (fun j v hj => (hh378 hH.bs.mono) j v hj) (hc (o_allocH hH tI139 ?_)))))
    clear hH
    intro b380 s380 hH _
    try dsimp only [putL, setL, evL, getL]
    refine hc (o_stvH (vs := [.int .i64 u378.1, .slice A379 u378.2.length c379]) (us' := [.int .i64 u378.1, .slice A379 u378.2.length c379]) hH 0 rfl rfl rfl rfl rfl tI139 rfl (List.cons_ne_nil _ _) rfl rfl rfl ?_)
    clear hH
    intro s381 hH
    refine HL_nil (hK377 _ _ ?_)
    try dsimp only [putL, setL, evL, getL]
    refine HT_seq_k fun K394 hK394 => ?_
    refine joinH H fun G395 hG395 H => ?_
    refine HT_joinK (fun l' s' => ∃ (x399 : Bool), G395 x399 = some r ∧ skim [3, 1, 0, 0, 0, 12] l' = ([.int .i64 x272, .pointer (some ⟨b380, 0, none⟩), .slice A0p p0.length c0p, .int .i64 (p0.length : Int), .int .i64 x273, .bool x399], 10) ∧ Hp sb s F0 s' [Ck.ov b380 [.int .i64 u378.1, .slice A379 u378.2.length c379] 139]) ?_ ?_
    ·intro K395 hK395
     refine HT_region ?_
     refine hc (o_loads' [.int .i64 u378.1, .slice A379 u378.2.length c379] rfl Try.underlying139 rfl tI139 rfl (hH.partv 0 rfl (0) [.int .i64 u378.1, .slice A379 u378.2.length c379] rfl) ?_)
     replace H := headE H
     obtain ⟨u400, hu400, H⟩ := H
     refine hc (o_call (args := #[.agg #[.int .i64 u378.1, .slice A379 u378.2.length c379]]) Try.func234 rfl rfl rfl (spec_l5Node.ok sb s381 no u378.1 A379 c379 u378.2 D379 (Hp.own hH.bs) _ hu400) ?_)
     rintro _ s400 ⟨rfl, hD⟩
     replace hH := hH.back0 hD (Up.refl _ _ _)
     clear hD
     refine hc (o_not rfl ?_)
     dsimp only [putL, setL, evL, getL]
     refine mv ?_
     revert H
     refine it (fun hb401 H => ?_) (fun hb401 H => ?_)
     ·refine wf rfl rfl rfl rfl hb401 (wf rfl rfl rfl rfl hb401 ?_)
      dsimp only [putL, setL, evL, getL]
      refine wf rfl rfl rfl rfl hb401 (wf rfl rfl rfl rfl hb401 (wf rfl rfl rfl rfl hb401 ?_))
      dsimp only [putL, setL, evL, getL]
      refine hc (o_pickT rfl hb401 (HL_nil ?_))
      exact hK395 _ _ ⟨true, H, rfl, hH⟩
     ·refine wt rfl rfl rfl rfl hb401 (o_move (wt rfl rfl rfl rfl hb401 (o_faddr' (ft := 3) (off := 0) rfl Try.underlying139 rfl tI3 (by decide) ?_)))
      dsimp only [putL, setL, evL, getL]
      refine wt rfl rfl rfl rfl hb401 (o_load' rfl Try.underlying3 rfl (hH.hasv 0 rfl rfl) ?_)
      replace H := headE H
      obtain ⟨u402, hu402, H⟩ := H
      refine wt rfl rfl rfl rfl hb401 (o_call (args := #[.int .i64 u378.1]) Try.func223 rfl rfl rfl (spec_l5Arity.ok sb s400 no u378.1 (Hp.own hH.bs) _ hu402) ?_)
      rintro _ s402 ⟨rfl, hD⟩
      replace hH := hH.back0 hD (Up.refl _ _ _)
      clear hD
      refine wt rfl rfl rfl rfl hb401 (o_bin rfl rfl rfl ?_)
      dsimp only [putL, setL, evL, getL]
      refine hc (o_pickF rfl hb401 (HL_nil ?_))
      exact hK395 _ _ ⟨decide (x272 < u402), H, rfl, hH⟩
    ·rintro l' s403 ⟨x399, H, hl, hH⟩
     revert l'
     refine skA ?_
     dsimp only [Al, Sk]
     intros
     replace H := hG395 _ H
     try dsimp only at H
     revert H
     refine ct rfl (fun hb404 H => ?_) (fun hb404 H => ?_)
     ·refine sr fun K405 hK405 => ag (HL_nil (hK405 _ _ ?_))
      dsimp only [putL, setL, evL, getL]
      refine HT_ret ?_
      replace H := escH (fun z hz => hG5 _ hz) H
      exact hQr _ _ [.bool false] _ ⟨rfl, trivial⟩ H ⟨rfl, hH.sel [] (by decide)⟩
     ·refine HT_skip (hK394 _ _ ?_)
      refine HT_region ?_
      refine mv (hc (o_faddr' (ft := 3) (off := 0) rfl Try.underlying139 rfl tI3 (by decide) (hc (o_load' rfl Try.underlying3 rfl (hH.hasv 0 rfl rfl) ?_))))
      replace H := headE H
      obtain ⟨u406, hu406, H⟩ := H
      try dsimp only [putL, setL, evL, getL]
      refine hc (o_call (args := #[.int .i64 u378.1]) Try.func223 rfl rfl rfl (spec_l5Arity.ok sb s403 no u378.1 (Hp.own hH.bs) _ hu406) ?_)
      rintro _ s406 ⟨rfl, hD⟩
      replace hH := hH.back0 hD (Up.refl _ _ _)
      clear hD
      refine bn rfl rfl rfl (bn rfl rfl rfl ?_)
      dsimp only [putL, setL, evL, getL]
      refine ag (HL_nil (hK376 _ _ ?_))
      dsimp only [putL, setL, evL, getL]
      refine HT_region ?_
      refine bn rfl rfl rfl (mv (HL_nil ?_))
      exact hK341 _ _ ⟨kf, Nat.lt_succ_self kf, IntKind.i64.wrap (x272 + (IntKind.i64.wrap (1 - u406))), IntKind.i64.wrap (x273 + 1), H, rfl, hH.sel [] (by decide)⟩
   ·refine HT_exit ?_
    exact hK5 _ _ ⟨x272, H, rfl, hH⟩
 ·rintro l' s407 ⟨x206, H, hl, hH⟩
  revert l'
  refine skA ?_
  dsimp only [Al, Sk]
  intros
  replace H := hG5 _ H
  try dsimp only at H
  refine hK3 _ _ ?_
  refine sr fun K408 hK408 => mv ?_
  dsimp only [putL, setL, evL, getL]
  refine bn rfl rfl rfl (ag (HL_nil (hK408 _ _ ?_)))
  dsimp only [putL, setL, evL, getL]
  refine HT_ret ?_
  exact hQr _ _ [.bool (x206 == 1)] _ ⟨rfl, trivial⟩ H ⟨rfl, hH⟩
def spec_GoodRe.f (p0 : List ((Int) × (List (Int)))) : Option Bool := if (decide ((p0.length : Int) ≤ 40)) = true then ((spec_l5Good.f p0).bind fun u4 => some u4) else (some false)
def spec_GoodRe.post (sb s : St) (F0 : Fp) (r : Bool) : Value → St → Prop := fun v s' => v = .bool r ∧ Hp sb s F0 s' []
set_option maxRecDepth 100000 in
set_option maxHeartbeats 4000000 in
theorem spec_GoodRe.ok (sb s : St) (F0 : Fp) (A0p : Option Addr) (c0p : Nat) (p0 : List ((Int) × (List (Int)))) (HRp0 : Rd KS139 sb A0p c0p p0) (hH : Hp sb s F0 s []) (r : Bool) (H : spec_GoodRe.f p0 = some r) : GCall Try.prog 189 #[.slice A0p p0.length c0p] s (spec_GoodRe.post sb s F0 r) := by
 refine GCall_ofr (spec_GoodRe.post sb s F0) [.tmp 2] (ud [.slice A0p p0.length c0p] 9) Try.func189 rfl rfl rfl fun w Q hQr hQn hQp => ?_
 replace H := topE H
 unfold spec_GoodRe.f at H
 dsimp only [ud, un]
 refine sr fun K1 hK1 => ag (HL_nil (hK1 _ _ ?_))
 dsimp only [putL, setL, evL, getL]
 refine sr fun K2 hK2 => mv (hc (o_len rfl Try.underlying57 (bn rfl rfl rfl ?_)))
 dsimp only [putL, setL, evL, getL]
 refine mv ?_
 revert H
 refine it (fun hb3 H => ?_) (fun hb3 H => ?_)
 ·refine wt rfl rfl rfl rfl hb3 (o_move ?_)
  replace H := headE H
  obtain ⟨u4, hu4, H⟩ := H
  refine wt rfl rfl rfl rfl hb3 (o_call (args := #[.slice A0p p0.length c0p]) Try.func220 rfl rfl rfl (spec_l5Good.ok sb s no A0p c0p p0 HRp0 (Hp.own hH.bs) _ hu4) ?_)
  rintro _ s4 ⟨rfl, hD⟩
  replace hH := hH.back0 hD (Up.refl _ _ _)
  clear hD
  try dsimp only [putL, setL, evL, getL]
  refine hc (o_pickT rfl hb3 (ag (HL_nil (hK2 _ _ ?_))))
  dsimp only [putL, setL, evL, getL]
  refine HT_ret ?_
  exact hQr _ _ [.bool u4] _ ⟨rfl, trivial⟩ H ⟨rfl, hH⟩
 ·refine wf rfl rfl rfl rfl hb3 (wf rfl rfl rfl rfl hb3 (hc (o_pickF rfl hb3 ?_)))
  dsimp only [putL, setL, evL, getL]
  refine ag (HL_nil (hK2 _ _ ?_))
  dsimp only [putL, setL, evL, getL]
  refine HT_ret ?_
  exact hQr _ _ [.bool false] _ ⟨rfl, trivial⟩ H ⟨rfl, hH⟩
def spec_IsPlain.l1 (p0 : List ((Int) × (List (Int)))) : Nat → Int → Option (Lo Unit (Bool × Bool))
 | 0, _ => none
 | kf + 1, x129 => if (decide (x129 < (p0.length : Int))) = true then ((rd? p0 x129).bind fun u179 => (if (u179.1 == 5) = true then (some true) else (some (u179.1 == 7))).bind fun (o : Bool) => match o with | x185 => (if x185 = true then ((some (false, true)).bind fun z => some (Lo.ret z)) else (spec_IsPlain.l1 p0 kf (IntKind.i64.wrap (x129 + 1))))) else (some (Lo.go ()))
def spec_IsPlain.f (p0 : List ((Int) × (List (Int)))) : Option (Bool × Bool) := (spec_GoodRe.f p0).bind fun u4 => if (!u4) = true then (some (false, false)) else ((spec_IsPlain.l1 p0 ((((p0.length : Int)) - (0)).toNat + 2) 0).bind fun (o : Lo Unit (Bool × Bool)) => match o with | .go () => (some (true, true)) | .ret z => some z)
def spec_IsPlain.post (sb s : St) (F0 : Fp) (r : Bool × Bool) : Value → St → Prop := fun v s' => v = .tuple #[.bool r.1, .bool r.2] ∧ Hp sb s F0 s' []
set_option maxRecDepth 100000 in
set_option maxHeartbeats 4000000 in
theorem spec_IsPlain.ok (sb s : St) (F0 : Fp) (A0p : Option Addr) (c0p : Nat) (p0 : List ((Int) × (List (Int)))) (HRp0 : Rd KS139 sb A0p c0p p0) (hH : Hp sb s F0 s []) (r : Bool × Bool) (H : spec_IsPlain.f p0 = some r) : GCall Try.prog 128 #[.slice A0p p0.length c0p] s (spec_IsPlain.post sb s F0 r) := by
 refine GCall_ofr (spec_IsPlain.post sb s F0) [.tmp 2, .tmp 3] (ud [.slice A0p p0.length c0p] 23) Try.func128 rfl rfl rfl fun w Q hQr hQn hQp => ?_
 replace H := topE H
 unfold spec_IsPlain.f at H
 dsimp only [ud, un]
 refine sr fun K1 hK1 => ag (ag (HL_nil (hK1 _ _ ?_)))
 dsimp only [putL, setL, evL, getL]
 refine HT_seq_k fun K2 hK2 => sr fun K3 hK3 => mv ?_
 replace H := headE H
 obtain ⟨u4, hu4, H⟩ := H
 refine hc (o_call (args := #[.slice A0p p0.length c0p]) Try.func189 rfl rfl rfl (spec_GoodRe.ok sb s no A0p c0p p0 HRp0 (Hp.own hH.bs) _ hu4) ?_)
 rintro _ s4 ⟨rfl, hD⟩
 replace hH := hH.back0 hD (Up.refl _ _ _)
 clear hD
 refine hc (o_not rfl (HL_nil (hK3 _ _ ?_)))
 dsimp only [putL, setL, evL, getL]
 revert H
 refine ct rfl (fun hb5 H => ?_) (fun hb5 H => ?_)
 ·refine sr fun K6 hK6 => ag (ag (HL_nil (hK6 _ _ ?_)))
  dsimp only [putL, setL, evL, getL]
  refine HT_ret ?_
  exact hQr _ _ [.bool false, .bool false] _ ⟨rfl, rfl, trivial⟩ H ⟨rfl, hH⟩
 ·refine HT_skip (hK2 _ _ (HT_seq_k fun K7 hK7 => (sr fun K8 hK8 => (mv (hc (o_len rfl Try.underlying57 (mv (HL_nil (hK8 _ _ ?_)))))))))
  dsimp only [putL, setL, evL, getL]
  refine joinH H fun G9 hG9 H => ?_
  refine HT_toK (fun l' s' => G9 (.go ()) = some r ∧ skim [] l' = ([], 25) ∧ Hp sb s F0 s' []) ?_ ?_
  ·intro K9 hK9
   refine HT_block ?_
   refine HT_loopK (fun kf l' s' => ∃ (x129 : Int), (spec_IsPlain.l1 p0 kf x129).bind G9 = some r ∧ skim [9, 0, 0] l' = ([.slice A0p p0.length c0p, .int .i64 (p0.length : Int), .int .i64 x129], 13) ∧ Hp sb s F0 s' []) ((((p0.length : Int)) - (0)).toNat + 2) ⟨0, H, rfl, hH⟩ ?_
   rintro kf l' s160 ⟨x129, H, hl, hH⟩ K160 hK160
   revert l'
   refine skA ?_
   dsimp only [Al, Sk]
   intros
   cases kf with
   | zero => simp [spec_IsPlain.l1] at H
   | succ kf =>
    rw [spec_IsPlain.l1] at H
    refine sr fun K161 hK161 => bn rfl rfl rfl (HL_nil (hK161 _ _ ?_))
    dsimp only [putL, setL, evL, getL]
    refine HT_seq_k fun K162 hK162 => ?_
    revert H
    refine ct rfl (fun hb163 H => ?_) (fun hb163 H => ?_)
    ·refine HT_skip (hK162 _ _ (HT_seq_k fun K177 hK177 => (HT_block (sr fun K178 hK178 => ?_))))
     replace H := headE H
     obtain ⟨u179, hu179, H⟩ := H
     obtain ⟨b179, o179, cs179, hr179, hh179, hel179⟩ := Rd.elb HRp0 hu179
     obtain ⟨_, _, rfl, rfl, ⟨A180, c180, rfl, D180⟩⟩ := hr179
     refine hc (hel179 s160 rfl rfl Try.underlying57 tI139 (hc (o_loads' [.int .i64 u179.1, .slice A180 u179.2.length c180] rfl Try.underlying139 rfl tI139 rfl (fun j v hj => (hh179 hH.bs.mono) j v hj) (hc (o_allocH hH tI139 ?_)))))
     clear hH
     intro b181 s181 hH _
     try dsimp only [putL, setL, evL, getL]
     refine hc (o_stvH (vs := [.int .i64 u179.1, .slice A180 u179.2.length c180]) (us' := [.int .i64 u179.1, .slice A180 u179.2.length c180]) hH 0 rfl rfl rfl rfl rfl tI139 rfl (List.cons_ne_nil _ _) rfl rfl rfl ?_)
     clear hH
     intro s182 hH
     refine HL_nil (hK178 _ _ ?_)
     try dsimp only [putL, setL, evL, getL]
     refine joinH H fun G183 hG183 H => ?_
     refine HT_joinK (fun l' s' => ∃ (x185 : Bool), G183 x185 = some r ∧ skim [9, 0, 0, 10] l' = ([.slice A0p p0.length c0p, .int .i64 (p0.length : Int), .int .i64 x129, .bool x185], 2) ∧ Hp sb s F0 s' []) ?_ ?_
     ·intro K183 hK183
      refine HT_region ?_
      refine hc (o_faddr' (ft := 3) (off := 0) rfl Try.underlying139 rfl tI3 (by decide) (hc (o_load' rfl Try.underlying3 rfl (hH.hasv 0 rfl rfl) (bn rfl rfl rfl ?_))))
      dsimp only [putL, setL, evL, getL]
      refine mv ?_
      revert H
      refine it (fun hb186 H => ?_) (fun hb186 H => ?_)
      ·refine wf rfl rfl rfl rfl hb186 (wf rfl rfl rfl rfl hb186 ?_)
       dsimp only [putL, setL, evL, getL]
       refine wf rfl rfl rfl rfl hb186 (hc (o_pickT rfl hb186 (HL_nil ?_)))
       exact hK183 _ _ ⟨true, H, rfl, hH.sel [] (by decide)⟩
      ·refine wt rfl rfl rfl rfl hb186 (o_faddr' (ft := 3) (off := 0) rfl Try.underlying139 rfl tI3 (by decide) ?_)
       dsimp only [putL, setL, evL, getL]
       refine wt rfl rfl rfl rfl hb186 (o_load' rfl Try.underlying3 rfl (hH.hasv 0 rfl rfl) (wt rfl rfl rfl rfl hb186 (o_bin rfl rfl rfl (hc (o_pickF rfl hb186 (HL_nil ?_))))))
       exact hK183 _ _ ⟨u179.1 == 7, H, rfl, hH.sel [] (by decide)⟩
     ·rintro l' s187 ⟨x185, H, hl, hH⟩
      revert l'
      refine skA ?_
      dsimp only [Al, Sk]
      intros
      replace H := hG183 _ H
      try dsimp only at H
      revert H
      refine ct rfl (fun hb188 H => ?_) (fun hb188 H => ?_)
      ·refine sr fun K189 hK189 => ?_
       try dsimp only [putL, setL, evL, getL]
       refine ag (ag (HL_nil (hK189 _ _ ?_)))
       dsimp only [putL, setL, evL, getL]
       refine HT_ret ?_
       replace H := escH (fun z hz => hG9 _ hz) H
       exact hQr _ _ [.bool false, .bool true] _ ⟨rfl, rfl, trivial⟩ H ⟨rfl, hH⟩
      ·refine HT_skip (hK177 _ _ ?_)
       refine HT_region ?_
       refine bn rfl rfl rfl (mv (HL_nil ?_))
       exact hK160 _ _ ⟨kf, Nat.lt_succ_self kf, IntKind.i64.wrap (x129 + 1), H, rfl, hH⟩
    ·refine HT_exit ?_
     exact hK9 _ _ ⟨H, rfl, hH⟩
  ·rintro l' s190 ⟨H, hl, hH⟩
   revert l'
   refine skA ?_
   dsimp only [Al, Sk]
   intros
   replace H := hG9 _ H
   try dsimp only at H
   refine hK7 _ _ ?_
   refine sr fun K191 hK191 => ag ?_
   dsimp only [putL, setL, evL, getL]
   refine ag (HL_nil (hK191 _ _ ?_))
   dsimp only [putL, setL, evL, getL]
   refine HT_ret ?_
   exact hQr _ _ [.bool true, .bool true] _ ⟨rfl, rfl, trivial⟩ H ⟨rfl, hH⟩
def spec_l14Asked.f (p0 : List ((Int) × (List (Int)))) (p1 : List (Int)) : Option Bool := (spec_IsPlain.f p0).bind fun u3 => if u3.2 = true then (if u3.1 = true then ((spec_l1AllRunes.f p1).bind fun u7 => if u7 = true then (some (decide ((p1.length : Int) ≤ 40))) else (some false)) else (some false)) else (some false)
def spec_l14Asked.post (sb s : St) (F0 : Fp) (r : Bool) : Value → St → Prop := fun v s' => v = .bool r ∧ Hp sb s F0 s' []
set_option maxRecDepth 100000 in
set_option maxHeartbeats 4000000 in
theorem spec_l14Asked.ok (sb s : St) (F0 : Fp) (A0p : Option Addr) (c0p : Nat) (p0 : List ((Int) × (List (Int)))) (A1p : Option Addr) (c1p : Nat) (p1 : List (Int)) (HRp0 : Rd KS139 sb A0p c0p p0) (HRp1 : Rd KI sb A1p c1p p1) (hH : Hp sb s F0 s []) (r : Bool) (H : spec_l14Asked.f p0 p1 = some r) : GCall Try.prog 150 #[.slice A0p p0.length c0p, .slice A1p p1.length c1p] s (spec_l14Asked.post sb s F0 r) := by
 refine GCall_ofr (spec_l14Asked.post sb s F0) [.tmp 4] (ud [.slice A0p p0.length c0p, .slice A1p p1.length c1p] 23) Try.func150 rfl rfl rfl fun w Q hQr hQn hQp => ?_
 replace H := topE H
 unfold spec_l14Asked.f at H
 dsimp only [ud, un]
 refine sr fun K1 hK1 => ag (HL_nil (hK1 _ _ ?_))
 dsimp only [putL, setL, evL, getL]
 refine sr fun K2 hK2 => mv ?_
 replace H := headE H
 obtain ⟨u3, hu3, H⟩ := H
 refine hc (o_call (args := #[.slice A0p p0.length c0p]) Try.func128 rfl rfl rfl (spec_IsPlain.ok sb s no A0p c0p p0 HRp0 (Hp.own hH.bs) _ hu3) ?_)
 rintro _ s3 ⟨rfl, hD⟩
 replace hH := hH.back0 hD (Up.refl _ _ _)
 clear hD
 refine mv ?_
 dsimp only [putL, setL, evL, getL]
 refine hc (o_extract rfl rfl (hc (o_extract rfl rfl (ag ?_))))
 dsimp only [putL, setL, evL, getL]
 refine ag (HL_nil (hK2 _ _ ?_))
 dsimp only [putL, setL, evL, getL]
 refine sr fun K4 hK4 => mv (mv ?_)
 revert H
 refine it (fun hb5 H => ?_) (fun hb5 H => ?_)
 ·refine wt rfl rfl rfl rfl hb5 (o_move ?_)
  dsimp only [putL, setL, evL, getL]
  refine hc (o_pickT rfl hb5 (mv ?_))
  revert H
  refine it (fun hb6 H => ?_) (fun hb6 H => ?_)
  ·refine wt rfl rfl rfl rfl hb6 (o_move ?_)
   replace H := headE H
   obtain ⟨u7, hu7, H⟩ := H
   try dsimp only [putL, setL, evL, getL]
   refine wt rfl rfl rfl rfl hb6 (o_call (args := #[.slice A1p p1.length c1p]) Try.func119 rfl rfl rfl (spec_l1AllRunes.ok sb s3 no A1p c1p p1 HRp1 (Hp.own hH.bs) _ hu7) ?_)
   rintro _ s7 ⟨rfl, hD⟩
   replace hH := hH.back0 hD (Up.refl _ _ _)
   clear hD
   refine hc (o_pickT rfl hb6 (mv ?_))
   revert H
   refine it (fun hb8 H => ?_) (fun hb8 H => ?_)
   ·refine wt rfl rfl rfl rfl hb8 (o_move ?_)
    dsimp only [putL, setL, evL, getL]
    refine wt rfl rfl rfl rfl hb8 (o_len rfl Try.underlying24 (wt rfl rfl rfl rfl hb8 (o_bin rfl rfl rfl (hc (o_pickT rfl hb8 ?_)))))
    dsimp only [putL, setL, evL, getL]
    refine ag (HL_nil (hK4 _ _ ?_))
    dsimp only [putL, setL, evL, getL]
    refine HT_ret ?_
    exact hQr _ _ [.bool (decide ((p1.length : Int) ≤ 40))] _ ⟨rfl, trivial⟩ H ⟨rfl, hH⟩
   ·refine wf rfl rfl rfl rfl hb8 (wf rfl rfl rfl rfl hb8 (wf rfl rfl rfl rfl hb8 ?_))
    dsimp only [putL, setL, evL, getL]
    refine hc (o_pickF rfl hb8 (ag (HL_nil (hK4 _ _ ?_))))
    dsimp only [putL, setL, evL, getL]
    refine HT_ret ?_
    exact hQr _ _ [.bool false] _ ⟨rfl, trivial⟩ H ⟨rfl, hH⟩
  ·refine wf rfl rfl rfl rfl hb6 (wf rfl rfl rfl rfl hb6 (hc (o_pickF rfl hb6 ?_)))
   dsimp only [putL, setL, evL, getL]
   refine mv (wf rfl rfl rfl rfl rfl (wf rfl rfl rfl rfl rfl ?_))
   dsimp only [putL, setL, evL, getL]
   refine wf rfl rfl rfl rfl rfl (hc (o_pickF rfl rfl (ag (HL_nil (hK4 _ _ ?_)))))
   dsimp only [putL, setL, evL, getL]
   refine HT_ret ?_
   exact hQr _ _ [.bool false] _ ⟨rfl, trivial⟩ H ⟨rfl, hH⟩
 ·refine wf rfl rfl rfl rfl hb5 (hc (o_pickF rfl hb5 (mv ?_)))
  dsimp only [putL, setL, evL, getL]
  refine wf rfl rfl rfl rfl rfl (wf rfl rfl rfl rfl rfl (hc (o_pickF rfl rfl ?_)))
  dsimp only [putL, setL, evL, getL]
  refine mv (wf rfl rfl rfl rfl rfl (wf rfl rfl rfl rfl rfl ?_))
  dsimp only [putL, setL, evL, getL]
  refine wf rfl rfl rfl rfl rfl (hc (o_pickF rfl rfl (ag (HL_nil (hK4 _ _ ?_)))))
  dsimp only [putL, setL, evL, getL]
  refine HT_ret ?_
  exact hQr _ _ [.bool false] _ ⟨rfl, trivial⟩ H ⟨rfl, hH⟩
def spec_l4In.l1 (p0 : List (Int)) (p1 : Int) : Nat → Int → Option (Lo Unit Bool)
 | 0, _ => none
 | kf + 1, x48 => if (decide (x48 < (p0.length : Int))) = true then ((rd? p0 x48).bind fun u66 => (rd? p0 (IntKind.i64.wrap (x48 + 1))).bind fun u67 => (spec_l1In.f p1 u66 u67).bind fun u68 => if u68 = true then ((some true).bind fun z => some (Lo.ret z)) else (spec_l4In.l1 p0 p1 kf (IntKind.i64.wrap (x48 + 2)))) else (some (Lo.go ()))
def spec_l4In.f (p0 : List (Int)) (p1 : Int) : Option Bool := (spec_l4In.l1 p0 p1 ((((p0.length : Int)) - (0)).toNat + 2) 0).bind fun (o : Lo Unit Bool) => match o with | .go () => (some false) | .ret z => some z
def spec_l4In.post (sb s : St) (F0 : Fp) (r : Bool) : Value → St → Prop := fun v s' => v = .bool r ∧ Hp sb s F0 s' []
set_option maxRecDepth 100000 in
set_option maxHeartbeats 4000000 in
theorem spec_l4In.ok (sb s : St) (F0 : Fp) (A0p : Option Addr) (c0p : Nat) (p0 : List (Int)) (p1 : Int) (HRp0 : Rd KI sb A0p c0p p0) (hH : Hp sb s F0 s []) (r : Bool) (H : spec_l4In.f p0 p1 = some r) : GCall Try.prog 201 #[.slice A0p p0.length c0p, .int .i64 p1] s (spec_l4In.post sb s F0 r) := by
 refine GCall_ofr (spec_l4In.post sb s F0) [.tmp 4] (ud [.slice A0p p0.length c0p, .int .i64 p1] 21) Try.func201 rfl rfl rfl fun w Q hQr hQn hQp => ?_
 replace H := topE H
 unfold spec_l4In.f at H
 dsimp only [ud, un]
 refine sr fun K1 hK1 => ag (HL_nil (hK1 _ _ ?_))
 dsimp only [putL, setL, evL, getL]
 refine HT_seq_k fun K2 hK2 => sr fun K3 hK3 => ag (HL_nil (hK3 _ _ ?_))
 dsimp only [putL, setL, evL, getL]
 refine joinH H fun G4 hG4 H => ?_
 refine HT_toK (fun l' s' => G4 (.go ()) = some r ∧ skim [] l' = ([], 24) ∧ Hp sb s F0 s' []) ?_ ?_
 ·intro K4 hK4
  refine HT_block ?_
  refine HT_loopK (fun kf l' s' => ∃ (x48 : Int), (spec_l4In.l1 p0 p1 kf x48).bind G4 = some r ∧ skim [0, 0, 3] l' = ([.slice A0p p0.length c0p, .int .i64 p1, .int .i64 x48], 18) ∧ Hp sb s F0 s' []) ((((p0.length : Int)) - (0)).toNat + 2) ⟨0, H, rfl, hH⟩ ?_
  rintro kf l' s60 ⟨x48, H, hl, hH⟩ K60 hK60
  revert l'
  refine skA ?_
  dsimp only [Al, Sk]
  intros
  cases kf with
  | zero => simp [spec_l4In.l1] at H
  | succ kf =>
   rw [spec_l4In.l1] at H
   refine HT_seq_k fun K61 hK61 => sr fun K62 hK62 => mv (mv (hc (o_len rfl Try.underlying24 ?_)))
   dsimp only [putL, setL, evL, getL]
   refine bn rfl rfl rfl (HL_nil (hK62 _ _ ?_))
   dsimp only [putL, setL, evL, getL]
   revert H
   refine ct rfl (fun hb63 H => ?_) (fun hb63 H => ?_)
   ·refine HT_skip (hK61 _ _ (HT_seq_k fun K64 hK64 => (HT_block ?_)))
    refine sx hMix fun K65 hK65 => ?_
    refine HX_lim (R := fun _ => True) (k := 0) (fun s' => Gro s60 s') 12 ?_
    have hR := Gro.refl s60
    have hH0 := hH
    refine HK_readP 0 (v := .int .i64 p1) rfl (by kernel_rfl) hQp rfl (fun s' K hK => o_move hK) rfl rfl (fun _ => hR) ?_
    refine HK_readP 1 (v := .slice A0p p0.length c0p) rfl (by kernel_rfl) hQp rfl (fun s' K hK => o_move hK) rfl rfl (fun _ => hR) ?_
    try dsimp only [putL, setL, evL, getL]
    refine HK_readP 2 (v := .int .i64 x48) rfl (by kernel_rfl) hQp rfl (fun s' K hK => o_move hK) rfl rfl (fun _ => hR) ?_
    replace H := headE H
    obtain ⟨u66, hu66, H⟩ := H
    obtain ⟨b66, o66, cs66, hr66, hh66, hel66⟩ := Rd.elb HRp0 hu66
    obtain rfl := hr66
    refine HK_readP 3 (v := .pointer (some ⟨b66, o66, none⟩)) rfl (by kernel_rfl) hQp rfl (fun s' K hK => hel66 s' rfl rfl Try.underlying24 tI3 hK) rfl rfl (fun _ => hR) ?_
    refine HK_read 4 (v := .int .i64 u66) rfl (by kernel_rfl) hQp rfl (fun s' hR' K hK => o_load' rfl Try.underlying3 rfl ((hh66 (hH0.bs.mono.trans hR'.mono)) 0 _ rfl) hK) rfl rfl hR ?_
    try dsimp only [putL, setL, evL, getL]
    refine HK_readP 5 (v := .slice A0p p0.length c0p) rfl (by kernel_rfl) hQp rfl (fun s' K hK => o_move hK) rfl rfl (fun _ => hR) ?_
    refine HK_readP 6 (v := .int .i64 x48) rfl (by kernel_rfl) hQp rfl (fun s' K hK => o_move hK) rfl rfl (fun _ => hR) ?_
    refine HK_readP 7 (v := .int .i64 (IntKind.i64.wrap (x48 + 1))) rfl (by kernel_rfl) hQp rfl (fun s' K hK => o_bin rfl rfl rfl hK) rfl rfl (fun _ => hR) ?_
    replace H := headE H
    obtain ⟨u67, hu67, H⟩ := H
    obtain ⟨b67, o67, cs67, hr67, hh67, hel67⟩ := Rd.elb HRp0 hu67
    obtain rfl := hr67
    try dsimp only [putL, setL, evL, getL]
    refine HK_readP 8 (v := .pointer (some ⟨b67, o67, none⟩)) rfl (by kernel_rfl) hQp rfl (fun s' K hK => hel67 s' rfl rfl Try.underlying24 tI3 hK) rfl rfl (fun _ => hR) ?_
    refine HK_read 9 (v := .int .i64 u67) rfl (by kernel_rfl) hQp rfl (fun s' hR' K hK => o_load' rfl Try.underlying3 rfl ((hh67 (hH0.bs.mono.trans hR'.mono)) 0 _ rfl) hK) rfl rfl hR ?_
    refine HK_more [10] (by kernel_rfl) rfl (fun _ => hR) ⟨⟨_, rfl, Or.inl ⟨rfl, ?_⟩⟩, trivial⟩
    replace H := headE H
    obtain ⟨u68, hu68, H⟩ := H
    skip
    refine o_call (args := #[.int .i64 p1, .int .i64 u66, .int .i64 u67]) Try.func108 rfl rfl rfl (spec_l1In.ok sb s60 no p1 u66 u67 (Hp.own hH.bs) _ hu68) ?_
    rintro _ s68 ⟨rfl, hD⟩
    replace hR := hR.trans hD.gro
    replace hH := hH.back0 hD (Up.refl _ _ _)
    clear hD
    try dsimp only [putL, setL, evL, getL]
    refine HK_done (fun _ => hR) (by kernel_rfl) ?_
    refine hK65 _ _ ?_
    try dsimp only [putL, setL, evL, getL]
    revert H
    refine ct rfl (fun hb69 H => ?_) (fun hb69 H => ?_)
    ·refine sr fun K70 hK70 => ag (HL_nil (hK70 _ _ ?_))
     dsimp only [putL, setL, evL, getL]
     refine HT_ret ?_
     replace H := escH (fun z hz => hG4 _ hz) H
     exact hQr _ _ [.bool true] _ ⟨rfl, trivial⟩ H ⟨rfl, hH⟩
    ·refine HT_skip (hK64 _ _ ?_)
     refine HT_region ?_
     refine mv (bn rfl rfl rfl (ag (HL_nil ?_)))
     exact hK60 _ _ ⟨kf, Nat.lt_succ_self kf, IntKind.i64.wrap (x48 + 2), H, rfl, hH⟩
   ·refine HT_exit ?_
    exact hK4 _ _ ⟨H, rfl, hH⟩
 ·rintro l' s71 ⟨H, hl, hH⟩
  revert l'
  refine skA ?_
  dsimp only [Al, Sk]
  intros
  replace H := hG4 _ H
  try dsimp only at H
  refine hK2 _ _ ?_
  refine sr fun K72 hK72 => ?_
  try dsimp only [putL, setL, evL, getL]
  refine ag (HL_nil (hK72 _ _ ?_))
  dsimp only [putL, setL, evL, getL]
  refine HT_ret ?_
  exact hQr _ _ [.bool false] _ ⟨rfl, trivial⟩ H ⟨rfl, hH⟩
def spec_l5First.l1 (p0 : List ((Int) × (List (Int)))) : Nat → Int → Int → Option Int
 | 0, _, _ => none
 | kf + 1, x39, x40 => if (decide (x39 > 0)) = true then ((rd? p0 x40).bind fun u55 => (spec_l5Arity.f u55.1).bind fun u57 => spec_l5First.l1 p0 kf (IntKind.i64.wrap (x39 + (IntKind.i64.wrap (u57 - 1)))) (IntKind.i64.wrap (x40 - 1))) else (some x40)
def spec_l5First.f (p0 : List ((Int) × (List (Int)))) (p1 : Int) : Option Int := (spec_l5First.l1 p0 (p0.length + 2) 1 (IntKind.i64.wrap (p1 - 1))).bind fun (o : Int) => match o with | x31 => (some x31)
def spec_l5First.post (sb s : St) (F0 : Fp) (r : Int) : Value → St → Prop := fun v s' => v = .int .i64 r ∧ Hp sb s F0 s' []
set_option maxRecDepth 100000 in
set_option maxHeartbeats 4000000 in
theorem spec_l5First.ok (sb s : St) (F0 : Fp) (A0p : Option Addr) (c0p : Nat) (p0 : List ((Int) × (List (Int)))) (p1 : Int) (HRp0 : Rd KS139 sb A0p c0p p0) (hH : Hp sb s F0 s []) (r : Int) (H : spec_l5First.f p0 p1 = some r) : GCall Try.prog 202 #[.slice A0p p0.length c0p, .int .i64 p1] s (spec_l5First.post sb s F0 r) := by
 refine GCall_ofr (spec_l5First.post sb s F0) [.tmp 4] (ud [.slice A0p p0.length c0p, .int .i64 p1] 21) Try.func202 rfl rfl rfl fun w Q hQr hQn hQp => ?_
 replace H := topE H
 unfold spec_l5First.f at H
 dsimp only [ud, un]
 refine sr fun K1 hK1 => ag (HL_nil (hK1 _ _ ?_))
 dsimp only [putL, setL, evL, getL]
 refine sr fun K2 hK2 => ag (HL_nil (hK2 _ _ ?_))
 dsimp only [putL, setL, evL, getL]
 refine sr fun K3 hK3 => mv (bn rfl rfl rfl (ag (HL_nil (hK3 _ _ ?_))))
 dsimp only [putL, setL, evL, getL]
 refine joinH H fun G4 hG4 H => ?_
 refine HT_joinK (fun l' s' => ∃ (x31 : Int), G4 x31 = some r ∧ skim [6] l' = ([.int .i64 x31], 17) ∧ Hp sb s F0 s' []) ?_ ?_
 ·intro K4 hK4
  refine HT_block ?_
  refine HT_loopK (fun kf l' s' => ∃ (x39 : Int) (x40 : Int), (spec_l5First.l1 p0 kf x39 x40).bind G4 = some r ∧ skim [0, 4, 0] l' = ([.slice A0p p0.length c0p, .int .i64 x39, .int .i64 x40], 17) ∧ Hp sb s F0 s' []) (p0.length + 2) ⟨1, IntKind.i64.wrap (p1 - 1), H, rfl, hH⟩ ?_
  rintro kf l' s50 ⟨x39, x40, H, hl, hH⟩ K50 hK50
  revert l'
  refine skA ?_
  dsimp only [Al, Sk]
  intros
  cases kf with
  | zero => simp [spec_l5First.l1] at H
  | succ kf =>
   rw [spec_l5First.l1] at H
   refine HT_seq_k fun K51 hK51 => sr fun K52 hK52 => mv (bn rfl rfl rfl (HL_nil (hK52 _ _ ?_)))
   dsimp only [putL, setL, evL, getL]
   revert H
   refine ct rfl (fun hb53 H => ?_) (fun hb53 H => ?_)
   ·refine HT_skip (hK51 _ _ (HT_block (sr fun K54 hK54 => (mv (mv (mv ?_))))))
    replace H := headE H
    obtain ⟨u55, hu55, H⟩ := H
    obtain ⟨b55, o55, cs55, hr55, hh55, hel55⟩ := Rd.elb HRp0 hu55
    obtain ⟨_, _, rfl, rfl, ⟨A56, c56, rfl, D56⟩⟩ := hr55
    try dsimp only [putL, setL, evL, getL]
    refine hc (hel55 s50 rfl rfl Try.underlying57 tI139 (hc (o_faddr' (ft := 3) (off := 0) rfl Try.underlying139 rfl tI3 (by decide) (hc (o_load' rfl Try.underlying3 rfl ((hh55 hH.bs.mono) 0 _ rfl) ?_)))))
    replace H := headE H
    obtain ⟨u57, hu57, H⟩ := H
    try dsimp only [putL, setL, evL, getL]
    refine hc (o_call (args := #[.int .i64 u55.1]) Try.func223 rfl rfl rfl (spec_l5Arity.ok sb s50 no u55.1 (Hp.own hH.bs) _ hu57) ?_)
    rintro _ s57 ⟨rfl, hD⟩
    replace hH := hH.back0 hD (Up.refl _ _ _)
    clear hD
    refine bn rfl rfl rfl (bn rfl rfl rfl ?_)
    dsimp only [putL, setL, evL, getL]
    refine ag (HL_nil (hK54 _ _ ?_))
    dsimp only [putL, setL, evL, getL]
    refine HT_region ?_
    refine mv (bn rfl rfl rfl (ag (HL_nil ?_)))
    exact hK50 _ _ ⟨kf, Nat.lt_succ_self kf, IntKind.i64.wrap (x39 + (IntKind.i64.wrap (u57 - 1))), IntKind.i64.wrap (x40 - 1), H, rfl, hH⟩
   ·refine HT_exit ?_
    exact hK4 _ _ ⟨x40, H, rfl, hH⟩
 ·rintro l' s58 ⟨x31, H, hl, hH⟩
  revert l'
  refine skA ?_
  dsimp only [Al, Sk]
  intros
  replace H := hG4 _ H
  try dsimp only at H
  refine sr fun K59 hK59 => ?_
  try dsimp only [putL, setL, evL, getL]
  refine mv (ag (HL_nil (hK59 _ _ ?_)))
  dsimp only [putL, setL, evL, getL]
  refine HT_ret ?_
  exact hQr _ _ [.int .i64 x31] _ ⟨rfl, trivial⟩ H ⟨rfl, hH⟩
def spec_l5Cell.l1 (p1 : List (List (Bool))) (p2 : List (Bool)) (p3 : List (Int)) (p4 : Int) (p6 : Int) (p7 : Int) : Nat → Int → Option (Lo Unit (Lo Unit Bool))
 | 0, _ => none
 | kf + 1, x456 => if (decide (x456 ≤ p7)) = true then (((rd? p1 (IntKind.i64.wrap (p4 - 1))).bind fun u528 => (rd? u528 (IntKind.i64.wrap ((IntKind.i64.wrap (p6 * (IntKind.i64.wrap ((p3.length : Int) + 1)))) + x456))).bind fun u530 => if u530 = true then (if (x456 == p7) = true then (some true) else ((rd? p2 (IntKind.i64.wrap ((IntKind.i64.wrap (x456 * (IntKind.i64.wrap ((p3.length : Int) + 1)))) + p7))).bind fun u533 => some u533)) else (some false)).bind fun (o : Bool) => match o with | x527 => (if x527 = true then (((some true).bind fun z => some (Lo.ret z)).bind fun z => some (Lo.ret z)) else (spec_l5Cell.l1 p1 p2 p3 p4 p6 p7 kf (IntKind.i64.wrap (x456 + 1))))) else (some (Lo.go ()))
def spec_l5Cell.l2 (p3 : List (Int)) (p6 : Int) (p7 : Int) (u542 : List (Bool)) (u545 : List (Bool)) : Nat → Int → Option (Lo Unit Bool)
 | 0, _ => none
 | kf + 1, x675 => if (decide (x675 ≤ p7)) = true then (((rd? u542 (IntKind.i64.wrap ((IntKind.i64.wrap (p6 * (IntKind.i64.wrap ((p3.length : Int) + 1)))) + x675))).bind fun u726 => if u726 = true then ((rd? u545 (IntKind.i64.wrap ((IntKind.i64.wrap (x675 * (IntKind.i64.wrap ((p3.length : Int) + 1)))) + p7))).bind fun u728 => some u728) else (some false)).bind fun (o : Bool) => match o with | x725 => (if x725 = true then ((some true).bind fun z => some (Lo.ret z)) else (spec_l5Cell.l2 p3 p6 p7 u542 u545 kf (IntKind.i64.wrap (x675 + 1))))) else (some (Lo.go ()))
def spec_l5Cell.f (p0 : List ((Int) × (List (Int)))) (p1 : List (List (Bool))) (p2 : List (Bool)) (p3 : List (Int)) (p4 : Int) (p5_0 : Int) (p5_1 : List (Int)) (p6 : Int) (p7 : Int) : Option Bool := (if (p5_0 == 1) = true then ((some (p6 == p7)).bind fun z => some (Lo.ret z)) else (if (p5_0 == 2) = true then (if (p7 == (IntKind.i64.wrap (p6 + 1))) = true then ((rd? p3 p6).bind fun u280 => (spec_l4In.f p5_1 u280).bind fun u281 => (some u281).bind fun z => some (Lo.ret z)) else ((some false).bind fun z => some (Lo.ret z))) else (if (p5_0 == 7) = true then ((rd? p1 (IntKind.i64.wrap (p4 - 1))).bind fun u285 => (rd? u285 (IntKind.i64.wrap ((IntKind.i64.wrap (p6 * (IntKind.i64.wrap ((p3.length : Int) + 1)))) + p7))).bind fun u287 => (some (!u287)).bind fun z => some (Lo.ret z)) else (if (p5_0 == 6) = true then (if (p6 == p7) = true then ((some true).bind fun z => some (Lo.ret z)) else ((spec_l5Cell.l1 p1 p2 p3 p4 p6 p7 (((p7) - (IntKind.i64.wrap (p6 + 1))).toNat + 2) (IntKind.i64.wrap (p6 + 1))).bind fun (o : Lo Unit (Lo Unit Bool)) => match o with | .go () => ((some false).bind fun z => some (Lo.ret z)) | .ret z => some z)) else (some (Lo.go ())))))).bind fun (o : Lo Unit Bool) => match o with | .go () => ((spec_l5First.f p0 p4).bind fun u541 => (rd? p1 u541).bind fun u542 => (rd? p1 (IntKind.i64.wrap (p4 - 1))).bind fun u545 => if (p5_0 == 4) = true then ((rd? u542 (IntKind.i64.wrap ((IntKind.i64.wrap (p6 * (IntKind.i64.wrap ((p3.length : Int) + 1)))) + p7))).bind fun u552 => if u552 = true then (some true) else ((rd? u545 (IntKind.i64.wrap ((IntKind.i64.wrap (p6 * (IntKind.i64.wrap ((p3.length : Int) + 1)))) + p7))).bind fun u554 => some u554)) else (if (p5_0 == 5) = true then ((rd? u542 (IntKind.i64.wrap ((IntKind.i64.wrap (p6 * (IntKind.i64.wrap ((p3.length : Int) + 1)))) + p7))).bind fun u558 => if u558 = true then ((rd? u545 (IntKind.i64.wrap ((IntKind.i64.wrap (p6 * (IntKind.i64.wrap ((p3.length : Int) + 1)))) + p7))).bind fun u560 => some u560) else (some false)) else ((spec_l5Cell.l2 p3 p6 p7 u542 u545 (((p7) - (p6)).toNat + 2) p6).bind fun (o : Lo Unit Bool) => match o with | .go () => (some false) | .ret z => some z))) | .ret z => some z
def spec_l5Cell.post (sb s : St) (F0 : Fp) (r : Bool) : Value → St → Prop := fun v s' => v = .bool r ∧ Hp sb s F0 s' []
set_option maxRecDepth 100000 in
set_option maxHeartbeats 4000000 in
theorem spec_l5Cell.ok (sb s : St) (F0 : Fp) (A0p : Option Addr) (c0p : Nat) (p0 : List ((Int) × (List (Int)))) (A1p : Option Addr) (c1p : Nat) (p1 : List (List (Bool))) (A2p : Option Addr) (c2p : Nat) (p2 : List (Bool)) (A3p : Option Addr) (c3p : Nat) (p3 : List (Int)) (p4 : Int) (p5_0 : Int) (A5_1p : Option Addr) (c5_1p : Nat) (p5_1 : List (Int)) (p6 : Int) (p7 : Int) (HRp0 : Rd KS139 sb A0p c0p p0) (HRp1 : Rd (Kd.sl Kd.bool) sb A1p c1p p1) (HRp2 : Rd Kd.bool sb A2p c2p p2) (HRp3 : Rd KI sb A3p c3p p3) (HRp5_1 : Rd KI sb A5_1p c5_1p p5_1) (hH : Hp sb s F0 s []) (r : Bool) (H : spec_l5Cell.f p0 p1 p2 p3 p4 p5_0 p5_1 p6 p7 = some r) : GCall Try.prog 216 #[.slice A0p p0.length c0p, .slice A1p p1.length c1p, .slice A2p p2.length c2p, .slice A3p p3.length c3p, .int .i64 p4, .agg #[.int .i64 p5_0, .slice A5_1p p5_1.length c5_1p], .int .i64 p6, .int .i64 p7] s (spec_l5Cell.post sb s F0 r) := by
 refine GCall_ofr (spec_l5Cell.post sb s F0) [.tmp 16] (ud [.slice A0p p0.length c0p, .slice A1p p1.length c1p, .slice A2p p2.length c2p, .slice A3p p3.length c3p, .int .i64 p4, .agg #[.int .i64 p5_0, .slice A5_1p p5_1.length c5_1p], .int .i64 p6, .int .i64 p7] 170) Try.func216 rfl rfl rfl fun w Q hQr hQn hQp => ?_
 replace H := topE H
 unfold spec_l5Cell.f at H
 dsimp only [ud, un]
 refine sr fun K1 hK1 => hc (o_boxH hH rfl ?_)
 clear hH
 intro b2 s2 hH _
 refine ag (HL_nil (hK1 _ _ ?_))
 dsimp only [putL, setL, evL, getL]
 refine sr fun K3 hK3 => mv (hc (o_len rfl Try.underlying24 (bn rfl rfl rfl ?_)))
 dsimp only [putL, setL, evL, getL]
 refine ag (HL_nil (hK3 _ _ ?_))
 dsimp only [putL, setL, evL, getL]
 refine HT_seq_k fun K4 hK4 => sr fun K5 hK5 => hc (o_faddr' (ft := 3) (off := 0) rfl Try.underlying139 rfl tI3 (by decide) (hc (o_load' rfl Try.underlying3 rfl (hH.hasv 0 rfl rfl) (HL_nil (hK5 _ _ ?_)))))
 dsimp only [putL, setL, evL, getL]
 refine joinH H fun G6 hG6 H => ?_
 refine HT_toK (fun l' s' => G6 (.go ()) = some r ∧ skim [0, 0, 2, 1, 0, 5, 3] l' = ([.slice A0p p0.length c0p, .slice A1p p1.length c1p, .int .i64 p4, .int .i64 p6, .int .i64 p7, .pointer (some ⟨b2, 0, none⟩), .int .i64 (IntKind.i64.wrap ((p3.length : Int) + 1))], 161) ∧ Hp sb s F0 s' [Ck.ov b2 [.int .i64 p5_0, .slice A5_1p p5_1.length c5_1p] 139]) ?_ ?_
 ·intro K6 hK6
  refine HT_block (sr fun K273 hK273 => (bn rfl rfl rfl (ag (HL_nil (hK273 _ _ ?_)))))
  dsimp only [putL, setL, evL, getL]
  revert H
  refine ct rfl (fun hb274 H => ?_) (fun hb274 H => ?_)
  ·refine sr fun K275 hK275 => mv (mv (bn rfl rfl rfl ?_))
   dsimp only [putL, setL, evL, getL]
   refine ag (HL_nil (hK275 _ _ ?_))
   dsimp only [putL, setL, evL, getL]
   refine HT_ret ?_
   replace H := escH (fun z hz => hG6 _ hz) H
   exact hQr _ _ [.bool (p6 == p7)] _ ⟨rfl, trivial⟩ H ⟨rfl, hH.sel [] (by decide)⟩
  ·refine sr fun K276 hK276 => bn rfl rfl rfl (ag (HL_nil (hK276 _ _ ?_)))
   dsimp only [putL, setL, evL, getL]
   revert H
   refine ct rfl (fun hb277 H => ?_) (fun hb277 H => ?_)
   ·refine sx hMix fun K278 hK278 => ?_
    refine HX_lim (R := fun _ => True) (k := 0) (fun s' => Gro s2 s') 15 ?_
    have hR := Gro.refl s2
    have hH0 := hH
    refine HK_readP 0 (v := .int .i64 p7) rfl (by kernel_rfl) hQp rfl (fun s' K hK => o_move hK) rfl rfl (fun _ => hR) ?_
    refine HK_readP 1 (v := .int .i64 p6) rfl (by kernel_rfl) hQp rfl (fun s' K hK => o_move hK) rfl rfl (fun _ => hR) ?_
    try dsimp only [putL, setL, evL, getL]
    refine HK_readP 2 (v := .int .i64 (IntKind.i64.wrap (p6 + 1))) rfl (by kernel_rfl) hQp rfl (fun s' K hK => o_bin rfl rfl rfl hK) rfl rfl (fun _ => hR) ?_
    refine HK_readP 3 (v := .bool (p7 == (IntKind.i64.wrap (p6 + 1)))) rfl (by kernel_rfl) hQp rfl (fun s' K hK => o_bin rfl rfl rfl hK) rfl rfl (fun _ => hR) ?_
    refine HK_readP 4 (v := .bool (p7 == (IntKind.i64.wrap (p6 + 1)))) rfl (by kernel_rfl) hQp rfl (fun s' K hK => o_move hK) rfl rfl (fun _ => hR) ?_
    revert H
    refine it (fun hb279 H => ?_) (fun hb279 H => ?_)
    ·refine HK_readP 5 (v := .pointer (some ⟨b2, 0 + 1, none⟩)) rfl (by kernel_rfl) hQp (wantT (j := 4) (b := true) (t := 38) (c := p7 == (IntKind.i64.wrap (p6 + 1))) rfl rfl rfl rfl hb279) (fun s' K hK => o_faddr' (ft := 24) (off := 1) rfl Try.underlying139 rfl tI24 (by decide) hK) rfl rfl (fun _ => hR) ?_
     try dsimp only [putL, setL, evL, getL]
     refine HK_read 6 (v := .slice A5_1p p5_1.length c5_1p) rfl (by kernel_rfl) hQp (wantT (j := 4) (b := true) (t := 38) (c := p7 == (IntKind.i64.wrap (p6 + 1))) rfl rfl rfl rfl hb279) (fun s' hR' K hK => o_load' rfl Try.underlying24 rfl (has_gro hR' (hH0.hasv 0 rfl rfl)) hK) rfl rfl hR ?_
     refine HK_readP 7 (v := .slice A3p p3.length c3p) rfl (by kernel_rfl) hQp (wantT (j := 4) (b := true) (t := 38) (c := p7 == (IntKind.i64.wrap (p6 + 1))) rfl rfl rfl rfl hb279) (fun s' K hK => o_move hK) rfl rfl (fun _ => hR) ?_
     refine HK_readP 8 (v := .int .i64 p6) rfl (by kernel_rfl) hQp (wantT (j := 4) (b := true) (t := 38) (c := p7 == (IntKind.i64.wrap (p6 + 1))) rfl rfl rfl rfl hb279) (fun s' K hK => o_move hK) rfl rfl (fun _ => hR) ?_
     replace H := headE H
     obtain ⟨u280, hu280, H⟩ := H
     obtain ⟨b280, o280, cs280, hr280, hh280, hel280⟩ := Rd.elb HRp3 hu280
     obtain rfl := hr280
     try dsimp only [putL, setL, evL, getL]
     refine HK_readP 9 (v := .pointer (some ⟨b280, o280, none⟩)) rfl (by kernel_rfl) hQp (wantT (j := 4) (b := true) (t := 38) (c := p7 == (IntKind.i64.wrap (p6 + 1))) rfl rfl rfl rfl hb279) (fun s' K hK => hel280 s' rfl rfl Try.underlying24 tI3 hK) rfl rfl (fun _ => hR) ?_
     refine HK_read 10 (v := .int .i64 u280) rfl (by kernel_rfl) hQp (wantT (j := 4) (b := true) (t := 38) (c := p7 == (IntKind.i64.wrap (p6 + 1))) rfl rfl rfl rfl hb279) (fun s' hR' K hK => o_load' rfl Try.underlying3 rfl ((hh280 (hH0.bs.mono.trans hR'.mono)) 0 _ rfl) hK) rfl rfl hR ?_
     refine HK_more [11] (by kernel_rfl) rfl (fun _ => hR) ⟨⟨_, rfl, Or.inl ⟨(wantT (j := 4) (b := true) (t := 38) (c := p7 == (IntKind.i64.wrap (p6 + 1))) rfl rfl rfl rfl hb279), ?_⟩⟩, trivial⟩
     replace H := headE H
     obtain ⟨u281, hu281, H⟩ := H
     skip
     refine o_call (args := #[.slice A5_1p p5_1.length c5_1p, .int .i64 u280]) Try.func201 rfl rfl rfl (spec_l4In.ok sb s2 no A5_1p c5_1p p5_1 u280 HRp5_1 (Hp.own hH.bs) _ hu281) ?_
     rintro _ s281 ⟨rfl, hD⟩
     replace hR := hR.trans hD.gro
     replace hH := hH.back0 hD (Up.refl _ _ _)
     clear hD
     try dsimp only [putL, setL, evL, getL]
     refine HK_readP 12 (v := .bool u281) rfl (by kernel_rfl) hQp rfl (fun s' K hK => o_pickT rfl hb279 hK) rfl rfl (fun _ => hR) ?_
     refine HK_more [13] (by kernel_rfl) rfl (fun _ => hR) ⟨⟨_, rfl, Or.inl ⟨rfl, ?_⟩⟩, trivial⟩
     skip
     refine o_assign ?_
     refine HK_done (fun _ => hR) (by kernel_rfl) ?_
     refine hK278 _ _ ?_
     try dsimp only [putL, setL, evL, getL]
     refine HT_ret ?_
     replace H := escH (fun z hz => hG6 _ hz) H
     exact hQr _ _ [.bool u281] _ ⟨rfl, trivial⟩ H ⟨rfl, hH.sel [] (by decide)⟩
    ·refine HK_passP 5 rfl (by kernel_rfl) (fun c l s h => hQp c l s h) ?_ (fun _ => hR) ?_
     ·exact wantF (j := 4) (b := true) (t := 38) (c := p7 == (IntKind.i64.wrap (p6 + 1))) rfl rfl rfl rfl hb279
     refine HK_passP 6 rfl (by kernel_rfl) (fun c l s h => hQp c l s h) ?_ (fun _ => hR) ?_
     ·exact wantF (j := 4) (b := true) (t := 38) (c := p7 == (IntKind.i64.wrap (p6 + 1))) rfl rfl rfl rfl hb279
     refine HK_passP 7 rfl (by kernel_rfl) (fun c l s h => hQp c l s h) ?_ (fun _ => hR) ?_
     ·exact wantF (j := 4) (b := true) (t := 38) (c := p7 == (IntKind.i64.wrap (p6 + 1))) rfl rfl rfl rfl hb279
     try dsimp only [putL, setL, evL, getL]
     refine HK_passP 8 rfl (by kernel_rfl) (fun c l s h => hQp c l s h) ?_ (fun _ => hR) ?_
     ·exact wantF (j := 4) (b := true) (t := 38) (c := p7 == (IntKind.i64.wrap (p6 + 1))) rfl rfl rfl rfl hb279
     refine HK_passP 9 rfl (by kernel_rfl) (fun c l s h => hQp c l s h) ?_ (fun _ => hR) ?_
     ·exact wantF (j := 4) (b := true) (t := 38) (c := p7 == (IntKind.i64.wrap (p6 + 1))) rfl rfl rfl rfl hb279
     refine HK_passP 10 rfl (by kernel_rfl) (fun c l s h => hQp c l s h) ?_ (fun _ => hR) ?_
     ·exact wantF (j := 4) (b := true) (t := 38) (c := p7 == (IntKind.i64.wrap (p6 + 1))) rfl rfl rfl rfl hb279
     try dsimp only [putL, setL, evL, getL]
     refine HK_passP 11 rfl (by kernel_rfl) (fun c l s h => hQp c l s h) ?_ (fun _ => hR) ?_
     ·exact wantF (j := 4) (b := true) (t := 38) (c := p7 == (IntKind.i64.wrap (p6 + 1))) rfl rfl rfl rfl hb279
     refine HK_readP 12 (v := .bool false) rfl (by kernel_rfl) hQp rfl (fun s' K hK => o_pickF rfl hb279 hK) rfl rfl (fun _ => hR) ?_
     refine HK_more [13] (by kernel_rfl) rfl (fun _ => hR) ⟨⟨_, rfl, Or.inl ⟨rfl, ?_⟩⟩, trivial⟩
     skip
     refine o_assign ?_
     try dsimp only [putL, setL, evL, getL]
     refine HK_done (fun _ => hR) (by kernel_rfl) ?_
     refine hK278 _ _ ?_
     try dsimp only [putL, setL, evL, getL]
     refine HT_ret ?_
     replace H := escH (fun z hz => hG6 _ hz) H
     exact hQr _ _ [.bool false] _ ⟨rfl, trivial⟩ H ⟨rfl, hH.sel [] (by decide)⟩
   ·refine sr fun K282 hK282 => bn rfl rfl rfl (ag (HL_nil (hK282 _ _ ?_)))
    dsimp only [putL, setL, evL, getL]
    revert H
    refine ct rfl (fun hb283 H => ?_) (fun hb283 H => ?_)
    ·refine sr fun K284 hK284 => mv (mv (bn rfl rfl rfl ?_))
     replace H := headE H
     obtain ⟨u285, hu285, H⟩ := H
     obtain ⟨b285, o285, cs285, hr285, hh285, hel285⟩ := Rd.elb HRp1 hu285
     obtain ⟨A286, c286, rfl, D286⟩ := hr285
     try dsimp only [putL, setL, evL, getL]
     refine hc (hel285 s2 rfl rfl Try.underlying178 tI209 (hc (o_load' rfl Try.underlying209 rfl ((hh285 hH.bs.mono) 0 _ rfl) (mv ?_))))
     dsimp only [putL, setL, evL, getL]
     refine mv (bn rfl rfl rfl (mv ?_))
     dsimp only [putL, setL, evL, getL]
     refine bn rfl rfl rfl ?_
     replace H := headE H
     obtain ⟨u287, hu287, H⟩ := H
     obtain ⟨b287, o287, cs287, hr287, hh287, hel287⟩ := Rd.elb D286 hu287
     obtain rfl := hr287
     refine hc (hel287 s2 rfl rfl Try.underlying209 tI4 (hc (o_load' rfl Try.underlying4 rfl ((hh287 hH.bs.mono) 0 _ rfl) ?_)))
     dsimp only [putL, setL, evL, getL]
     refine hc (o_not rfl (ag (HL_nil (hK284 _ _ ?_))))
     dsimp only [putL, setL, evL, getL]
     refine HT_ret ?_
     replace H := escH (fun z hz => hG6 _ hz) H
     exact hQr _ _ [.bool (!u287)] _ ⟨rfl, trivial⟩ H ⟨rfl, hH.sel [] (by decide)⟩
    ·refine sr fun K288 hK288 => bn rfl rfl rfl (ag (HL_nil (hK288 _ _ ?_)))
     dsimp only [putL, setL, evL, getL]
     revert H
     refine ct rfl (fun hb289 H => ?_) (fun hb289 H => ?_)
     ·refine HT_seq_k fun K290 hK290 => sr fun K291 hK291 => mv (mv (bn rfl rfl rfl (HL_nil (hK291 _ _ ?_))))
      dsimp only [putL, setL, evL, getL]
      revert H
      refine ct rfl (fun hb292 H => ?_) (fun hb292 H => ?_)
      ·refine sr fun K293 hK293 => ag (HL_nil (hK293 _ _ ?_))
       dsimp only [putL, setL, evL, getL]
       refine HT_ret ?_
       replace H := escH (fun z hz => hG6 _ hz) H
       exact hQr _ _ [.bool true] _ ⟨rfl, trivial⟩ H ⟨rfl, hH.sel [] (by decide)⟩
      ·refine HT_skip (hK290 _ _ (HT_seq_k fun K294 hK294 => (sr fun K295 hK295 => (mv (bn rfl rfl rfl (ag (HL_nil (hK295 _ _ ?_))))))))
       dsimp only [putL, setL, evL, getL]
       refine joinH H fun G296 hG296 H => ?_
       refine HT_toK (fun l' s' => G296 (.go ()) = some r ∧ skim [] l' = ([], 179) ∧ Hp sb s F0 s' []) ?_ ?_
       ·intro K296 hK296
        refine HT_block ?_
        refine HT_loopK (fun kf l' s' => ∃ (x456 : Int), (spec_l5Cell.l1 p1 p2 p3 p4 p6 p7 kf x456).bind G296 = some r ∧ skim [1, 0, 1, 1, 0, 9, 0] l' = ([.slice A1p p1.length c1p, .slice A2p p2.length c2p, .int .i64 p4, .int .i64 p6, .int .i64 p7, .int .i64 (IntKind.i64.wrap ((p3.length : Int) + 1)), .int .i64 x456], 160) ∧ Hp sb s F0 s' []) (((p7) - (IntKind.i64.wrap (p6 + 1))).toNat + 2) ⟨IntKind.i64.wrap (p6 + 1), H, rfl, hH.sel [] (by decide)⟩ ?_
        rintro kf l' s497 ⟨x456, H, hl, hH⟩ K497 hK497
        revert l'
        refine skA ?_
        dsimp only [Al, Sk]
        intros
        cases kf with
        | zero => simp [spec_l5Cell.l1] at H
        | succ kf =>
         rw [spec_l5Cell.l1] at H
         refine HT_seq_k fun K498 hK498 => sr fun K499 hK499 => mv (mv (bn rfl rfl rfl (HL_nil (hK499 _ _ ?_))))
         dsimp only [putL, setL, evL, getL]
         revert H
         refine ct rfl (fun hb500 H => ?_) (fun hb500 H => ?_)
         ·refine HT_skip (hK498 _ _ (HT_seq_k fun K519 hK519 => (HT_block ?_)))
          refine joinH H fun G520 hG520 H => ?_
          refine HT_joinK (fun l' s' => ∃ (x527 : Bool), G520 x527 = some r ∧ skim [1, 0, 1, 1, 0, 9, 0, 81] l' = ([.slice A1p p1.length c1p, .slice A2p p2.length c2p, .int .i64 p4, .int .i64 p6, .int .i64 p7, .int .i64 (IntKind.i64.wrap ((p3.length : Int) + 1)), .int .i64 x456, .bool x527], 78) ∧ Hp sb s F0 s' []) ?_ ?_
          ·intro K520 hK520
           refine HT_region ?_
           refine mv (mv (bn rfl rfl rfl ?_))
           replace H := headE H
           obtain ⟨u528, hu528, H⟩ := H
           obtain ⟨b528, o528, cs528, hr528, hh528, hel528⟩ := Rd.elb HRp1 hu528
           obtain ⟨A529, c529, rfl, D529⟩ := hr528
           try dsimp only [putL, setL, evL, getL]
           refine hc (hel528 s497 rfl rfl Try.underlying178 tI209 (hc (o_load' rfl Try.underlying209 rfl ((hh528 hH.bs.mono) 0 _ rfl) (mv ?_))))
           dsimp only [putL, setL, evL, getL]
           refine mv (bn rfl rfl rfl (mv ?_))
           dsimp only [putL, setL, evL, getL]
           refine bn rfl rfl rfl ?_
           replace H := headE H
           obtain ⟨u530, hu530, H⟩ := H
           obtain ⟨b530, o530, cs530, hr530, hh530, hel530⟩ := Rd.elb D529 hu530
           obtain rfl := hr530
           refine hc (hel530 s497 rfl rfl Try.underlying209 tI4 (hc (o_load' rfl Try.underlying4 rfl ((hh530 hH.bs.mono) 0 _ rfl) ?_)))
           dsimp only [putL, setL, evL, getL]
           refine mv ?_
           revert H
           refine it (fun hb531 H => ?_) (fun hb531 H => ?_)
           ·refine wt rfl rfl rfl rfl hb531 (o_move (wt rfl rfl rfl rfl hb531 (o_move ?_)))
            dsimp only [putL, setL, evL, getL]
            refine wt rfl rfl rfl rfl hb531 (o_bin rfl rfl rfl (wt rfl rfl rfl rfl hb531 (o_move ?_)))
            revert H
            refine it (fun hb532 H => ?_) (fun hb532 H => ?_)
            ·refine wf rfl rfl rfl rfl hb532 ?_
             dsimp only [putL, setL, evL, getL]
             refine wf rfl rfl rfl rfl hb532 (wf rfl rfl rfl rfl hb532 (wf rfl rfl rfl rfl hb532 ?_))
             dsimp only [putL, setL, evL, getL]
             refine wf rfl rfl rfl rfl hb532 (wf rfl rfl rfl rfl hb532 (wf rfl rfl rfl rfl hb532 ?_))
             dsimp only [putL, setL, evL, getL]
             refine wf rfl rfl rfl rfl hb532 (wt rfl rfl rfl rfl hb531 (o_pickT rfl hb532 (hc (o_pickT rfl hb531 (HL_nil ?_)))))
             exact hK520 _ _ ⟨true, H, rfl, hH⟩
            ·refine wt rfl rfl rfl rfl hb532 (o_move ?_)
             dsimp only [putL, setL, evL, getL]
             refine wt rfl rfl rfl rfl hb532 (o_move (wt rfl rfl rfl rfl hb532 (o_move (wt rfl rfl rfl rfl hb532 (o_bin rfl rfl rfl ?_)))))
             dsimp only [putL, setL, evL, getL]
             refine wt rfl rfl rfl rfl hb532 (o_move (wt rfl rfl rfl rfl hb532 (o_bin rfl rfl rfl ?_)))
             replace H := headE H
             obtain ⟨u533, hu533, H⟩ := H
             obtain ⟨b533, o533, cs533, hr533, hh533, hel533⟩ := Rd.elb HRp2 hu533
             obtain rfl := hr533
             refine wt rfl rfl rfl rfl hb532 (hel533 s497 rfl rfl Try.underlying209 tI4 ?_)
             dsimp only [putL, setL, evL, getL]
             refine wt rfl rfl rfl rfl hb532 (o_load' rfl Try.underlying4 rfl ((hh533 hH.bs.mono) 0 _ rfl) (wt rfl rfl rfl rfl hb531 (o_pickF rfl hb532 (hc (o_pickT rfl hb531 (HL_nil ?_))))))
             exact hK520 _ _ ⟨u533, H, rfl, hH⟩
           ·refine wf rfl rfl rfl rfl hb531 ?_
            dsimp only [putL, setL, evL, getL]
            refine wf rfl rfl rfl rfl hb531 (wf rfl rfl rfl rfl hb531 (wf rfl rfl rfl rfl hb531 ?_))
            dsimp only [putL, setL, evL, getL]
            refine wu rfl rfl rfl rfl (wu rfl rfl rfl rfl (wu rfl rfl rfl rfl ?_))
            dsimp only [putL, setL, evL, getL]
            refine wu rfl rfl rfl rfl (wu rfl rfl rfl rfl (wu rfl rfl rfl rfl ?_))
            dsimp only [putL, setL, evL, getL]
            refine wu rfl rfl rfl rfl (wu rfl rfl rfl rfl (wf rfl rfl rfl rfl hb531 ?_))
            dsimp only [putL, setL, evL, getL]
            refine hc (o_pickF rfl hb531 (HL_nil ?_))
            exact hK520 _ _ ⟨false, H, rfl, hH⟩
          ·rintro l' s534 ⟨x527, H, hl, hH⟩
           revert l'
           refine skA ?_
           dsimp only [Al, Sk]
           intros
           replace H := hG520 _ H
           try dsimp only at H
           revert H
           refine ct rfl (fun hb535 H => ?_) (fun hb535 H => ?_)
           ·refine sr fun K536 hK536 => ag (HL_nil (hK536 _ _ ?_))
            dsimp only [putL, setL, evL, getL]
            refine HT_ret ?_
            replace H := escH (fun z hz => hG296 _ hz) H
            replace H := escH (fun z hz => hG6 _ hz) H
            exact hQr _ _ [.bool true] _ ⟨rfl, trivial⟩ H ⟨rfl, hH⟩
           ·refine HT_skip (hK519 _ _ ?_)
            refine HT_region ?_
            refine mv (bn rfl rfl rfl (ag (HL_nil ?_)))
            exact hK497 _ _ ⟨kf, Nat.lt_succ_self kf, IntKind.i64.wrap (x456 + 1), H, rfl, hH⟩
         ·refine HT_exit ?_
          exact hK296 _ _ ⟨H, rfl, hH⟩
       ·rintro l' s537 ⟨H, hl, hH⟩
        revert l'
        refine skA ?_
        dsimp only [Al, Sk]
        intros
        replace H := hG296 _ H
        try dsimp only at H
        refine hK294 _ _ ?_
        refine sr fun K538 hK538 => ?_
        try dsimp only [putL, setL, evL, getL]
        refine ag (HL_nil (hK538 _ _ ?_))
        dsimp only [putL, setL, evL, getL]
        refine HT_ret ?_
        replace H := escH (fun z hz => hG6 _ hz) H
        exact hQr _ _ [.bool false] _ ⟨rfl, trivial⟩ H ⟨rfl, hH⟩
     ·refine HT_skip ?_
      exact hK6 _ _ ⟨H, rfl, hH⟩
 ·rintro l' s539 ⟨H, hl, hH⟩
  revert l'
  refine skA ?_
  dsimp only [Al, Sk]
  intros
  replace H := hG6 _ H
  try dsimp only at H
  refine hK4 _ _ ?_
  refine sr fun K540 hK540 => mv (mv (mv ?_))
  replace H := headE H
  obtain ⟨u541, hu541, H⟩ := H
  try dsimp only [putL, setL, evL, getL]
  refine hc (o_call (args := #[.slice A0p p0.length c0p, .int .i64 p4]) Try.func202 rfl rfl rfl (spec_l5First.ok sb s539 no A0p c0p p0 p4 HRp0 (Hp.own hH.bs) _ hu541) ?_)
  rintro _ s541 ⟨rfl, hD⟩
  replace hH := hH.back0 hD (Up.refl _ _ _)
  clear hD
  replace H := headE H
  obtain ⟨u542, hu542, H⟩ := H
  obtain ⟨b542, o542, cs542, hr542, hh542, hel542⟩ := Rd.elb HRp1 hu542
  obtain ⟨A543, c543, rfl, D543⟩ := hr542
  refine hc (hel542 s541 rfl rfl Try.underlying178 tI209 (hc (o_load' rfl Try.underlying209 rfl ((hh542 hH.bs.mono) 0 _ rfl) ?_)))
  dsimp only [putL, setL, evL, getL]
  refine ag (HL_nil (hK540 _ _ ?_))
  dsimp only [putL, setL, evL, getL]
  refine sr fun K544 hK544 => mv (mv (bn rfl rfl rfl ?_))
  replace H := headE H
  obtain ⟨u545, hu545, H⟩ := H
  obtain ⟨b545, o545, cs545, hr545, hh545, hel545⟩ := Rd.elb HRp1 hu545
  obtain ⟨A546, c546, rfl, D546⟩ := hr545
  try dsimp only [putL, setL, evL, getL]
  refine hc (hel545 s541 rfl rfl Try.underlying178 tI209 (hc (o_load' rfl Try.underlying209 rfl ((hh545 hH.bs.mono) 0 _ rfl) (ag (HL_nil (hK544 _ _ ?_))))))
  dsimp only [putL, setL, evL, getL]
  refine HT_seq_k fun K547 hK547 => sr fun K548 hK548 => hc (o_faddr' (ft := 3) (off := 0) rfl Try.underlying139 rfl tI3 (by decide) (hc (o_load' rfl Try.underlying3 rfl (hH.hasv 0 rfl rfl) (HL_nil (hK548 _ _ ?_)))))
  dsimp only [putL, setL, evL, getL]
  refine HT_block (sr fun K549 hK549 => (bn rfl rfl rfl (ag (HL_nil (hK549 _ _ ?_)))))
  dsimp only [putL, setL, evL, getL]
  revert H
  refine ct rfl (fun hb550 H => ?_) (fun hb550 H => ?_)
  ·refine sr fun K551 hK551 => mv (mv (mv ?_))
   dsimp only [putL, setL, evL, getL]
   refine bn rfl rfl rfl (mv (bn rfl rfl rfl ?_))
   replace H := headE H
   obtain ⟨u552, hu552, H⟩ := H
   obtain ⟨b552, o552, cs552, hr552, hh552, hel552⟩ := Rd.elb D543 hu552
   obtain rfl := hr552
   try dsimp only [putL, setL, evL, getL]
   refine hc (hel552 s541 rfl rfl Try.underlying209 tI4 (hc (o_load' rfl Try.underlying4 rfl ((hh552 hH.bs.mono) 0 _ rfl) (mv ?_))))
   revert H
   refine it (fun hb553 H => ?_) (fun hb553 H => ?_)
   ·refine wf rfl rfl rfl rfl hb553 ?_
    dsimp only [putL, setL, evL, getL]
    refine wf rfl rfl rfl rfl hb553 (wf rfl rfl rfl rfl hb553 (wf rfl rfl rfl rfl hb553 ?_))
    dsimp only [putL, setL, evL, getL]
    refine wf rfl rfl rfl rfl hb553 (wf rfl rfl rfl rfl hb553 (wf rfl rfl rfl rfl hb553 ?_))
    dsimp only [putL, setL, evL, getL]
    refine wf rfl rfl rfl rfl hb553 (hc (o_pickT rfl hb553 (ag (HL_nil (hK551 _ _ ?_)))))
    dsimp only [putL, setL, evL, getL]
    refine HT_ret ?_
    exact hQr _ _ [.bool true] _ ⟨rfl, trivial⟩ H ⟨rfl, hH.sel [] (by decide)⟩
   ·refine wt rfl rfl rfl rfl hb553 (o_move (wt rfl rfl rfl rfl hb553 (o_move (wt rfl rfl rfl rfl hb553 (o_move ?_)))))
    dsimp only [putL, setL, evL, getL]
    refine wt rfl rfl rfl rfl hb553 (o_bin rfl rfl rfl (wt rfl rfl rfl rfl hb553 (o_move (wt rfl rfl rfl rfl hb553 (o_bin rfl rfl rfl ?_)))))
    replace H := headE H
    obtain ⟨u554, hu554, H⟩ := H
    obtain ⟨b554, o554, cs554, hr554, hh554, hel554⟩ := Rd.elb D546 hu554
    obtain rfl := hr554
    try dsimp only [putL, setL, evL, getL]
    refine wt rfl rfl rfl rfl hb553 (hel554 s541 rfl rfl Try.underlying209 tI4 (wt rfl rfl rfl rfl hb553 (o_load' rfl Try.underlying4 rfl ((hh554 hH.bs.mono) 0 _ rfl) (hc (o_pickF rfl hb553 ?_)))))
    dsimp only [putL, setL, evL, getL]
    refine ag (HL_nil (hK551 _ _ ?_))
    dsimp only [putL, setL, evL, getL]
    refine HT_ret ?_
    exact hQr _ _ [.bool u554] _ ⟨rfl, trivial⟩ H ⟨rfl, hH.sel [] (by decide)⟩
  ·refine sr fun K555 hK555 => bn rfl rfl rfl (ag (HL_nil (hK555 _ _ ?_)))
   dsimp only [putL, setL, evL, getL]
   revert H
   refine ct rfl (fun hb556 H => ?_) (fun hb556 H => ?_)
   ·refine sr fun K557 hK557 => mv (mv (mv ?_))
    dsimp only [putL, setL, evL, getL]
    refine bn rfl rfl rfl (mv (bn rfl rfl rfl ?_))
    replace H := headE H
    obtain ⟨u558, hu558, H⟩ := H
    obtain ⟨b558, o558, cs558, hr558, hh558, hel558⟩ := Rd.elb D543 hu558
    obtain rfl := hr558
    try dsimp only [putL, setL, evL, getL]
    refine hc (hel558 s541 rfl rfl Try.underlying209 tI4 (hc (o_load' rfl Try.underlying4 rfl ((hh558 hH.bs.mono) 0 _ rfl) (mv ?_))))
    revert H
    refine it (fun hb559 H => ?_) (fun hb559 H => ?_)
    ·refine wt rfl rfl rfl rfl hb559 (o_move ?_)
     dsimp only [putL, setL, evL, getL]
     refine wt rfl rfl rfl rfl hb559 (o_move (wt rfl rfl rfl rfl hb559 (o_move (wt rfl rfl rfl rfl hb559 (o_bin rfl rfl rfl ?_)))))
     dsimp only [putL, setL, evL, getL]
     refine wt rfl rfl rfl rfl hb559 (o_move (wt rfl rfl rfl rfl hb559 (o_bin rfl rfl rfl ?_)))
     replace H := headE H
     obtain ⟨u560, hu560, H⟩ := H
     obtain ⟨b560, o560, cs560, hr560, hh560, hel560⟩ := Rd.elb D546 hu560
     obtain rfl := hr560
     refine wt rfl rfl rfl rfl hb559 (hel560 s541 rfl rfl Try.underlying209 tI4 ?_)
     dsimp only [putL, setL, evL, getL]
     refine wt rfl rfl rfl rfl hb559 (o_load' rfl Try.underlying4 rfl ((hh560 hH.bs.mono) 0 _ rfl) (hc (o_pickT rfl hb559 (ag (HL_nil (hK557 _ _ ?_))))))
     dsimp only [putL, setL, evL, getL]
     refine HT_ret ?_
     exact hQr _ _ [.bool u560] _ ⟨rfl, trivial⟩ H ⟨rfl, hH.sel [] (by decide)⟩
    ·refine wf rfl rfl rfl rfl hb559 (wf rfl rfl rfl rfl hb559 (wf rfl rfl rfl rfl hb559 ?_))
     dsimp only [putL, setL, evL, getL]
     refine wf rfl rfl rfl rfl hb559 (wf rfl rfl rfl rfl hb559 (wf rfl rfl rfl rfl hb559 ?_))
     dsimp only [putL, setL, evL, getL]
     refine wf rfl rfl rfl rfl hb559 (wf rfl rfl rfl rfl hb559 (hc (o_pickF rfl hb559 ?_)))
     dsimp only [putL, setL, evL, getL]
     refine ag (HL_nil (hK557 _ _ ?_))
     dsimp only [putL, setL, evL, getL]
     refine HT_ret ?_
     exact hQr _ _ [.bool false] _ ⟨rfl, trivial⟩ H ⟨rfl, hH.sel [] (by decide)⟩
   ·refine HT_skip (hK547 _ _ (HT_seq_k fun K561 hK561 => (sr fun K562 hK562 => (mv (ag (HL_nil (hK562 _ _ ?_)))))))
    dsimp only [putL, setL, evL, getL]
    refine joinH H fun G563 hG563 H => ?_
    refine HT_toK (fun l' s' => G563 (.go ()) = some r ∧ skim [] l' = ([], 179) ∧ Hp sb s F0 s' []) ?_ ?_
    ·intro K563 hK563
     refine HT_block ?_
     refine HT_loopK (fun kf l' s' => ∃ (x675 : Int), (spec_l5Cell.l2 p3 p6 p7 u542 u545 kf x675).bind G563 = some r ∧ skim [6, 0, 9, 1, 0, 0] l' = ([.int .i64 p6, .int .i64 p7, .int .i64 (IntKind.i64.wrap ((p3.length : Int) + 1)), .slice A543 u542.length c543, .slice A546 u545.length c546, .int .i64 x675], 157) ∧ Hp sb s F0 s' []) (((p7) - (p6)).toNat + 2) ⟨p6, H, rfl, hH.sel [] (by decide)⟩ ?_
     rintro kf l' s704 ⟨x675, H, hl, hH⟩ K704 hK704
     revert l'
     refine skA ?_
     dsimp only [Al, Sk]
     intros
     cases kf with
     | zero => simp [spec_l5Cell.l2] at H
     | succ kf =>
      rw [spec_l5Cell.l2] at H
      refine HT_seq_k fun K705 hK705 => sr fun K706 hK706 => mv (mv (bn rfl rfl rfl (HL_nil (hK706 _ _ ?_))))
      dsimp only [putL, setL, evL, getL]
      revert H
      refine ct rfl (fun hb707 H => ?_) (fun hb707 H => ?_)
      ·refine HT_skip (hK705 _ _ (HT_seq_k fun K720 hK720 => (HT_block ?_)))
       refine joinH H fun G721 hG721 H => ?_
       refine HT_joinK (fun l' s' => ∃ (x725 : Bool), G721 x725 = some r ∧ skim [6, 0, 9, 1, 0, 0, 155] l' = ([.int .i64 p6, .int .i64 p7, .int .i64 (IntKind.i64.wrap ((p3.length : Int) + 1)), .slice A543 u542.length c543, .slice A546 u545.length c546, .int .i64 x675, .bool x725], 1) ∧ Hp sb s F0 s' []) ?_ ?_
       ·intro K721 hK721
        refine HT_region ?_
        refine mv (mv (mv ?_))
        dsimp only [putL, setL, evL, getL]
        refine bn rfl rfl rfl (mv (bn rfl rfl rfl ?_))
        replace H := headE H
        obtain ⟨u726, hu726, H⟩ := H
        obtain ⟨b726, o726, cs726, hr726, hh726, hel726⟩ := Rd.elb D543 hu726
        obtain rfl := hr726
        try dsimp only [putL, setL, evL, getL]
        refine hc (hel726 s704 rfl rfl Try.underlying209 tI4 (hc (o_load' rfl Try.underlying4 rfl ((hh726 hH.bs.mono) 0 _ rfl) (mv ?_))))
        revert H
        refine it (fun hb727 H => ?_) (fun hb727 H => ?_)
        ·refine wt rfl rfl rfl rfl hb727 (o_move ?_)
         dsimp only [putL, setL, evL, getL]
         refine wt rfl rfl rfl rfl hb727 (o_move (wt rfl rfl rfl rfl hb727 (o_move (wt rfl rfl rfl rfl hb727 (o_bin rfl rfl rfl ?_)))))
         dsimp only [putL, setL, evL, getL]
         refine wt rfl rfl rfl rfl hb727 (o_move (wt rfl rfl rfl rfl hb727 (o_bin rfl rfl rfl ?_)))
         replace H := headE H
         obtain ⟨u728, hu728, H⟩ := H
         obtain ⟨b728, o728, cs728, hr728, hh728, hel728⟩ := Rd.elb D546 hu728
         obtain rfl := hr728
         refine wt rfl rfl rfl rfl hb727 (hel728 s704 rfl rfl Try.underlying209 tI4 ?_)
         dsimp only [putL, setL, evL, getL]
         refine wt rfl rfl rfl rfl hb727 (o_load' rfl Try.underlying4 rfl ((hh728 hH.bs.mono) 0 _ rfl) (hc (o_pickT rfl hb727 (HL_nil ?_))))
         exact hK721 _ _ ⟨u728, H, rfl, hH⟩
        ·refine wf rfl rfl rfl rfl hb727 ?_
         dsimp only [putL, setL, evL, getL]
         refine wf rfl rfl rfl rfl hb727 (wf rfl rfl rfl rfl hb727 (wf rfl rfl rfl rfl hb727 ?_))
         dsimp only [putL, setL, evL, getL]
         refine wf rfl rfl rfl rfl hb727 (wf rfl rfl rfl rfl hb727 (wf rfl rfl rfl rfl hb727 ?_))
         dsimp only [putL, setL, evL, getL]
         refine wf rfl rfl rfl rfl hb727 (hc (o_pickF rfl hb727 (HL_nil ?_)))
         exact hK721 _ _ ⟨false, H, rfl, hH⟩
       ·rintro l' s729 ⟨x725, H, hl, hH⟩
        revert l'
        refine skA ?_
        dsimp only [Al, Sk]
        intros
        replace H := hG721 _ H
        try dsimp only at H
        revert H
        refine ct rfl (fun hb730 H => ?_) (fun hb730 H => ?_)
        ·refine sr fun K731 hK731 => ag (HL_nil (hK731 _ _ ?_))
         dsimp only [putL, setL, evL, getL]
         refine HT_ret ?_
         replace H := escH (fun z hz => hG563 _ hz) H
         exact hQr _ _ [.bool true] _ ⟨rfl, trivial⟩ H ⟨rfl, hH⟩
        ·refine HT_skip (hK720 _ _ ?_)
         refine HT_region ?_
         refine mv (bn rfl rfl rfl (ag (HL_nil ?_)))
         exact hK704 _ _ ⟨kf, Nat.lt_succ_self kf, IntKind.i64.wrap (x675 + 1), H, rfl, hH⟩
      ·refine HT_exit ?_
       exact hK563 _ _ ⟨H, rfl, hH⟩
    ·rintro l' s732 ⟨H, hl, hH⟩
     revert l'
     refine skA ?_
     dsimp only [Al, Sk]
     intros
     replace H := hG563 _ H
     try dsimp only at H
     refine hK561 _ _ ?_
     refine sr fun K733 hK733 => ?_
     try dsimp only [putL, setL, evL, getL]
     refine ag (HL_nil (hK733 _ _ ?_))
     dsimp only [putL, setL, evL, getL]
     refine HT_ret ?_
     exact hQr _ _ [.bool false] _ ⟨rfl, trivial⟩ H ⟨rfl, hH⟩
def spec_l5Table.l3 (p0 : List ((Int) × (List (Int)))) (p1 : List (Int)) (x5897 : List (List (Bool))) (x5898 : Int) (u8110 : (Int) × (List (Int))) (x8598 : Int) : Nat → (List (Bool)) → Int → Option (List (Bool))
 | 0, _, _ => none
 | kf + 1, x8817, x8818 => if (decide (x8818 < (IntKind.i64.wrap ((p1.length : Int) + 1)))) = true then ((spec_l5Cell.f p0 x5897 x8817 p1 x5898 u8110.1 u8110.2 x8598 x8818).bind fun u8833 => (rd? x8817 (IntKind.i64.wrap ((IntKind.i64.wrap (x8598 * (IntKind.i64.wrap ((p1.length : Int) + 1)))) + x8818))).bind fun u8834 => (st? x8817 (IntKind.i64.wrap ((IntKind.i64.wrap (x8598 * (IntKind.i64.wrap ((p1.length : Int) + 1)))) + x8818)) u8833).bind fun x8835 => spec_l5Table.l3 p0 p1 x5897 x5898 u8110 x8598 kf x8835 (IntKind.i64.wrap (x8818 + 1))) else (some x8817)
def spec_l5Table.l2 (p0 : List ((Int) × (List (Int)))) (p1 : List (Int)) (x5897 : List (List (Bool))) (x5898 : Int) (u8110 : (Int) × (List (Int))) : Nat → (List (Bool)) → Int → Option (List (Bool))
 | 0, _, _ => none
 | kf + 1, x8597, x8598 => if (decide (x8598 ≥ 0)) = true then (((spec_l5Table.l3 p0 p1 x5897 x5898 u8110 x8598 (((IntKind.i64.wrap ((p1.length : Int) + 1)) - (x8598)).toNat + 2) x8597 x8598).bind fun (o : (List (Bool))) => match o with | x8809 => (some x8809)).bind fun (o : (List (Bool))) => match o with | x8780 => (spec_l5Table.l2 p0 p1 x5897 x5898 u8110 kf x8780 (IntKind.i64.wrap (x8598 - 1)))) else (some x8597)
def spec_l5Table.l1 (p0 : List ((Int) × (List (Int)))) (p1 : List (Int)) : Nat → (List (List (Bool))) → Int → Option (List (List (Bool)))
 | 0, _, _ => none
 | kf + 1, x5897, x5898 => if (decide (x5898 < (p0.length : Int))) = true then (((rd? p0 x5898).bind fun u8110 => (mk? 140737488355328 false (IntKind.i64.wrap ((IntKind.i64.wrap ((p1.length : Int) + 1)) * (IntKind.i64.wrap ((p1.length : Int) + 1))))).bind fun x8115 => (spec_l5Table.l2 p0 p1 x5897 x5898 u8110 (((IntKind.i64.wrap ((IntKind.i64.wrap ((p1.length : Int) + 1)) - 1)) - (0)).toNat + 2) x8115 (IntKind.i64.wrap ((IntKind.i64.wrap ((p1.length : Int) + 1)) - 1))).bind fun (o : (List (Bool))) => match o with | x8478 => ((app? 5864062014805 x5897 [x8478]).bind fun x8840 => some x8840)).bind fun (o : (List (List (Bool)))) => match o with | x8108 => (spec_l5Table.l1 p0 p1 kf x8108 (IntKind.i64.wrap (x5898 + 1)))) else (some x5897)
def spec_l5Table.f (p0 : List ((Int) × (List (Int)))) (p1 : List (Int)) : Option (List (List (Bool))) := (spec_l5Table.l1 p0 p1 ((((p0.length : Int)) - (0)).toNat + 2) [] 0).bind fun (o : (List (List (Bool)))) => match o with | x4424 => (some x4424)
def spec_l5Table.post (sb s : St) (F0 : Fp) (r : (List (List (Bool)))) : Value → St → Prop := fun v s' => ∃ (A0 : Option Addr) (c0 : Nat), v = .slice A0 r.length c0 ∧ Hp sb s F0 s' [Ck.ol (Ow.sl (Ow.flat Kd.bool_flat) 4) 209 A0 c0 r]
set_option maxRecDepth 100000 in
set_option maxHeartbeats 4000000 in
theorem spec_l5Table.ok (sb s : St) (F0 : Fp) (A0p : Option Addr) (c0p : Nat) (p0 : List ((Int) × (List (Int)))) (A1p : Option Addr) (c1p : Nat) (p1 : List (Int)) (HRp0 : Rd KS139 sb A0p c0p p0) (HRp1 : Rd KI sb A1p c1p p1) (hH : Hp sb s F0 s []) (r : (List (List (Bool)))) (H : spec_l5Table.f p0 p1 = some r) : GCall Try.prog 176 #[.slice A0p p0.length c0p, .slice A1p p1.length c1p] s (spec_l5Table.post sb s F0 r) := by
 refine GCall_ofr (spec_l5Table.post sb s F0) [.tmp 4] (ud [.slice A0p p0.length c0p, .slice A1p p1.length c1p] 58) Try.func176 rfl rfl rfl fun w Q hQr hQn hQp => ?_
 replace H := topE H
 unfold spec_l5Table.f at H
 dsimp only [ud, un]
 refine sr fun K1 hK1 => ag (HL_nil (hK1 _ _ ?_))
 dsimp only [putL, setL, evL, getL]
 refine sr fun K2 hK2 => mv (hc (o_len rfl Try.underlying24 (bn rfl rfl rfl ?_)))
 dsimp only [putL, setL, evL, getL]
 refine ag (HL_nil (hK2 _ _ ?_))
 dsimp only [putL, setL, evL, getL]
 refine sr fun K3 hK3 => ag (HL_nil (hK3 _ _ ?_))
 dsimp only [putL, setL, evL, getL]
 refine HT_seq_k fun K4 hK4 => sr fun K5 hK5 => mv (hc (o_len rfl Try.underlying57 (mv (HL_nil (hK5 _ _ ?_)))))
 dsimp only [putL, setL, evL, getL]
 refine joinH H fun G6 hG6 H => ?_
 refine HT_toK (fun l' s' => ∃ (x4424 : List (List (Bool))) (A4424 : Option Addr) (c4424 : Nat), G6 x4424 = some r ∧ skim [6] l' = ([.slice A4424 x4424.length c4424], 54) ∧ Hp sb s F0 s' [Ck.ol (Ow.sl (Ow.flat Kd.bool_flat) 4) 209 A4424 c4424 x4424]) ?_ ?_
 ·intro K6 hK6
  refine HT_block ?_
  refine HT_loopK (fun kf l' s' => ∃ (x5897 : List (List (Bool))) (A5897 : Option Addr) (c5897 : Nat) (x5898 : Int), (spec_l5Table.l1 p0 p1 kf x5897 x5898).bind G6 = some r ∧ skim [0, 0, 3, 0, 8, 0, 0] l' = ([.slice A0p p0.length c0p, .slice A1p p1.length c1p, .int .i64 (IntKind.i64.wrap ((p1.length : Int) + 1)), .slice A5897 x5897.length c5897, .slice A0p p0.length c0p, .int .i64 (p0.length : Int), .int .i64 x5898], 43) ∧ Hp sb s F0 s' [Ck.ol (Ow.sl (Ow.flat Kd.bool_flat) 4) 209 A5897 c5897 x5897]) ((((p0.length : Int)) - (0)).toNat + 2) ⟨[], none, 0, 0, H, rfl, (hH.nil (K := (Kd.sl Kd.bool)) (Ow.sl (Ow.flat Kd.bool_flat) 4) 209)⟩ ?_
  rintro kf l' s7371 ⟨x5897, A5897, c5897, x5898, H, hl, hH⟩ K7371 hK7371
  revert l'
  refine skA ?_
  dsimp only [Al, Sk]
  intros
  cases kf with
  | zero => simp [spec_l5Table.l1] at H
  | succ kf =>
   rw [spec_l5Table.l1] at H
   refine sr fun K7372 hK7372 => bn rfl rfl rfl (HL_nil (hK7372 _ _ ?_))
   dsimp only [putL, setL, evL, getL]
   refine HT_seq_k fun K7373 hK7373 => ?_
   revert H
   refine ct rfl (fun hb7374 H => ?_) (fun hb7374 H => ?_)
   ·refine HT_skip (hK7373 _ _ ?_)
    refine joinH H fun G7375 hG7375 H => ?_
    refine HT_joinK (fun l' s' => ∃ (x8108 : List (List (Bool))) (A8108 : Option Addr) (c8108 : Nat), G7375 x8108 = some r ∧ skim [0, 0, 3, 0, 8, 0, 0] l' = ([.slice A0p p0.length c0p, .slice A1p p1.length c1p, .int .i64 (IntKind.i64.wrap ((p1.length : Int) + 1)), .slice A8108 x8108.length c8108, .slice A0p p0.length c0p, .int .i64 (p0.length : Int), .int .i64 x5898], 43) ∧ Hp sb s F0 s' [Ck.ol (Ow.sl (Ow.flat Kd.bool_flat) 4) 209 A8108 c8108 x8108]) ?_ ?_
    ·intro K7375 hK7375
     refine HT_block (sr fun K8109 hK8109 => (mv ?_))
     replace H := headE H
     obtain ⟨u8110, hu8110, H⟩ := H
     obtain ⟨b8110, o8110, cs8110, hr8110, hh8110, hel8110⟩ := Rd.elb HRp0 hu8110
     obtain ⟨_, _, rfl, rfl, ⟨A8111, c8111, rfl, D8111⟩⟩ := hr8110
     refine hc (hel8110 s7371 rfl rfl Try.underlying57 tI139 (hc (o_loads' [.int .i64 u8110.1, .slice A8111 u8110.2.length c8111] rfl Try.underlying139 rfl tI139 rfl (fun j v hj => (hh8110 hH.bs.mono) j v hj) ?_)))
     dsimp only [putL, setL, evL, getL]
     refine hc (o_allocH hH tI139 ?_)
     clear hH
     intro b8112 s8112 hH _
     refine ag (hc (o_stvH (vs := [.int .i64 u8110.1, .slice A8111 u8110.2.length c8111]) (us' := [.int .i64 u8110.1, .slice A8111 u8110.2.length c8111]) hH 1 rfl rfl rfl rfl rfl tI139 rfl (List.cons_ne_nil _ _) rfl rfl rfl ?_))
     clear hH
     intro s8113 hH
     refine HL_nil (hK8109 _ _ ?_)
     try dsimp only [putL, setL, evL, getL]
     refine sr fun K8114 hK8114 => mv (mv (bn rfl rfl rfl ?_))
     replace H := headE H
     obtain ⟨x8115, hx8115, H⟩ := H
     try dsimp only [putL, setL, evL, getL]
     refine hc (o_makeH (K := Kd.bool) (O := (Ow.flat Kd.bool_flat)) (x0 := false) hH rfl Try.underlying209 tI4 rfl (by decide) (by decide) (by decide) (Own0.fl fun _ => rfl) hx8115 ?_)
     clear hH
     intro A8115 c8115 s8115 hH _
     refine ag (HL_nil (hK8114 _ _ ?_))
     dsimp only [putL, setL, evL, getL]
     refine HT_seq_k fun K8116 hK8116 => sr fun K8117 hK8117 => mv (bn rfl rfl rfl (ag (HL_nil (hK8117 _ _ ?_))))
     dsimp only [putL, setL, evL, getL]
     refine joinH H fun G8118 hG8118 H => ?_
     refine HT_toK (fun l' s' => ∃ (x8478 : List (Bool)), G8118 x8478 = some r ∧ skim [0, 0, 3, 0, 2, 5, 0, 0] l' = ([.slice A0p p0.length c0p, .slice A1p p1.length c1p, .int .i64 (IntKind.i64.wrap ((p1.length : Int) + 1)), .slice A5897 x5897.length c5897, .slice A8115 x8115.length c8115, .slice A0p p0.length c0p, .int .i64 (p0.length : Int), .int .i64 x5898], 43) ∧ Hp sb s F0 s' [Ck.ol (Ow.sl (Ow.flat Kd.bool_flat) 4) 209 A5897 c5897 x5897, Ck.ol (Ow.flat Kd.bool_flat) 4 A8115 c8115 x8478] ∧ x8478.length = x8115.length) ?_ ?_
     ·intro K8118 hK8118
      refine HT_block ?_
      refine HT_loopK (fun kf l' s' => ∃ (x8597 : List (Bool)) (x8598 : Int), (spec_l5Table.l2 p0 p1 x5897 x5898 u8110 kf x8597 x8598).bind G8118 = some r ∧ skim [0, 0, 3, 0, 0, 0, 0, 0, 4, 0, 0] l' = ([.slice A0p p0.length c0p, .slice A1p p1.length c1p, .int .i64 (IntKind.i64.wrap ((p1.length : Int) + 1)), .slice A5897 x5897.length c5897, .int .i64 x5898, .pointer (some ⟨b8112, 0, none⟩), .slice A8115 x8115.length c8115, .int .i64 x8598, .slice A0p p0.length c0p, .int .i64 (p0.length : Int), .int .i64 x5898], 43) ∧ Hp sb s F0 s' [Ck.ol (Ow.sl (Ow.flat Kd.bool_flat) 4) 209 A5897 c5897 x5897, Ck.ol (Ow.flat Kd.bool_flat) 4 A8115 c8115 x8597, Ck.ov b8112 [.int .i64 u8110.1, .slice A8111 u8110.2.length c8111] 139] ∧ x8597.length = x8115.length) (((IntKind.i64.wrap ((IntKind.i64.wrap ((p1.length : Int) + 1)) - 1)) - (0)).toNat + 2) ⟨x8115, IntKind.i64.wrap ((IntKind.i64.wrap ((p1.length : Int) + 1)) - 1), H, rfl, hH.sel [0, 2, 1] (by decide), rfl⟩ ?_
      rintro kf l' s8719 ⟨x8597, x8598, H, hl, hH, hl8597⟩ K8719 hK8719
      revert l'
      refine skA ?_
      dsimp only [Al, Sk]
      intros
      cases kf with
      | zero => simp [spec_l5Table.l2] at H
      | succ kf =>
       rw [spec_l5Table.l2] at H
       refine HT_seq_k fun K8720 hK8720 => sr fun K8721 hK8721 => mv (bn rfl rfl rfl (HL_nil (hK8721 _ _ ?_)))
       dsimp only [putL, setL, evL, getL]
       revert H
       refine ct rfl (fun hb8722 H => ?_) (fun hb8722 H => ?_)
       ·refine HT_skip (hK8720 _ _ ?_)
        refine joinH H fun G8723 hG8723 H => ?_
        refine HT_joinK (fun l' s' => ∃ (x8780 : List (Bool)), G8723 x8780 = some r ∧ skim [0, 0, 3, 0, 0, 0, 0, 0, 4, 0, 0] l' = ([.slice A0p p0.length c0p, .slice A1p p1.length c1p, .int .i64 (IntKind.i64.wrap ((p1.length : Int) + 1)), .slice A5897 x5897.length c5897, .int .i64 x5898, .pointer (some ⟨b8112, 0, none⟩), .slice A8115 x8115.length c8115, .int .i64 x8598, .slice A0p p0.length c0p, .int .i64 (p0.length : Int), .int .i64 x5898], 43) ∧ Hp sb s F0 s' [Ck.ol (Ow.sl (Ow.flat Kd.bool_flat) 4) 209 A5897 c5897 x5897, Ck.ol (Ow.flat Kd.bool_flat) 4 A8115 c8115 x8780, Ck.ov b8112 [.int .i64 u8110.1, .slice A8111 u8110.2.length c8111] 139] ∧ x8780.length = x8115.length) ?_ ?_
        ·intro K8723 hK8723
         refine HT_block (sr fun K8781 hK8781 => (mv (ag (HL_nil (hK8781 _ _ ?_)))))
         dsimp only [putL, setL, evL, getL]
         refine joinH H fun G8782 hG8782 H => ?_
         refine HT_toK (fun l' s' => ∃ (x8809 : List (Bool)), G8782 x8809 = some r ∧ skim [0, 0, 3, 0, 0, 0, 0, 0, 4, 0, 0] l' = ([.slice A0p p0.length c0p, .slice A1p p1.length c1p, .int .i64 (IntKind.i64.wrap ((p1.length : Int) + 1)), .slice A5897 x5897.length c5897, .int .i64 x5898, .pointer (some ⟨b8112, 0, none⟩), .slice A8115 x8115.length c8115, .int .i64 x8598, .slice A0p p0.length c0p, .int .i64 (p0.length : Int), .int .i64 x5898], 43) ∧ Hp sb s F0 s' [Ck.ol (Ow.sl (Ow.flat Kd.bool_flat) 4) 209 A5897 c5897 x5897, Ck.ol (Ow.flat Kd.bool_flat) 4 A8115 c8115 x8809, Ck.ov b8112 [.int .i64 u8110.1, .slice A8111 u8110.2.length c8111] 139] ∧ x8809.length = x8115.length) ?_ ?_
         ·intro K8782 hK8782
          refine HT_block ?_
          refine HT_loopK (fun kf l' s' => ∃ (x8817 : List (Bool)) (x8818 : Int), (spec_l5Table.l3 p0 p1 x5897 x5898 u8110 x8598 kf x8817 x8818).bind G8782 = some r ∧ skim [0, 0, 3, 0, 0, 0, 0, 0, 0, 3, 0, 0] l' = ([.slice A0p p0.length c0p, .slice A1p p1.length c1p, .int .i64 (IntKind.i64.wrap ((p1.length : Int) + 1)), .slice A5897 x5897.length c5897, .int .i64 x5898, .pointer (some ⟨b8112, 0, none⟩), .slice A8115 x8115.length c8115, .int .i64 x8598, .int .i64 x8818, .slice A0p p0.length c0p, .int .i64 (p0.length : Int), .int .i64 x5898], 43) ∧ Hp sb s F0 s' [Ck.ol (Ow.sl (Ow.flat Kd.bool_flat) 4) 209 A5897 c5897 x5897, Ck.ol (Ow.flat Kd.bool_flat) 4 A8115 c8115 x8817, Ck.ov b8112 [.int .i64 u8110.1, .slice A8111 u8110.2.length c8111] 139] ∧ x8817.length = x8115.length) (((IntKind.i64.wrap ((p1.length : Int) + 1)) - (x8598)).toNat + 2) ⟨x8597, x8598, H, rfl, hH, hl8597⟩ ?_
          rintro kf l' s8828 ⟨x8817, x8818, H, hl, hH, hl8817⟩ K8828 hK8828
          revert l'
          refine skA ?_
          dsimp only [Al, Sk]
          intros
          cases kf with
          | zero => simp [spec_l5Table.l3] at H
          | succ kf =>
           rw [spec_l5Table.l3] at H
           refine HT_seq_k fun K8829 hK8829 => sr fun K8830 hK8830 => mv (mv (bn rfl rfl rfl (HL_nil (hK8830 _ _ ?_))))
           dsimp only [putL, setL, evL, getL]
           revert H
           refine ct rfl (fun hb8831 H => ?_) (fun hb8831 H => ?_)
           ·refine HT_skip (hK8829 _ _ (HT_seq_k fun K8832 hK8832 => (HT_block ?_)))
            refine HT_region ?_
            refine mv (mv (mv ?_))
            dsimp only [putL, setL, evL, getL]
            refine bn rfl rfl rfl (mv (bn rfl rfl rfl ?_))
            dsimp only [putL, setL, evL, getL]
            refine mv (mv (mv ?_))
            dsimp only [putL, setL, evL, getL]
            refine mv (mv (hc (o_loads' [.int .i64 u8110.1, .slice A8111 u8110.2.length c8111] rfl Try.underlying139 rfl tI139 rfl (hH.partv 2 rfl (0) [.int .i64 u8110.1, .slice A8111 u8110.2.length c8111] rfl) ?_)))
            dsimp only [putL, setL, evL, getL]
            refine mv (mv ?_)
            replace H := headE H
            obtain ⟨u8833, hu8833, H⟩ := H
            refine hc (o_call (args := #[.slice A0p p0.length c0p, .slice A5897 x5897.length c5897, .slice A8115 x8817.length c8115, .slice A1p p1.length c1p, .int .i64 x5898, .agg #[.int .i64 u8110.1, .slice A8111 u8110.2.length c8111], .int .i64 x8598, .int .i64 x8818]) Try.func216 rfl rfl (by show ([.slice A0p p0.length c0p, .slice A5897 x5897.length c5897, .slice A8115 x8115.length c8115, .slice A1p p1.length c1p, .int .i64 x5898, .agg #[.int .i64 u8110.1, .slice A8111 u8110.2.length c8111], .int .i64 x8598, .int .i64 x8818] : List Value) = [.slice A0p p0.length c0p, .slice A5897 x5897.length c5897, .slice A8115 x8817.length c8115, .slice A1p p1.length c1p, .int .i64 x5898, .agg #[.int .i64 u8110.1, .slice A8111 u8110.2.length c8111], .int .i64 x8598, .int .i64 x8818]; rw [hl8817]; first | done | rfl) (spec_l5Cell.ok s8828 s8828 no A0p c0p p0 A5897 c5897 x5897 A8115 c8115 x8817 A1p c1p p1 x5898 u8110.1 A8111 c8111 u8110.2 x8598 x8818 (HRp0.mono hH.bs.mono) (hH.rd 0 rfl) (hH.rd 1 rfl) (HRp1.mono hH.bs.mono) (D8111.mono hH.bs.mono) (Hp.own (Bs.refl s8828)) _ hu8833) ?_)
            rintro _ s8833 ⟨rfl, hD⟩
            replace hH := hH.back0T hD
            clear hD
            replace H := headE H
            obtain ⟨u8834, hu8834, H⟩ := H
            obtain ⟨b8834, o8834, cs8834, hA8834, hr8834, hh8834, hel8834⟩ := hH.elo 1 rfl hu8834
            obtain rfl := hr8834
            try dsimp only [putL, setL, evL, getL]
            refine hc (hel8834 s8833 (sliceLen hl8817) rfl Try.underlying209 tI4 ?_)
            replace H := headE H
            obtain ⟨x8835, hx8835, H⟩ := H
            refine hc (o_setF (vs := [.bool u8833]) (u := u8833) hH 1 rfl rfl rfl rfl rfl tI4 hA8834 hx8835 (Ent.own (Ent.flat rfl)) ?_)
            clear hH
            intro s8835 hH
            have hl8835 := (st?_len hx8835).trans hl8817
            refine HL_nil (hK8832 _ _ ?_)
            try dsimp only [putL, setL, evL, getL]
            refine HT_region ?_
            refine mv (bn rfl rfl rfl (ag (HL_nil ?_)))
            exact hK8828 _ _ ⟨kf, Nat.lt_succ_self kf, x8835, IntKind.i64.wrap (x8818 + 1), H, rfl, hH, hl8835⟩
           ·refine HT_exit ?_
            exact hK8782 _ _ ⟨x8817, H, rfl, hH, hl8817⟩
         ·rintro l' s8836 ⟨x8809, H, hl, hH, hl8809⟩
          revert l'
          refine skA ?_
          dsimp only [Al, Sk]
          intros
          replace H := hG8782 _ H
          try dsimp only at H
          exact hK8723 _ _ ⟨x8809, H, rfl, hH, hl8809⟩
        ·rintro l' s8837 ⟨x8780, H, hl, hH, hl8780⟩
         revert l'
         refine skA ?_
         dsimp only [Al, Sk]
         intros
         replace H := hG8723 _ H
         try dsimp only at H
         refine HT_region ?_
         try dsimp only [putL, setL, evL, getL]
         refine mv (bn rfl rfl rfl (ag (HL_nil ?_)))
         exact hK8719 _ _ ⟨kf, Nat.lt_succ_self kf, x8780, IntKind.i64.wrap (x8598 - 1), H, rfl, hH, hl8780⟩
       ·refine HT_exit ?_
        exact hK8118 _ _ ⟨x8597, H, rfl, hH.sel [0, 1] (by decide), hl8597⟩
     ·rintro l' s8838 ⟨x8478, H, hl, hH, hl8478⟩
      revert l'
      refine skA ?_
      dsimp only [Al, Sk]
      intros
      replace H := hG8118 _ H
      try dsimp only at H
      refine hK8116 _ _ ?_
      refine HT_region ?_
      try dsimp only [putL, setL, evL, getL]
      refine mv (mv ?_)
      replace hH := hH.conv [1] (by decide) (d := Ck.el (Ow.sl (Ow.flat Kd.bool_flat) 4) [.slice A8115 x8115.length c8115] x8478) (Ent.slL hl8478)
      refine hc (o_litD (K := (Kd.sl Kd.bool)) (O := (Ow.sl (Ow.flat Kd.bool_flat) 4)) (ca := #[.slice A8115 x8115.length c8115]) [[.slice A8115 x8115.length c8115]] [x8478] hH [2] (by decide) rfl Try.underlying178 tI209 rfl (by decide) rfl rfl rfl rfl (by kernel_rfl) rfl ?_)
      clear hH
      intro A8839 s8839 hH _
      replace H := headE H
      obtain ⟨x8840, hx8840, H⟩ := H
      try dsimp only [putL, setL, evL, getL]
      refine hc (o_appD (K := (Kd.sl Kd.bool)) (n := 5864062014805) (A := A5897) (c := c5897) (xs := x5897) (ys := [x8478]) (B := A8839) (c2 := 1) hH 0 3 (by decide) rfl rfl rfl rfl rfl Try.underlying178 tI209 rfl (by decide) (by decide) (by decide) hx8840 ?_)
      clear hH
      intro A8840 c8840 s8840 hH
      refine ag (HL_nil ?_)
      exact hK7375 _ _ ⟨x8840, A8840, c8840, H, rfl, hH.sel [0] (by decide)⟩
    ·rintro l' s8841 ⟨x8108, A8108, c8108, H, hl, hH⟩
     revert l'
     refine skA ?_
     dsimp only [Al, Sk]
     intros
     replace H := hG7375 _ H
     try dsimp only at H
     refine HT_region ?_
     refine bn rfl rfl rfl ?_
     dsimp only [putL, setL, evL, getL]
     refine mv (HL_nil ?_)
     exact hK7371 _ _ ⟨kf, Nat.lt_succ_self kf, x8108, A8108, c8108, IntKind.i64.wrap (x5898 + 1), H, rfl, hH⟩
   ·refine HT_exit ?_
    exact hK6 _ _ ⟨x5897, A5897, c5897, H, rfl, hH⟩
 ·rintro l' s8842 ⟨x4424, A4424, c4424, H, hl, hH⟩
  revert l'
  refine skA ?_
  dsimp only [Al, Sk]
  intros
  replace H := hG6 _ H
  try dsimp only at H
  refine hK4 _ _ ?_
  refine sr fun K8843 hK8843 => mv (ag (HL_nil (hK8843 _ _ ?_)))
  dsimp only [putL, setL, evL, getL]
  refine HT_ret ?_
  exact hQr _ _ [.slice A4424 x4424.length c4424] _ ⟨rfl, trivial⟩ H ⟨A4424, c4424, rfl, hH⟩
def spec_l5Matches.f (p0 : List ((Int) × (List (Int)))) (p1 : List (Int)) : Option Bool := (spec_l5Table.f p0 p1).bind fun u3 => (rd? u3 (IntKind.i64.wrap ((p0.length : Int) - 1))).bind fun u6 => (rd? u6 (p1.length : Int)).bind fun u8 => some u8
def spec_l5Matches.post (sb s : St) (F0 : Fp) (r : Bool) : Value → St → Prop := fun v s' => v = .bool r ∧ Hp sb s F0 s' []
set_option maxRecDepth 100000 in
set_option maxHeartbeats 4000000 in
theorem spec_l5Matches.ok (sb s : St) (F0 : Fp) (A0p : Option Addr) (c0p : Nat) (p0 : List ((Int) × (List (Int)))) (A1p : Option Addr) (c1p : Nat) (p1 : List (Int)) (HRp0 : Rd KS139 sb A0p c0p p0) (HRp1 : Rd KI sb A1p c1p p1) (hH : Hp sb s F0 s []) (r : Bool) (H : spec_l5Matches.f p0 p1 = some r) : GCall Try.prog 174 #[.slice A0p p0.length c0p, .slice A1p p1.length c1p] s (spec_l5Matches.post sb s F0 r) := by
 refine GCall_ofr (spec_l5Matches.post sb s F0) [.tmp 4] (ud [.slice A0p p0.length c0p, .slice A1p p1.length c1p] 17) Try.func174 rfl rfl rfl fun w Q hQr hQn hQp => ?_
 replace H := topE H
 unfold spec_l5Matches.f at H
 dsimp only [ud, un]
 refine sr fun K1 hK1 => ag (HL_nil (hK1 _ _ ?_))
 dsimp only [putL, setL, evL, getL]
 refine sr fun K2 hK2 => mv (mv ?_)
 replace H := headE H
 obtain ⟨u3, hu3, H⟩ := H
 refine hc (o_call (args := #[.slice A0p p0.length c0p, .slice A1p p1.length c1p]) Try.func176 rfl rfl rfl (spec_l5Table.ok sb s no A0p c0p p0 A1p c1p p1 HRp0 HRp1 (Hp.own hH.bs) _ hu3) ?_)
 rintro _ s3 ⟨A4, c4, rfl, hD⟩
 replace hH := hH.back0 hD (Up.refl _ _ _)
 clear hD
 try dsimp only [putL, setL, evL, getL]
 refine ag (HL_nil (hK2 _ _ ?_))
 dsimp only [putL, setL, evL, getL]
 refine sr fun K5 hK5 => mv (mv (hc (o_len rfl Try.underlying57 ?_)))
 dsimp only [putL, setL, evL, getL]
 refine bn rfl rfl rfl ?_
 replace H := headE H
 obtain ⟨u6, hu6, H⟩ := H
 obtain ⟨b6, o6, cs6, hA6, hr6, hh6, hel6⟩ := hH.elo 0 rfl hu6
 obtain ⟨A7, c7, rfl, D7⟩ := hr6
 refine hc (hel6 s3 rfl rfl Try.underlying178 tI209 (hc (o_load' rfl Try.underlying209 rfl (hh6 0 _ rfl) ?_)))
 dsimp only [putL, setL, evL, getL]
 refine mv (hc (o_len rfl Try.underlying24 ?_))
 replace H := headE H
 obtain ⟨u8, hu8, H⟩ := H
 obtain ⟨b8, o8, cs8, hr8, hh8, hel8⟩ := Rd.el D7 hu8
 obtain rfl := hr8
 refine hc (hel8 s3 rfl rfl Try.underlying209 tI4 ?_)
 dsimp only [putL, setL, evL, getL]
 refine hc (o_load' rfl Try.underlying4 rfl (hh8 0 _ rfl) (ag (HL_nil (hK5 _ _ ?_))))
 dsimp only [putL, setL, evL, getL]
 refine HT_ret ?_
 exact hQr _ _ [.bool u8] _ ⟨rfl, trivial⟩ H ⟨rfl, hH.sel [] (by decide)⟩
end Go.Proofs.Ytkieinlcpkpcjaa
