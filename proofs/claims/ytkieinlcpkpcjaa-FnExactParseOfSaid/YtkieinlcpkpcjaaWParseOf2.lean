/- The functions that the law reaches, as plain functions, each with its contract: printed by a program of the prover's. No conditions: lemmas. -/
import Derived.Test.YtkieinlcpkpcjaaWParseOf1
set_option linter.unusedVariables false
set_option linter.unusedSimpArgs false
namespace Go.Proofs.Ytkieinlcpkpcjaa
open Go Go.Proofs.GL
attribute [local irreducible] HL HT HX HK
def impl_match.l2 (p1 : List (Int)) (x26748 : List (List (Bool))) : Nat → (List (List (Bool))) → Int → Option (List (List (Bool)))
 | 0, _, _ => none
 | kf + 1, x26794, x26795 => if (decide (x26795 < (x26748.length : Int))) = true then ((mk? 140737488355328 false (IntKind.i64.wrap ((p1.length : Int) + 1))).bind fun x26813 => (rd? x26794 x26795).bind fun u26814 => (st? x26794 x26795 x26813).bind fun x26816 => impl_match.l2 p1 x26748 kf x26816 (IntKind.i64.wrap (x26795 + 1))) else (some x26794)
def impl_match.l4 (p0 : List ((Int) × (List (Int)))) (p1 : List (Int)) (u3 : (List (List (Int))) × Bool) (x19452 : Int) (x19453 : List (List (List (Bool)))) (x26820 : List (List (List (Bool)))) (x28377 : Int) : Nat → (List (List (Bool))) → Int → Option (List (List (Bool)))
 | 0, _, _ => none
 | kf + 1, x29103, x29104 => if (decide (x29104 ≤ (p1.length : Int))) = true then (((rd? x29103 x28377).bind fun u29155 => (st? x26820 (x19453.length : Int) x29103).bind fun x29158 => (impl_matcher_look.f p0 u3.1 p1 x29158 x19452 x28377 x29104).bind fun u29157 => (rd? u29155 x29104).bind fun u29159 => (st? u29155 x29104 u29157).bind fun x29160 => (st? x29103 x28377 x29160).bind fun x29161 => some x29161).bind fun (o : (List (List (Bool)))) => match o with | x29154 => (impl_match.l4 p0 p1 u3 x19452 x19453 x26820 x28377 kf x29154 (IntKind.i64.wrap (x29104 + 1)))) else (some x29103)
def impl_match.l3 (p0 : List ((Int) × (List (Int)))) (p1 : List (Int)) (u3 : (List (List (Int))) × Bool) (x19452 : Int) (x19453 : List (List (List (Bool)))) (x26820 : List (List (List (Bool)))) : Nat → (List (List (Bool))) → Int → Option (List (List (List (Bool))))
 | 0, _, _ => none
 | kf + 1, x28376, x28377 => if (decide (x28377 ≥ 0)) = true then (((impl_match.l4 p0 p1 u3 x19452 x19453 x26820 x28377 ((((p1.length : Int)) - (x28377)).toNat + 2) x28376 x28377).bind fun (o : (List (List (Bool)))) => match o with | x29072 => (some x29072)).bind fun (o : (List (List (Bool)))) => match o with | x28974 => (impl_match.l3 p0 p1 u3 x19452 x19453 x26820 kf x28974 (IntKind.i64.wrap (x28377 - 1)))) else ((st? x26820 (x19453.length : Int) x28376).bind fun x29170 => some x29170)
def impl_match.l1 (p0 : List ((Int) × (List (Int)))) (p1 : List (Int)) (u3 : (List (List (Int))) × Bool) : Nat → Int → (List (List (List (Bool)))) → Option (List (List (List (Bool))))
 | 0, _, _ => none
 | kf + 1, x19452, x19453 => if (decide (x19452 < (p0.length : Int))) = true then (((mk? 5864062014805 [] (IntKind.i64.wrap ((p1.length : Int) + 1))).bind fun x26748 => (impl_match.l2 p1 x26748 ((((x26748.length : Int)) - (0)).toNat + 2) x26748 0).bind fun (o : (List (List (Bool)))) => match o with | x26784 => ((app? 5864062014805 x19453 [x26784]).bind fun x26820 => (impl_match.l3 p0 p1 u3 x19452 x19453 x26820 ((((p1.length : Int)) - (0)).toNat + 2) x26784 (p1.length : Int)).bind fun (o : (List (List (List (Bool))))) => match o with | x27997 => (some x27997))).bind fun (o : (List (List (List (Bool))))) => match o with | x26745 => (impl_match.l1 p0 p1 u3 kf (IntKind.i64.wrap (x19452 + 1)) x26745)) else (some x19453)
def impl_match.f (p0 : List ((Int) × (List (Int)))) (p1 : List (Int)) : Option ((List ((Int) × (List (Int)))) × (List (List (Int))) × (List (Int)) × (List (List (List (Bool))))) := (impl_parts.f p0).bind fun u3 => (impl_match.l1 p0 p1 u3 ((((p0.length : Int)) - (0)).toNat + 2) 0 []).bind fun (o : (List (List (List (Bool))))) => match o with | x14591 => (some (p0, u3.1, p1, x14591))
def impl_match.post (sb s : St) (F0 : Fp) (r : (List ((Int) × (List (Int)))) × (List (List (Int))) × (List (Int)) × (List (List (List (Bool))))) : Value → St → Prop := fun v s' => ∃ (bq0 : Nat) (A0 : Option Addr) (c0 : Nat) (A1 : Option Addr) (c1 : Nat) (A2 : Option Addr) (c2 : Nat) (A3 : Option Addr) (c3 : Nat), v = .pointer (some ⟨bq0, 0, none⟩) ∧ Hp sb s F0 s' [Ck.ol (Ow.sl OI 3) 24 A1 c1 r.2.1, Ck.ol (Ow.sl (Ow.sl (Ow.flat Kd.bool_flat) 4) 209) 178 A3 c3 r.2.2.2, Ck.ov bq0 [.slice A0 r.1.length c0, .slice A1 r.2.1.length c1, .slice A2 r.2.2.1.length c2, .slice A3 r.2.2.2.length c3] 165] ∧ Rd KS139 sb A0 c0 r.1 ∧ Rd KI sb A2 c2 r.2.2.1
set_option maxRecDepth 100000 in
set_option maxHeartbeats 4000000 in
theorem impl_match.ok (sb s : St) (F0 : Fp) (A0p : Option Addr) (c0p : Nat) (p0 : List ((Int) × (List (Int)))) (A1p : Option Addr) (c1p : Nat) (p1 : List (Int)) (HRp0 : Rd KS139 sb A0p c0p p0) (HRp1 : Rd KI sb A1p c1p p1) (hH : Hp sb s F0 s []) (r : (List ((Int) × (List (Int)))) × (List (List (Int))) × (List (Int)) × (List (List (List (Bool))))) (H : impl_match.f p0 p1 = some r) : GCall Try.prog 177 #[.slice A0p p0.length c0p, .slice A1p p1.length c1p] s (impl_match.post sb s F0 r) := by
 refine GCall_ofr (impl_match.post sb s F0) [.tmp 4] (ud [.slice A0p p0.length c0p, .slice A1p p1.length c1p] 79) Try.func177 rfl rfl rfl fun w Q hQr hQn hQp => ?_
 replace H := topE H
 unfold impl_match.f at H
 dsimp only [ud, un]
 refine sr fun K1 hK1 => ag (HL_nil (hK1 _ _ ?_))
 dsimp only [putL, setL, evL, getL]
 refine sr fun K2 hK2 => mv ?_
 replace H := headE H
 obtain ⟨u3, hu3, H⟩ := H
 refine hc (o_call (args := #[.slice A0p p0.length c0p]) Try.func155 rfl rfl rfl (impl_parts.ok sb s no A0p c0p p0 HRp0 (Hp.own hH.bs) _ hu3) ?_)
 rintro _ s3 ⟨A4, c4, rfl, hD⟩
 replace hH := hH.back0 hD (Up.refl _ _ _)
 clear hD
 refine mv ?_
 dsimp only [putL, setL, evL, getL]
 refine hc (o_extract rfl rfl (hc (o_extract rfl rfl (ag ?_))))
 dsimp only [putL, setL, evL, getL]
 refine ag (HL_nil (hK2 _ _ ?_))
 dsimp only [putL, setL, evL, getL]
 refine sr fun K5 hK5 => mv (mv (mv ?_))
 dsimp only [putL, setL, evL, getL]
 refine hc (o_build (pl := [(0, 1), (1, 1), (2, 1), (3, 1)]) (cs := #[.slice A0p p0.length c0p, .slice A4 u3.1.length c4, .slice A1p p1.length c1p, .slice none 0 0]) Try.underlying165 tI165 (by kernel_rfl) (by kernel_rfl) rfl (hc (o_boxH hH rfl ?_)))
 clear hH
 intro b6 s6 hH _
 refine ag (HL_nil (hK5 _ _ ?_))
 dsimp only [putL, setL, evL, getL]
 refine HT_seq_k fun K7 hK7 => sr fun K8 hK8 => mv (hc (o_len rfl Try.underlying57 (mv (HL_nil (hK8 _ _ ?_)))))
 dsimp only [putL, setL, evL, getL]
 refine joinH H fun G9 hG9 H => ?_
 refine HT_toK (fun l' s' => ∃ (x14591 : List (List (List (Bool)))) (A14591 : Option Addr) (c14591 : Nat), G9 x14591 = some r ∧ skim [7] l' = ([.pointer (some ⟨b6, 0, none⟩)], 74) ∧ Hp sb s F0 s' [Ck.ol (Ow.sl (Ow.sl (Ow.flat Kd.bool_flat) 4) 209) 178 A14591 c14591 x14591, Ck.ol (Ow.sl OI 3) 24 A4 c4 u3.1, Ck.ov b6 [.slice A0p p0.length c0p, .slice A4 u3.1.length c4, .slice A1p p1.length c1p, .slice A14591 x14591.length c14591] 165]) ?_ ?_
 ·intro K9 hK9
  refine HT_block ?_
  refine HT_loopK (fun kf l' s' => ∃ (x19452 : Int) (x19453 : List (List (List (Bool)))) (A19453 : Option Addr) (c19453 : Nat), (impl_match.l1 p0 p1 u3 kf x19452 x19453).bind G9 = some r ∧ skim [1, 5, 16, 0] l' = ([.slice A1p p1.length c1p, .pointer (some ⟨b6, 0, none⟩), .int .i64 (p0.length : Int), .int .i64 x19452], 56) ∧ Hp sb s F0 s' [Ck.ol (Ow.sl (Ow.sl (Ow.flat Kd.bool_flat) 4) 209) 178 A19453 c19453 x19453, Ck.ol (Ow.sl OI 3) 24 A4 c4 u3.1, Ck.ov b6 [.slice A0p p0.length c0p, .slice A4 u3.1.length c4, .slice A1p p1.length c1p, .slice A19453 x19453.length c19453] 165]) ((((p0.length : Int)) - (0)).toNat + 2) ⟨0, [], none, 0, H, rfl, (hH.nil (K := (Kd.sl (Kd.sl Kd.bool))) (Ow.sl (Ow.sl (Ow.flat Kd.bool_flat) 4) 209) 178).sel [2, 0, 1] (by decide)⟩ ?_
  rintro kf l' s24314 ⟨x19452, x19453, A19453, c19453, H, hl, hH⟩ K24314 hK24314
  revert l'
  refine skA ?_
  dsimp only [Al, Sk]
  intros
  cases kf with
  | zero => simp [impl_match.l1] at H
  | succ kf =>
   rw [impl_match.l1] at H
   refine sr fun K24315 hK24315 => bn rfl rfl rfl (HL_nil (hK24315 _ _ ?_))
   dsimp only [putL, setL, evL, getL]
   refine HT_seq_k fun K24316 hK24316 => ?_
   revert H
   refine ct rfl (fun hb24317 H => ?_) (fun hb24317 H => ?_)
   ·refine HT_skip (hK24316 _ _ ?_)
    refine joinH H fun G24318 hG24318 H => ?_
    refine HT_joinK (fun l' s' => ∃ (x26745 : List (List (List (Bool)))) (A26745 : Option Addr) (c26745 : Nat), G24318 x26745 = some r ∧ skim [1, 5, 16, 0] l' = ([.slice A1p p1.length c1p, .pointer (some ⟨b6, 0, none⟩), .int .i64 (p0.length : Int), .int .i64 x19452], 56) ∧ Hp sb s F0 s' [Ck.ol (Ow.sl (Ow.sl (Ow.flat Kd.bool_flat) 4) 209) 178 A26745 c26745 x26745, Ck.ol (Ow.sl OI 3) 24 A4 c4 u3.1, Ck.ov b6 [.slice A0p p0.length c0p, .slice A4 u3.1.length c4, .slice A1p p1.length c1p, .slice A26745 x26745.length c26745] 165]) ?_ ?_
    ·intro K24318 hK24318
     refine HT_block (sr fun K26746 hK26746 => (mv (ag (HL_nil (hK26746 _ _ ?_)))))
     dsimp only [putL, setL, evL, getL]
     refine sr fun K26747 hK26747 => mv (hc (o_len rfl Try.underlying24 (bn rfl rfl rfl ?_)))
     replace H := headE H
     obtain ⟨x26748, hx26748, H⟩ := H
     try dsimp only [putL, setL, evL, getL]
     refine hc (o_makeH (K := (Kd.sl Kd.bool)) (O := (Ow.sl (Ow.flat Kd.bool_flat) 4)) (x0 := []) hH rfl Try.underlying178 tI209 rfl (by decide) (by decide) (by decide) Own0.nil hx26748 ?_)
     clear hH
     intro A26748 c26748 s26748 hH _
     refine ag (HL_nil (hK26747 _ _ ?_))
     dsimp only [putL, setL, evL, getL]
     refine HT_seq_k fun K26749 hK26749 => sr fun K26750 hK26750 => mv (hc (o_len rfl Try.underlying178 (mv (HL_nil (hK26750 _ _ ?_)))))
     dsimp only [putL, setL, evL, getL]
     refine joinH H fun G26751 hG26751 H => ?_
     refine HT_toK (fun l' s' => ∃ (x26784 : List (List (Bool))), G26751 x26784 = some r ∧ skim [1, 5, 0, 0, 14, 0] l' = ([.slice A1p p1.length c1p, .pointer (some ⟨b6, 0, none⟩), .int .i64 x19452, .slice A26748 x26748.length c26748, .int .i64 (p0.length : Int), .int .i64 x19452], 56) ∧ Hp sb s F0 s' [Ck.ol (Ow.sl (Ow.flat Kd.bool_flat) 4) 209 A26748 c26748 x26784, Ck.ol (Ow.sl OI 3) 24 A4 c4 u3.1, Ck.ol (Ow.sl (Ow.sl (Ow.flat Kd.bool_flat) 4) 209) 178 A19453 c19453 x19453, Ck.ov b6 [.slice A0p p0.length c0p, .slice A4 u3.1.length c4, .slice A1p p1.length c1p, .slice A19453 x19453.length c19453] 165] ∧ x26784.length = x26748.length) ?_ ?_
     ·intro K26751 hK26751
      refine HT_block ?_
      refine HT_loopK (fun kf l' s' => ∃ (x26794 : List (List (Bool))) (x26795 : Int), (impl_match.l2 p1 x26748 kf x26794 x26795).bind G26751 = some r ∧ skim [1, 5, 0, 0, 14, 0, 7, 0] l' = ([.slice A1p p1.length c1p, .pointer (some ⟨b6, 0, none⟩), .int .i64 x19452, .slice A26748 x26748.length c26748, .int .i64 (p0.length : Int), .int .i64 x19452, .int .i64 (x26748.length : Int), .int .i64 x26795], 47) ∧ Hp sb s F0 s' [Ck.ol (Ow.sl (Ow.flat Kd.bool_flat) 4) 209 A26748 c26748 x26794, Ck.ol (Ow.sl OI 3) 24 A4 c4 u3.1, Ck.ol (Ow.sl (Ow.sl (Ow.flat Kd.bool_flat) 4) 209) 178 A19453 c19453 x19453, Ck.ov b6 [.slice A0p p0.length c0p, .slice A4 u3.1.length c4, .slice A1p p1.length c1p, .slice A19453 x19453.length c19453] 165] ∧ x26794.length = x26748.length) ((((x26748.length : Int)) - (0)).toNat + 2) ⟨x26748, 0, H, rfl, hH.sel [3, 1, 0, 2] (by decide), rfl⟩ ?_
      rintro kf l' s26807 ⟨x26794, x26795, H, hl, hH, hl26794⟩ K26807 hK26807
      revert l'
      refine skA ?_
      dsimp only [Al, Sk]
      intros
      cases kf with
      | zero => simp [impl_match.l2] at H
      | succ kf =>
       rw [impl_match.l2] at H
       refine sr fun K26808 hK26808 => bn rfl rfl rfl (HL_nil (hK26808 _ _ ?_))
       dsimp only [putL, setL, evL, getL]
       refine HT_seq_k fun K26809 hK26809 => ?_
       revert H
       refine ct rfl (fun hb26810 H => ?_) (fun hb26810 H => ?_)
       ·refine HT_skip (hK26809 _ _ (HT_seq_k fun K26811 hK26811 => (HT_block (sr fun K26812 hK26812 => (mv (ag (HL_nil (hK26812 _ _ ?_))))))))
        dsimp only [putL, setL, evL, getL]
        refine HT_region ?_
        refine mv (mv (mv ?_))
        dsimp only [putL, setL, evL, getL]
        refine hc (o_len rfl Try.underlying24 (bn rfl rfl rfl ?_))
        replace H := headE H
        obtain ⟨x26813, hx26813, H⟩ := H
        refine hc (o_makeH (K := Kd.bool) (O := (Ow.flat Kd.bool_flat)) (x0 := false) hH rfl Try.underlying209 tI4 rfl (by decide) (by decide) (by decide) (Own0.fl fun _ => rfl) hx26813 ?_)
        clear hH
        intro A26813 c26813 s26813 hH _
        replace H := headE H
        obtain ⟨u26814, hu26814, H⟩ := H
        obtain ⟨b26814, o26814, cs26814, hA26814, hr26814, hh26814, hel26814⟩ := hH.elo 0 rfl hu26814
        obtain ⟨A26815, c26815, rfl, D26815⟩ := hr26814
        try dsimp only [putL, setL, evL, getL]
        refine hc (hel26814 s26813 (sliceLen hl26794) rfl Try.underlying178 tI209 ?_)
        replace hH := hH.conv [4] (by decide) (d := Ck.el (Ow.sl (Ow.flat Kd.bool_flat) 4) [.slice A26813 x26813.length c26813] x26813) Ent.sl
        replace H := headE H
        obtain ⟨x26816, hx26816, H⟩ := H
        refine hc (o_setD (u := x26813) hH 0 5 (by decide) rfl rfl rfl rfl rfl rfl tI209 hA26814 hx26816 ?_)
        clear hH
        intro s26816 hH
        have hl26816 := (st?_len hx26816).trans hl26794
        refine HL_nil (hK26811 _ _ ?_)
        try dsimp only [putL, setL, evL, getL]
        refine HT_region ?_
        refine bn rfl rfl rfl (mv (HL_nil ?_))
        exact hK26807 _ _ ⟨kf, Nat.lt_succ_self kf, x26816, IntKind.i64.wrap (x26795 + 1), H, rfl, hH.sel [0, 1, 2, 3] (by decide), hl26816⟩
       ·refine HT_exit ?_
        exact hK26751 _ _ ⟨x26794, H, rfl, hH, hl26794⟩
     ·rintro l' s26817 ⟨x26784, H, hl, hH, hl26784⟩
      revert l'
      refine skA ?_
      dsimp only [Al, Sk]
      intros
      replace H := hG26751 _ H
      try dsimp only at H
      refine hK26749 _ _ ?_
      refine sr fun K26818 hK26818 => mv ?_
      dsimp only [putL, setL, evL, getL]
      refine mv (hc (o_nilck rfl (hc (o_faddr' (ft := 163) (off := 3) rfl Try.underlying165 rfl tI163 (by decide) ?_))))
      dsimp only [putL, setL, evL, getL]
      refine hc (o_load' rfl Try.underlying163 rfl (hH.hasv 3 rfl rfl) (mv (hc (o_litF (K := Kd.raw 1) (O := OR 1) (ca := #[.slice A26748 x26748.length c26748]) [[.slice A26748 x26748.length c26748]] [[.slice A26748 x26748.length c26748]] hH Try.underlying163 tI178 rfl (by decide) rfl rfl (by kernel_rfl) rfl ⟨rfl, ⟨rfl, rfl, by simp [isCell]⟩, trivial⟩ ?_))))
      clear hH
      intro A26819 s26819 hH _
      replace H := headE H
      obtain ⟨x26820, hx26820, H⟩ := H
      try dsimp only [putL, setL, evL, getL]
      refine hc (o_appO (K := (Kd.sl (Kd.sl Kd.bool))) (O := (Ow.sl (Ow.sl (Ow.flat Kd.bool_flat) 4) 209)) (n := 5864062014805) (A := A19453) (c := c19453) (xs := x19453) (u := x26784) (vs := [.slice A26748 x26748.length c26748]) (B := A26819) (c2 := 1) hH 2 4 (by decide) rfl rfl rfl rfl rfl Try.underlying163 tI178 rfl (by decide) (by decide) (by decide) hx26820 ?_)
      clear hH
      intro A26820 c26820 s26820 hH
      have hlu26820 := app?_last hx26820
      refine hc (o_nilck rfl (hc (o_faddr' (ft := 163) (off := 3) rfl Try.underlying165 rfl tI163 (by decide) ?_)))
      dsimp only [putL, setL, evL, getL]
      refine hc (o_stvH (vs := [.slice A26820 x26820.length c26820]) (us' := [.slice A0p p0.length c0p, .slice A4 u3.1.length c4, .slice A1p p1.length c1p, .slice A26820 x26820.length c26820]) hH 3 rfl rfl rfl rfl rfl tI163 rfl (List.cons_ne_nil _ _) rfl rfl rfl ?_)
      clear hH
      intro s26821 hH
      refine HL_nil (hK26818 _ _ ?_)
      try dsimp only [putL, setL, evL, getL]
      refine sr fun K26822 hK26822 => mv (hc (o_len rfl Try.underlying24 (ag (HL_nil (hK26822 _ _ ?_)))))
      dsimp only [putL, setL, evL, getL]
      refine joinH H fun G26823 hG26823 H => ?_
      refine HT_toK (fun l' s' => ∃ (x27997 : List (List (List (Bool)))) (A27997 : Option Addr) (c27997 : Nat), G26823 x27997 = some r ∧ skim [1, 5, 16, 0] l' = ([.slice A1p p1.length c1p, .pointer (some ⟨b6, 0, none⟩), .int .i64 (p0.length : Int), .int .i64 x19452], 56) ∧ Hp sb s F0 s' [Ck.ol (Ow.sl (Ow.sl (Ow.flat Kd.bool_flat) 4) 209) 178 A27997 c27997 x27997, Ck.ol (Ow.sl OI 3) 24 A4 c4 u3.1, Ck.ov b6 [.slice A0p p0.length c0p, .slice A4 u3.1.length c4, .slice A1p p1.length c1p, .slice A27997 x27997.length c27997] 165]) ?_ ?_
      ·intro K26823 hK26823
       refine HT_block ?_
       refine HT_loopK (fun kf l' s' => ∃ (x28376 : List (List (Bool))) (x28377 : Int), (impl_match.l3 p0 p1 u3 x19452 x19453 x26820 kf x28376 x28377).bind G26823 = some r ∧ skim [1, 5, 0, 0, 1, 12, 0] l' = ([.slice A1p p1.length c1p, .pointer (some ⟨b6, 0, none⟩), .int .i64 x19452, .slice A26748 x26748.length c26748, .int .i64 x28377, .int .i64 (p0.length : Int), .int .i64 x19452], 56) ∧ Hp sb s F0 s' [Ck.ol (Ow.sl (Ow.flat Kd.bool_flat) 4) 209 A26748 c26748 x28376, Ck.ol (Ow.sl OI 3) 24 A4 c4 u3.1, Ck.oh (Ow.sl (Ow.sl (Ow.flat Kd.bool_flat) 4) 209) 178 A26820 c26820 x26820 (Int.toNat (x19453.length : Int)) [.slice A26748 x26748.length c26748], Ck.ov b6 [.slice A0p p0.length c0p, .slice A4 u3.1.length c4, .slice A1p p1.length c1p, .slice A26820 x26820.length c26820] 165] ∧ x28376.length = x26748.length) ((((p1.length : Int)) - (0)).toNat + 2) ⟨x26784, (p1.length : Int), H, rfl, hH.sel [0, 1, 2, 3] (by decide), hl26784⟩ ?_
       rintro kf l' s28775 ⟨x28376, x28377, H, hl, hH, hl28376⟩ K28775 hK28775
       revert l'
       refine skA ?_
       dsimp only [Al, Sk]
       intros
       cases kf with
       | zero => simp [impl_match.l3] at H
       | succ kf =>
        rw [impl_match.l3] at H
        refine HT_seq_k fun K28776 hK28776 => sr fun K28777 hK28777 => mv (bn rfl rfl rfl (HL_nil (hK28777 _ _ ?_)))
        dsimp only [putL, setL, evL, getL]
        revert H
        refine ct rfl (fun hb28778 H => ?_) (fun hb28778 H => ?_)
        ·refine HT_skip (hK28776 _ _ ?_)
         refine joinH H fun G28779 hG28779 H => ?_
         refine HT_joinK (fun l' s' => ∃ (x28974 : List (List (Bool))), G28779 x28974 = some r ∧ skim [1, 5, 0, 0, 1, 12, 0] l' = ([.slice A1p p1.length c1p, .pointer (some ⟨b6, 0, none⟩), .int .i64 x19452, .slice A26748 x26748.length c26748, .int .i64 x28377, .int .i64 (p0.length : Int), .int .i64 x19452], 56) ∧ Hp sb s F0 s' [Ck.ol (Ow.sl (Ow.flat Kd.bool_flat) 4) 209 A26748 c26748 x28974, Ck.ol (Ow.sl OI 3) 24 A4 c4 u3.1, Ck.oh (Ow.sl (Ow.sl (Ow.flat Kd.bool_flat) 4) 209) 178 A26820 c26820 x26820 (Int.toNat (x19453.length : Int)) [.slice A26748 x26748.length c26748], Ck.ov b6 [.slice A0p p0.length c0p, .slice A4 u3.1.length c4, .slice A1p p1.length c1p, .slice A26820 x26820.length c26820] 165] ∧ x28974.length = x26748.length) ?_ ?_
         ·intro K28779 hK28779
          refine HT_block (sr fun K28975 hK28975 => (mv (ag (HL_nil (hK28975 _ _ ?_)))))
          dsimp only [putL, setL, evL, getL]
          refine joinH H fun G28976 hG28976 H => ?_
          refine HT_toK (fun l' s' => ∃ (x29072 : List (List (Bool))), G28976 x29072 = some r ∧ skim [1, 5, 0, 0, 1, 12, 0] l' = ([.slice A1p p1.length c1p, .pointer (some ⟨b6, 0, none⟩), .int .i64 x19452, .slice A26748 x26748.length c26748, .int .i64 x28377, .int .i64 (p0.length : Int), .int .i64 x19452], 56) ∧ Hp sb s F0 s' [Ck.ol (Ow.sl (Ow.flat Kd.bool_flat) 4) 209 A26748 c26748 x29072, Ck.ol (Ow.sl OI 3) 24 A4 c4 u3.1, Ck.oh (Ow.sl (Ow.sl (Ow.flat Kd.bool_flat) 4) 209) 178 A26820 c26820 x26820 (Int.toNat (x19453.length : Int)) [.slice A26748 x26748.length c26748], Ck.ov b6 [.slice A0p p0.length c0p, .slice A4 u3.1.length c4, .slice A1p p1.length c1p, .slice A26820 x26820.length c26820] 165] ∧ x29072.length = x26748.length) ?_ ?_
          ·intro K28976 hK28976
           refine HT_block ?_
           refine HT_loopK (fun kf l' s' => ∃ (x29103 : List (List (Bool))) (x29104 : Int), (impl_match.l4 p0 p1 u3 x19452 x19453 x26820 x28377 kf x29103 x29104).bind G28976 = some r ∧ skim [1, 5, 0, 0, 1, 0, 11, 0] l' = ([.slice A1p p1.length c1p, .pointer (some ⟨b6, 0, none⟩), .int .i64 x19452, .slice A26748 x26748.length c26748, .int .i64 x28377, .int .i64 x29104, .int .i64 (p0.length : Int), .int .i64 x19452], 56) ∧ Hp sb s F0 s' [Ck.ol (Ow.sl (Ow.flat Kd.bool_flat) 4) 209 A26748 c26748 x29103, Ck.ol (Ow.sl OI 3) 24 A4 c4 u3.1, Ck.oh (Ow.sl (Ow.sl (Ow.flat Kd.bool_flat) 4) 209) 178 A26820 c26820 x26820 (Int.toNat (x19453.length : Int)) [.slice A26748 x26748.length c26748], Ck.ov b6 [.slice A0p p0.length c0p, .slice A4 u3.1.length c4, .slice A1p p1.length c1p, .slice A26820 x26820.length c26820] 165] ∧ x29103.length = x26748.length) ((((p1.length : Int)) - (x28377)).toNat + 2) ⟨x28376, x28377, H, rfl, hH, hl28376⟩ ?_
           rintro kf l' s29137 ⟨x29103, x29104, H, hl, hH, hl29103⟩ K29137 hK29137
           revert l'
           refine skA ?_
           dsimp only [Al, Sk]
           intros
           cases kf with
           | zero => simp [impl_match.l4] at H
           | succ kf =>
            rw [impl_match.l4] at H
            refine HT_seq_k fun K29138 hK29138 => sr fun K29139 hK29139 => mv (mv (hc (o_len rfl Try.underlying24 ?_)))
            dsimp only [putL, setL, evL, getL]
            refine bn rfl rfl rfl (HL_nil (hK29139 _ _ ?_))
            dsimp only [putL, setL, evL, getL]
            revert H
            refine ct rfl (fun hb29140 H => ?_) (fun hb29140 H => ?_)
            ·refine HT_skip (hK29138 _ _ ?_)
             refine joinH H fun G29141 hG29141 H => ?_
             refine HT_joinK (fun l' s' => ∃ (x29154 : List (List (Bool))), G29141 x29154 = some r ∧ skim [1, 5, 0, 0, 1, 0, 11, 0] l' = ([.slice A1p p1.length c1p, .pointer (some ⟨b6, 0, none⟩), .int .i64 x19452, .slice A26748 x26748.length c26748, .int .i64 x28377, .int .i64 x29104, .int .i64 (p0.length : Int), .int .i64 x19452], 56) ∧ Hp sb s F0 s' [Ck.ol (Ow.sl (Ow.flat Kd.bool_flat) 4) 209 A26748 c26748 x29154, Ck.ol (Ow.sl OI 3) 24 A4 c4 u3.1, Ck.oh (Ow.sl (Ow.sl (Ow.flat Kd.bool_flat) 4) 209) 178 A26820 c26820 x26820 (Int.toNat (x19453.length : Int)) [.slice A26748 x26748.length c26748], Ck.ov b6 [.slice A0p p0.length c0p, .slice A4 u3.1.length c4, .slice A1p p1.length c1p, .slice A26820 x26820.length c26820] 165] ∧ x29154.length = x26748.length) ?_ ?_
             ·intro K29141 hK29141
              refine HT_block ?_
              refine HX_draw hMix ?_
              refine HX_lim (R := fun _ => True) (k := 0) (fun s' => Gro s29137 s') 9 ?_
              have hR := Gro.refl s29137
              have hH0 := hH
              refine HK_readP 5 (v := .pointer (some ⟨b6, 0, none⟩)) rfl (by kernel_rfl) hQp rfl (fun s' K hK => o_move hK) rfl rfl (fun _ => hR) ?_
              try dsimp only [putL, setL, evL, getL]
              refine HK_readP 6 (v := .int .i64 x19452) rfl (by kernel_rfl) hQp rfl (fun s' K hK => o_move hK) rfl rfl (fun _ => hR) ?_
              refine HK_readP 7 (v := .int .i64 x28377) rfl (by kernel_rfl) hQp rfl (fun s' K hK => o_move hK) rfl rfl (fun _ => hR) ?_
              refine HK_readP 8 (v := .int .i64 x29104) rfl (by kernel_rfl) hQp rfl (fun s' K hK => o_move hK) rfl rfl (fun _ => hR) ?_
              try dsimp only [putL, setL, evL, getL]
              refine HK_readP 0 (v := .slice A26748 x26748.length c26748) rfl (by kernel_rfl) hQp rfl (fun s' K hK => o_move hK) rfl rfl (fun _ => hR) ?_
              refine HK_readP 1 (v := .int .i64 x28377) rfl (by kernel_rfl) hQp rfl (fun s' K hK => o_move hK) rfl rfl (fun _ => hR) ?_
              replace H := headE H
              obtain ⟨u29155, hu29155, H⟩ := H
              obtain ⟨b29155, o29155, vs29155, hA29155, -, hH⟩ := hH.open 0 rfl rfl hu29155
              obtain ⟨A29156, c29156, rfl, hH⟩ := hH.el_sl 4 rfl rfl
              refine HK_readP 2 (v := .pointer (some ⟨b29155, o29155 + Int.toNat x28377 * Kd.sz (Kd.sl Kd.bool), none⟩)) rfl (by kernel_rfl) hQp rfl (fun s' K hK => iaddr_of (K := (Kd.sl Kd.bool)) hA29155 hu29155 s' (sliceLen hl29103) rfl Try.underlying178 tI209 hK) rfl rfl (fun _ => hR) ?_
              try dsimp only [putL, setL, evL, getL]
              refine HK_readP 4 (v := .int .i64 x29104) rfl (by kernel_rfl) hQp rfl (fun s' K hK => o_move hK) rfl rfl (fun _ => hR) ?_
              refine HK_more [3, 9] (by kernel_rfl) rfl (fun _ => hR) ⟨⟨_, rfl, Or.inl ⟨rfl, ?_⟩⟩, ⟨_, rfl, Or.inl ⟨rfl, ?_⟩⟩, trivial⟩
              ·skip
               refine o_load' rfl Try.underlying209 rfl (hH.hasoh 0 rfl hA29155 0 _ rfl) ?_
               refine HK_more [9] (by kernel_rfl) rfl (fun _ => hR) ⟨⟨_, rfl, Or.inl ⟨rfl, ?_⟩⟩, trivial⟩
               replace H := headE H
               obtain ⟨x29158, hx29158, H⟩ := H
               have hl29158 := st?_len hx29158
               replace hH : Hp sb s F0 s29137 [Ck.oh (Ow.sl (Ow.flat Kd.bool_flat) 4) 209 A26748 c26748 x29103 (Int.toNat x28377) [.slice A29156 u29155.length c29156], Ck.ol (Ow.sl OI 3) 24 A4 c4 u3.1, Ck.oh (Ow.sl (Ow.sl (Ow.flat Kd.bool_flat) 4) 209) 178 A26820 c26820 x26820 (Int.toNat (x19453.length : Int)) [.slice A26748 x26748.length c26748], Ck.ov b6 [.slice A0p p0.length c0p, .slice A4 u3.1.length c4, .slice A1p p1.length c1p, .slice A26820 x29158.length c26820] 165, Ck.ol (Ow.flat Kd.bool_flat) 4 A29156 c29156 u29155] := by rw [hl29158]; exact hH
               replace H := headE H
               obtain ⟨u29157, hu29157, H⟩ := H
               obtain ⟨F1, sx, hx, hC, hA, hB⟩ := hH.takeT [3] (by decide)
               dsimp only [addC, setC, rmC, selC, getC] at hA
               skip
               refine o_call (args := #[.pointer (some ⟨b6, 0, none⟩), .int .i64 x19452, .int .i64 x28377, .int .i64 x29104]) Try.func217 rfl rfl rfl (impl_matcher_look.ok sx s29137 F1 b6 A0p c0p p0 A4 c4 u3.1 A1p c1p p1 A26820 c26820 x29158 x19452 x28377 x29104 (HRp0.mono hx.mono) (Ck.rdT hx (hC 1 (by decide)) rfl) (HRp1.mono hx.mono) (Ck.ohrd hx (hC 2 (by decide)) rfl ⟨_, _, congrArg (fun v => [v]) (sliceLen hl29103), (Ck.ohrd hx (hC 0 (by decide)) rfl ⟨_, _, rfl, (Ck.rdT hx (hC 4 (by decide)) rfl)⟩ (st?_same hu29155))⟩ hx29158) hA _ hu29157) ?_
               rintro _ s29157 ⟨rfl, hD⟩
               replace hH := hB _ _ _ inferInstance hD
               clear hD hA hB hx hC
               rw [hl29158] at hH
               try dsimp only [putL, setL, evL, getL]
               refine HK_free (by kernel_rfl) ?_
               refine HX_lim (R := fun _ => True) (k := 0) (fun s' => Gro s29157 s') 11 ?_
               have hR := Gro.refl s29157
               have hH0 := hH
               replace H := headE H
               obtain ⟨u29159, hu29159, H⟩ := H
               obtain ⟨b29159, o29159, cs29159, hA29159, hr29159, hh29159, hel29159⟩ := hH0.elo 4 rfl hu29159
               obtain rfl := hr29159
               refine HK_readP 10 (v := .pointer (some ⟨b29159, o29159 + Int.toNat x29104 * Kd.sz Kd.bool, none⟩)) rfl (by kernel_rfl) hQp rfl (fun s' K hK => hel29159 s' rfl rfl Try.underlying209 tI4 hK) rfl rfl (fun _ => hR) ?_
               try dsimp only [putL, setL, evL, getL]
               refine HK_more [11] (by kernel_rfl) rfl (fun _ => hR) ⟨⟨_, rfl, Or.inl ⟨rfl, ?_⟩⟩, trivial⟩
               replace H := headE H
               obtain ⟨x29160, hx29160, H⟩ := H
               skip
               refine o_setF (vs := [.bool u29157]) (u := u29157) hH 4 rfl rfl rfl rfl rfl tI4 hA29159 hx29160 (Ent.own (Ent.flat rfl)) ?_
               clear hH
               intro s29160 hH
               have hl29160 := st?_len hx29160
               refine HK_free (by kernel_rfl) ?_
               refine HX_done (by kernel_rfl) ?_
               replace hH := hH.conv [4] (by decide) (d := Ck.el (Ow.sl (Ow.flat Kd.bool_flat) 4) [.slice A29156 u29155.length c29156] x29160) (Ent.slL hl29160)
               replace H := headE H
               obtain ⟨x29161, hx29161, H⟩ := H
               replace hH := hH.close (i := x28377) 0 6 (by decide) rfl rfl rfl hx29161
               have hl29161 := (st?_len hx29161).trans hl29103
               exact hK29141 _ _ ⟨x29161, H, rfl, hH.sel [0, 1, 2, 5] (by decide), hl29161⟩
              ·replace H := headE H
               obtain ⟨x29163, hx29163, H⟩ := H
               have hl29163 := st?_len hx29163
               replace hH : Hp sb s F0 s29137 [Ck.oh (Ow.sl (Ow.flat Kd.bool_flat) 4) 209 A26748 c26748 x29103 (Int.toNat x28377) [.slice A29156 u29155.length c29156], Ck.ol (Ow.sl OI 3) 24 A4 c4 u3.1, Ck.oh (Ow.sl (Ow.sl (Ow.flat Kd.bool_flat) 4) 209) 178 A26820 c26820 x26820 (Int.toNat (x19453.length : Int)) [.slice A26748 x26748.length c26748], Ck.ov b6 [.slice A0p p0.length c0p, .slice A4 u3.1.length c4, .slice A1p p1.length c1p, .slice A26820 x29163.length c26820] 165, Ck.ol (Ow.flat Kd.bool_flat) 4 A29156 c29156 u29155] := by rw [hl29163]; exact hH
               replace H := headE H
               obtain ⟨u29162, hu29162, H⟩ := H
               obtain ⟨F1, sx, hx, hC, hA, hB⟩ := hH.takeT [3] (by decide)
               dsimp only [addC, setC, rmC, selC, getC] at hA
               skip
               refine o_call (args := #[.pointer (some ⟨b6, 0, none⟩), .int .i64 x19452, .int .i64 x28377, .int .i64 x29104]) Try.func217 rfl rfl rfl (impl_matcher_look.ok sx s29137 F1 b6 A0p c0p p0 A4 c4 u3.1 A1p c1p p1 A26820 c26820 x29163 x19452 x28377 x29104 (HRp0.mono hx.mono) (Ck.rdT hx (hC 1 (by decide)) rfl) (HRp1.mono hx.mono) (Ck.ohrd hx (hC 2 (by decide)) rfl ⟨_, _, congrArg (fun v => [v]) (sliceLen hl29103), (Ck.ohrd hx (hC 0 (by decide)) rfl ⟨_, _, rfl, (Ck.rdT hx (hC 4 (by decide)) rfl)⟩ (st?_same hu29155))⟩ hx29163) hA _ hu29162) ?_
               rintro _ s29162 ⟨rfl, hD⟩
               replace hH := hB _ _ _ inferInstance hD
               clear hD hA hB hx hC
               rw [hl29163] at hH
               try dsimp only [putL, setL, evL, getL]
               refine HK_free (by kernel_rfl) ?_
               refine HX_lim (R := fun _ => True) (k := 0) (fun s' => Gro s29162 s') 11 ?_
               have hR := Gro.refl s29162
               have hH0 := hH
               refine HK_read 3 (v := .slice A29156 u29155.length c29156) rfl (by kernel_rfl) hQp rfl (fun s' hR' K hK => o_load' rfl Try.underlying209 rfl (has_gro hR' (hH.hasoh 0 rfl hA29155 0 _ rfl)) hK) rfl rfl hR ?_
               replace H := headE H
               obtain ⟨u29164, hu29164, H⟩ := H
               obtain ⟨b29164, o29164, cs29164, hA29164, hr29164, hh29164, hel29164⟩ := hH0.elo 4 rfl hu29164
               obtain rfl := hr29164
               try dsimp only [putL, setL, evL, getL]
               refine HK_readP 10 (v := .pointer (some ⟨b29164, o29164 + Int.toNat x29104 * Kd.sz Kd.bool, none⟩)) rfl (by kernel_rfl) hQp rfl (fun s' K hK => hel29164 s' rfl rfl Try.underlying209 tI4 hK) rfl rfl (fun _ => hR) ?_
               refine HK_more [11] (by kernel_rfl) rfl (fun _ => hR) ⟨⟨_, rfl, Or.inl ⟨rfl, ?_⟩⟩, trivial⟩
               replace H := headE H
               obtain ⟨x29165, hx29165, H⟩ := H
               skip
               refine o_setF (vs := [.bool u29162]) (u := u29162) hH 4 rfl rfl rfl rfl rfl tI4 hA29164 hx29165 (Ent.own (Ent.flat rfl)) ?_
               clear hH
               intro s29165 hH
               have hl29165 := st?_len hx29165
               refine HK_free (by kernel_rfl) ?_
               try dsimp only [putL, setL, evL, getL]
               refine HX_done (by kernel_rfl) ?_
               replace hH := hH.conv [4] (by decide) (d := Ck.el (Ow.sl (Ow.flat Kd.bool_flat) 4) [.slice A29156 u29155.length c29156] x29165) (Ent.slL hl29165)
               replace H := headE H
               obtain ⟨x29166, hx29166, H⟩ := H
               replace hH := hH.close (i := x28377) 0 6 (by decide) rfl rfl rfl hx29166
               have hl29166 := (st?_len hx29166).trans hl29103
               exact hK29141 _ _ ⟨x29166, H, rfl, hH.sel [0, 1, 2, 5] (by decide), hl29166⟩
             ·rintro l' s29167 ⟨x29154, H, hl, hH, hl29154⟩
              revert l'
              refine skA ?_
              dsimp only [Al, Sk]
              intros
              replace H := hG29141 _ H
              try dsimp only at H
              refine HT_region ?_
              refine mv (bn rfl rfl rfl ?_)
              dsimp only [putL, setL, evL, getL]
              refine ag (HL_nil ?_)
              exact hK29137 _ _ ⟨kf, Nat.lt_succ_self kf, x29154, IntKind.i64.wrap (x29104 + 1), H, rfl, hH, hl29154⟩
            ·refine HT_exit ?_
             exact hK28976 _ _ ⟨x29103, H, rfl, hH, hl29103⟩
          ·rintro l' s29168 ⟨x29072, H, hl, hH, hl29072⟩
           revert l'
           refine skA ?_
           dsimp only [Al, Sk]
           intros
           replace H := hG28976 _ H
           try dsimp only at H
           exact hK28779 _ _ ⟨x29072, H, rfl, hH, hl29072⟩
         ·rintro l' s29169 ⟨x28974, H, hl, hH, hl28974⟩
          revert l'
          refine skA ?_
          dsimp only [Al, Sk]
          intros
          replace H := hG28779 _ H
          try dsimp only at H
          refine HT_region ?_
          refine mv (bn rfl rfl rfl ?_)
          dsimp only [putL, setL, evL, getL]
          refine ag (HL_nil ?_)
          exact hK28775 _ _ ⟨kf, Nat.lt_succ_self kf, x28974, IntKind.i64.wrap (x28377 - 1), H, rfl, hH, hl28974⟩
        ·refine HT_exit ?_
         replace hH := hH.conv [0] (by decide) (d := Ck.el (Ow.sl (Ow.sl (Ow.flat Kd.bool_flat) 4) 209) [.slice A26748 x26748.length c26748] x28376) (Ent.slL hl28376)
         replace H := headE H
         obtain ⟨x29170, hx29170, H⟩ := H
         replace hH := hH.close (i := (x19453.length : Int)) 2 4 (by decide) rfl rfl rfl hx29170
         have hl29170 := st?_len hx29170
         exact hK26823 _ _ ⟨x29170, A26820, c26820, H, (by first | (rw [hl29170]; first | done | rfl) | rfl), (by first | exact hH.sel [2, 1, 3] (by decide) | (rw [hl29170]; exact hH.sel [2, 1, 3] (by decide)))⟩
      ·rintro l' s29171 ⟨x27997, A27997, c27997, H, hl, hH⟩
       revert l'
       refine skA ?_
       dsimp only [Al, Sk]
       intros
       replace H := hG26823 _ H
       try dsimp only at H
       exact hK24318 _ _ ⟨x27997, A27997, c27997, H, rfl, hH⟩
    ·rintro l' s29172 ⟨x26745, A26745, c26745, H, hl, hH⟩
     revert l'
     refine skA ?_
     dsimp only [Al, Sk]
     intros
     replace H := hG24318 _ H
     try dsimp only at H
     refine HT_region ?_
     refine bn rfl rfl rfl (mv (HL_nil ?_))
     exact hK24314 _ _ ⟨kf, Nat.lt_succ_self kf, IntKind.i64.wrap (x19452 + 1), x26745, A26745, c26745, H, rfl, hH⟩
   ·refine HT_exit ?_
    exact hK9 _ _ ⟨x19453, A19453, c19453, H, rfl, hH⟩
 ·rintro l' s29173 ⟨x14591, A14591, c14591, H, hl, hH⟩
  revert l'
  refine skA ?_
  dsimp only [Al, Sk]
  intros
  replace H := hG9 _ H
  try dsimp only at H
  refine hK7 _ _ ?_
  refine sr fun K29174 hK29174 => ?_
  try dsimp only [putL, setL, evL, getL]
  refine mv (ag (HL_nil (hK29174 _ _ ?_)))
  dsimp only [putL, setL, evL, getL]
  refine HT_ret ?_
  exact hQr _ _ [.pointer (some ⟨b6, 0, none⟩)] _ ⟨rfl, trivial⟩ H ⟨b6, A0p, c0p, A4, c4, A1p, c1p, A14591, c14591, rfl, hH.sel [1, 0, 2] (by decide), HRp0, HRp1⟩
def impl_matcher_parse.l1 (p0_0 : List ((Int) × (List (Int)))) (p0_1 : List (List (Int))) (p0_2 : List (Int)) (p0_3 : List (List (List (Bool)))) (p3 : Int) (p4 : Int) (u6 : List (Int)) : Nat → Int → Option Int
 | 0, _ => none
 | kf + 1, x2462 => ((rd? u6 0).bind fun u2518 => (impl_matcher_has.f p0_0 p0_1 p0_2 p0_3 u2518 p3 x2462).bind fun u2519 => if (!u2519) = true then (some true) else ((rd? u6 1).bind fun u2521 => (impl_matcher_has.f p0_0 p0_1 p0_2 p0_3 u2521 x2462 p4).bind fun u2522 => some (!u2522))).bind fun (o : Bool) => match o with | x2517 => (if x2517 = true then (impl_matcher_parse.l1 p0_0 p0_1 p0_2 p0_3 p3 p4 u6 kf (IntKind.i64.wrap (x2462 - 1))) else (some x2462))
def impl_matcher_parse.l3 (p0_0 : List ((Int) × (List (Int)))) (p0_1 : List (List (Int))) (p0_2 : List (Int)) (p0_3 : List (List (List (Bool)))) (p2 : Int) (p4 : Int) (u6 : List (Int)) (x3927 : Int) : Nat → Int → Option Int
 | 0, _ => none
 | kf + 1, x4561 => ((rd? u6 0).bind fun u4610 => (impl_matcher_has.f p0_0 p0_1 p0_2 p0_3 u4610 x3927 x4561).bind fun u4611 => if (!u4611) = true then (some true) else ((impl_matcher_has.f p0_0 p0_1 p0_2 p0_3 p2 x4561 p4).bind fun u4613 => some (!u4613))).bind fun (o : Bool) => match o with | x4609 => (if x4609 = true then (impl_matcher_parse.l3 p0_0 p0_1 p0_2 p0_3 p2 p4 u6 x3927 kf (IntKind.i64.wrap (x4561 - 1))) else (some x4561))
def impl_matcher_parse.l2 (p0_0 : List ((Int) × (List (Int)))) (p0_1 : List (List (Int))) (p0_2 : List (Int)) (p0_3 : List (List (List (Bool)))) (p2 : Int) (p4 : Int) (self : (List ((Int) × (List (Int)))) → (List (List (Int))) → (List (Int)) → (List (List (List (Bool)))) → (List ((Int) × (Int) × (Int))) → Int → Int → Int → Option (List ((Int) × (Int) × (Int)))) (u6 : List (Int)) : Nat → (List ((Int) × (Int) × (Int))) → Int → Option (List ((Int) × (Int) × (Int)))
 | 0, _, _ => none
 | kf + 1, x3926, x3927 => if (decide (x3927 < p4)) = true then (((impl_matcher_parse.l3 p0_0 p0_1 p0_2 p0_3 p2 p4 u6 x3927 (p4.toNat + 2) p4).bind fun (o : Int) => match o with | x4534 => ((rd? u6 0).bind fun u4617 => (self p0_0 p0_1 p0_2 p0_3 x3926 u4617 x3927 x4534).bind fun u4618 => some (u4618, x4534))).bind fun (o : (List ((Int) × (Int) × (Int))) × Int) => match o with | (x4449, x4450) => (impl_matcher_parse.l2 p0_0 p0_1 p0_2 p0_3 p2 p4 self u6 kf x4449 x4450)) else (some x3926)
def impl_matcher_parse.b (self : (List ((Int) × (List (Int)))) → (List (List (Int))) → (List (Int)) → (List (List (List (Bool)))) → (List ((Int) × (Int) × (Int))) → Int → Int → Int → Option (List ((Int) × (Int) × (Int)))) (p0_0 : List ((Int) × (List (Int)))) (p0_1 : List (List (Int))) (p0_2 : List (Int)) (p0_3 : List (List (List (Bool)))) (p1 : List ((Int) × (Int) × (Int))) (p2 : Int) (p3 : Int) (p4 : Int) : Option (List ((Int) × (Int) × (Int))) := (app? 5864062014805 p1 [(p2, p3, p4)]).bind fun x4 => (rd? p0_1 p2).bind fun u6 => ((rd? p0_0 p2).bind fun u2317 => if (u2317.1 == 4) = true then ((rd? u6 0).bind fun u2323 => (impl_matcher_has.f p0_0 p0_1 p0_2 p0_3 u2323 p3 p4).bind fun u2324 => if u2324 = true then ((rd? u6 0).bind fun u2327 => (self p0_0 p0_1 p0_2 p0_3 x4 u2327 p3 p4).bind fun u2328 => (some u2328).bind fun z => some (Lo.ret z)) else ((rd? u6 1).bind fun u2331 => (self p0_0 p0_1 p0_2 p0_3 x4 u2331 p3 p4).bind fun u2332 => (some u2332).bind fun z => some (Lo.ret z))) else (if (u2317.1 == 3) = true then ((impl_matcher_parse.l1 p0_0 p0_1 p0_2 p0_3 p3 p4 u6 (p4.toNat + 2) p4).bind fun (o : Int) => match o with | x2431 => ((rd? u6 0).bind fun u2527 => (rd? u6 1).bind fun u2528 => (self p0_0 p0_1 p0_2 p0_3 x4 u2527 p3 x2431).bind fun u2529 => (self p0_0 p0_1 p0_2 p0_3 u2529 u2528 x2431 p4).bind fun u2531 => (some u2531).bind fun z => some (Lo.ret z))) else (if (u2317.1 == 6) = true then ((impl_matcher_parse.l2 p0_0 p0_1 p0_2 p0_3 p2 p4 self u6 (p4.toNat + 2) x4 p3).bind fun (o : (List ((Int) × (Int) × (Int)))) => match o with | x3580 => (some (Lo.go x3580))) else (some (Lo.go x4))))).bind fun (o : Lo (List ((Int) × (Int) × (Int))) (List ((Int) × (Int) × (Int)))) => match o with | .go x2315 => (some x2315) | .ret z => some z
def impl_matcher_parse.r : Nat → (List ((Int) × (List (Int)))) → (List (List (Int))) → (List (Int)) → (List (List (List (Bool)))) → (List ((Int) × (Int) × (Int))) → Int → Int → Int → Option (List ((Int) × (Int) × (Int)))
 | 0, _, _, _, _, _, _, _, _ => none
 | kr + 1, p0_0, p0_1, p0_2, p0_3, p1, p2, p3, p4 => impl_matcher_parse.b (impl_matcher_parse.r kr) p0_0 p0_1 p0_2 p0_3 p1 p2 p3 p4
def impl_matcher_parse.f (p0_0 : List ((Int) × (List (Int)))) (p0_1 : List (List (Int))) (p0_2 : List (Int)) (p0_3 : List (List (List (Bool)))) (p1 : List ((Int) × (Int) × (Int))) (p2 : Int) (p3 : Int) (p4 : Int) : Option (List ((Int) × (Int) × (Int))) := impl_matcher_parse.r (p2.toNat + 2) p0_0 p0_1 p0_2 p0_3 p1 p2 p3 p4
def impl_matcher_parse.post (sb s : St) (F0 : Fp) (bp0 : Nat) (A0_0p : Option Addr) (c0_0p : Nat) (p0_0 : List ((Int) × (List (Int)))) (A0_1p : Option Addr) (c0_1p : Nat) (p0_1 : List (List (Int))) (A0_2p : Option Addr) (c0_2p : Nat) (p0_2 : List (Int)) (A0_3p : Option Addr) (c0_3p : Nat) (p0_3 : List (List (List (Bool)))) (r : (List ((Int) × (Int) × (Int)))) : Value → St → Prop := fun v s' => ∃ (A0 : Option Addr) (c0 : Nat), v = .slice A0 r.length c0 ∧ Hp sb s F0 s' [Ck.ol OS138 138 A0 c0 r, Ck.ov bp0 [.slice A0_0p p0_0.length c0_0p, .slice A0_1p p0_1.length c0_1p, .slice A0_2p p0_2.length c0_2p, .slice A0_3p p0_3.length c0_3p] 165]
set_option maxRecDepth 100000 in
set_option maxHeartbeats 4000000 in
theorem impl_matcher_parse.okb (self : (List ((Int) × (List (Int)))) → (List (List (Int))) → (List (Int)) → (List (List (List (Bool)))) → (List ((Int) × (Int) × (Int))) → Int → Int → Int → Option (List ((Int) × (Int) × (Int)))) (ih : ∀ (sb s : St) (F0 : Fp) (bp0 : Nat) (A0_0p : Option Addr) (c0_0p : Nat) (p0_0 : List ((Int) × (List (Int)))) (A0_1p : Option Addr) (c0_1p : Nat) (p0_1 : List (List (Int))) (A0_2p : Option Addr) (c0_2p : Nat) (p0_2 : List (Int)) (A0_3p : Option Addr) (c0_3p : Nat) (p0_3 : List (List (List (Bool)))) (A1p : Option Addr) (c1p : Nat) (p1 : List ((Int) × (Int) × (Int))) (p2 : Int) (p3 : Int) (p4 : Int) (HRp0_0 : Rd KS139 sb A0_0p c0_0p p0_0) (HRp0_1 : Rd (Kd.sl KI) sb A0_1p c0_1p p0_1) (HRp0_2 : Rd KI sb A0_2p c0_2p p0_2) (HRp0_3 : Rd (Kd.sl (Kd.sl Kd.bool)) sb A0_3p c0_3p p0_3) (hH : Hp sb s F0 s [Ck.ov bp0 [.slice A0_0p p0_0.length c0_0p, .slice A0_1p p0_1.length c0_1p, .slice A0_2p p0_2.length c0_2p, .slice A0_3p p0_3.length c0_3p] 165, Ck.ol OS138 138 A1p c1p p1]) (r : (List ((Int) × (Int) × (Int)))) (H : self p0_0 p0_1 p0_2 p0_3 p1 p2 p3 p4 = some r), GCall Try.prog 179 #[.pointer (some ⟨bp0, 0, none⟩), .slice A1p p1.length c1p, .int .i64 p2, .int .i64 p3, .int .i64 p4] s (impl_matcher_parse.post sb s F0 bp0 A0_0p c0_0p p0_0 A0_1p c0_1p p0_1 A0_2p c0_2p p0_2 A0_3p c0_3p p0_3 r)) (sb s : St) (F0 : Fp) (bp0 : Nat) (A0_0p : Option Addr) (c0_0p : Nat) (p0_0 : List ((Int) × (List (Int)))) (A0_1p : Option Addr) (c0_1p : Nat) (p0_1 : List (List (Int))) (A0_2p : Option Addr) (c0_2p : Nat) (p0_2 : List (Int)) (A0_3p : Option Addr) (c0_3p : Nat) (p0_3 : List (List (List (Bool)))) (A1p : Option Addr) (c1p : Nat) (p1 : List ((Int) × (Int) × (Int))) (p2 : Int) (p3 : Int) (p4 : Int) (HRp0_0 : Rd KS139 sb A0_0p c0_0p p0_0) (HRp0_1 : Rd (Kd.sl KI) sb A0_1p c0_1p p0_1) (HRp0_2 : Rd KI sb A0_2p c0_2p p0_2) (HRp0_3 : Rd (Kd.sl (Kd.sl Kd.bool)) sb A0_3p c0_3p p0_3) (hH : Hp sb s F0 s [Ck.ov bp0 [.slice A0_0p p0_0.length c0_0p, .slice A0_1p p0_1.length c0_1p, .slice A0_2p p0_2.length c0_2p, .slice A0_3p p0_3.length c0_3p] 165, Ck.ol OS138 138 A1p c1p p1]) (r : (List ((Int) × (Int) × (Int)))) (H : impl_matcher_parse.b self p0_0 p0_1 p0_2 p0_3 p1 p2 p3 p4 = some r) : GCall Try.prog 179 #[.pointer (some ⟨bp0, 0, none⟩), .slice A1p p1.length c1p, .int .i64 p2, .int .i64 p3, .int .i64 p4] s (impl_matcher_parse.post sb s F0 bp0 A0_0p c0_0p p0_0 A0_1p c0_1p p0_1 A0_2p c0_2p p0_2 A0_3p c0_3p p0_3 r) := by
 refine GCall_ofr (impl_matcher_parse.post sb s F0 bp0 A0_0p c0_0p p0_0 A0_1p c0_1p p0_1 A0_2p c0_2p p0_2 A0_3p c0_3p p0_3) [.tmp 10] (ud [.pointer (some ⟨bp0, 0, none⟩), .slice A1p p1.length c1p, .int .i64 p2, .int .i64 p3, .int .i64 p4] 128) Try.func179 rfl rfl rfl fun w Q hQr hQn hQp => ?_
 replace H := topE H
 unfold impl_matcher_parse.b at H
 dsimp only [ud, un]
 refine sr fun K1 hK1 => ag (HL_nil (hK1 _ _ ?_))
 dsimp only [putL, setL, evL, getL]
 refine sr fun K2 hK2 => mv (mv (mv ?_))
 dsimp only [putL, setL, evL, getL]
 refine mv (hc (o_build (pl := [(0, 1), (1, 1), (2, 1)]) (cs := #[.int .i64 p2, .int .i64 p3, .int .i64 p4]) Try.underlying138 tI138 (by kernel_rfl) (by kernel_rfl) rfl (hc (o_litF (K := KS138) (O := OS138) (ca := #[.int .i64 p2, .int .i64 p3, .int .i64 p4]) [[.int .i64 p2, .int .i64 p3, .int .i64 p4]] [(p2, p3, p4)] hH Try.underlying54 tI138 rfl (by decide) rfl rfl (by kernel_rfl) rfl ⟨rfl, Ent.own (Ent.pair (v1 := [.int .i64 p2]) (v2 := [.int .i64 p3, .int .i64 p4]) (x1 := p2) (x2 := (p3, p4)) (Ent.flat rfl) (Ent.pair (v1 := [.int .i64 p3]) (v2 := [.int .i64 p4]) (x1 := p3) (x2 := p4) (Ent.flat rfl) (Ent.flat rfl))), trivial⟩ ?_))))
 clear hH
 intro A3 s3 hH _
 replace H := headE H
 obtain ⟨x4, hx4, H⟩ := H
 try dsimp only [putL, setL, evL, getL]
 refine hc (o_appF (K := KS138) (n := 5864062014805) (A := A1p) (c := c1p) (xs := p1) (ys := [(p2, p3, p4)]) (B := A3) (c2 := 1) hH 1 rfl rfl rfl rfl Try.underlying54 tI138 rfl (by decide) (by decide) (by decide) (Src.flat (hH.rd 2 rfl)) hx4 ?_)
 clear hH
 intro A4 c4 s4 hH
 refine ag (HL_nil (hK2 _ _ ?_))
 dsimp only [putL, setL, evL, getL]
 refine sr fun K5 hK5 => mv (hc (o_nilck rfl (hc (o_faddr' (ft := 105) (off := 1) rfl Try.underlying165 rfl tI105 (by decide) ?_))))
 dsimp only [putL, setL, evL, getL]
 refine hc (o_load' rfl Try.underlying105 rfl (hH.hasv 0 rfl rfl) (mv ?_))
 replace H := headE H
 obtain ⟨u6, hu6, H⟩ := H
 obtain ⟨b6, o6, cs6, hr6, hh6, hel6⟩ := Rd.elb HRp0_1 hu6
 obtain ⟨A7, c7, rfl, D7⟩ := hr6
 refine hc (hel6 s4 rfl rfl Try.underlying105 tI24 ?_)
 dsimp only [putL, setL, evL, getL]
 refine hc (o_load' rfl Try.underlying24 rfl ((hh6 hH.bs.mono) 0 _ rfl) (ag (HL_nil (hK5 _ _ ?_))))
 dsimp only [putL, setL, evL, getL]
 refine joinH H fun G8 hG8 H => ?_
 refine HT_joinK (fun l' s' => ∃ (x2315 : List ((Int) × (Int) × (Int))) (A2315 : Option Addr) (c2315 : Nat), G8 (.go x2315) = some r ∧ skim [1] l' = ([.slice A2315 x2315.length c2315], 132) ∧ Hp sb s F0 s' [Ck.ol OS138 138 A2315 c2315 x2315, Ck.ov bp0 [.slice A0_0p p0_0.length c0_0p, .slice A0_1p p0_1.length c0_1p, .slice A0_2p p0_2.length c0_2p, .slice A0_3p p0_3.length c0_3p] 165]) ?_ ?_
 ·intro K8 hK8
  refine sr fun K2316 hK2316 => mv (hc (o_nilck rfl (hc (o_faddr' (ft := 57) (off := 0) rfl Try.underlying165 rfl tI57 (by decide) ?_))))
  dsimp only [putL, setL, evL, getL]
  refine hc (o_load' rfl Try.underlying57 rfl (hH.hasv 0 rfl rfl) (mv ?_))
  replace H := headE H
  obtain ⟨u2317, hu2317, H⟩ := H
  obtain ⟨b2317, o2317, cs2317, hr2317, hh2317, hel2317⟩ := Rd.elb HRp0_0 hu2317
  obtain ⟨_, _, rfl, rfl, ⟨A2318, c2318, rfl, D2318⟩⟩ := hr2317
  refine hc (hel2317 s4 rfl rfl Try.underlying57 tI139 ?_)
  dsimp only [putL, setL, evL, getL]
  refine hc (o_faddr' (ft := 3) (off := 0) rfl Try.underlying139 rfl tI3 (by decide) (hc (o_load' rfl Try.underlying3 rfl ((hh2317 hH.bs.mono) 0 _ rfl) (HL_nil (hK2316 _ _ ?_)))))
  dsimp only [putL, setL, evL, getL]
  refine HT_block (sr fun K2319 hK2319 => (bn rfl rfl rfl (ag (HL_nil (hK2319 _ _ ?_)))))
  dsimp only [putL, setL, evL, getL]
  revert H
  refine ct rfl (fun hb2320 H => ?_) (fun hb2320 H => ?_)
  ·refine HT_seq_k fun K2321 hK2321 => sr fun K2322 hK2322 => mv (mv ?_)
   replace H := headE H
   obtain ⟨u2323, hu2323, H⟩ := H
   obtain ⟨b2323, o2323, cs2323, hr2323, hh2323, hel2323⟩ := Rd.elb D7 hu2323
   obtain rfl := hr2323
   refine hc (hel2323 s4 rfl rfl Try.underlying24 tI3 ?_)
   dsimp only [putL, setL, evL, getL]
   refine hc (o_load' rfl Try.underlying3 rfl ((hh2323 hH.bs.mono) 0 _ rfl) (mv (mv ?_)))
   replace H := headE H
   obtain ⟨u2324, hu2324, H⟩ := H
   obtain ⟨F1, hA, hB⟩ := hH.take [0] (by decide)
   dsimp only [addC, setC, rmC, selC, getC] at hA
   try dsimp only [putL, setL, evL, getL]
   refine hc (o_call (args := #[.pointer (some ⟨bp0, 0, none⟩), .int .i64 u2323, .int .i64 p3, .int .i64 p4]) Try.func178 rfl rfl rfl (impl_matcher_has.ok sb s4 F1 bp0 A0_0p c0_0p p0_0 A0_1p c0_1p p0_1 A0_2p c0_2p p0_2 A0_3p c0_3p p0_3 u2323 p3 p4 HRp0_0 HRp0_1 HRp0_2 HRp0_3 hA _ hu2324) ?_)
   rintro _ s2324 ⟨rfl, hD⟩
   replace hH := hB _ _ _ (Up.refl _ _ _) hD
   clear hD hA hB
   refine HL_nil (hK2322 _ _ ?_)
   try dsimp only [putL, setL, evL, getL]
   revert H
   refine ct rfl (fun hb2325 H => ?_) (fun hb2325 H => ?_)
   ·refine sr fun K2326 hK2326 => mv (mv (mv ?_))
    replace H := headE H
    obtain ⟨u2327, hu2327, H⟩ := H
    obtain ⟨b2327, o2327, cs2327, hr2327, hh2327, hel2327⟩ := Rd.elb D7 hu2327
    obtain rfl := hr2327
    try dsimp only [putL, setL, evL, getL]
    refine hc (hel2327 s2324 rfl rfl Try.underlying24 tI3 (hc (o_load' rfl Try.underlying3 rfl ((hh2327 hH.bs.mono) 0 _ rfl) (mv ?_))))
    dsimp only [putL, setL, evL, getL]
    refine mv ?_
    replace H := headE H
    obtain ⟨u2328, hu2328, H⟩ := H
    obtain ⟨F1, hA, hB⟩ := hH.take [3, 1] (by decide)
    dsimp only [addC, setC, rmC, selC, getC] at hA
    refine hc (o_call (args := #[.pointer (some ⟨bp0, 0, none⟩), .slice A4 x4.length c4, .int .i64 u2327, .int .i64 p3, .int .i64 p4]) Try.func179 rfl rfl rfl (ih sb s2324 F1 bp0 A0_0p c0_0p p0_0 A0_1p c0_1p p0_1 A0_2p c0_2p p0_2 A0_3p c0_3p p0_3 A4 c4 x4 u2327 p3 p4 HRp0_0 HRp0_1 HRp0_2 HRp0_3 hA _ hu2328) ?_)
    rintro _ s2328 ⟨A2329, c2329, rfl, hD⟩
    replace hH := hB _ _ _ (Up.refl _ _ _) hD
    clear hD hA hB
    refine ag (HL_nil (hK2326 _ _ ?_))
    dsimp only [putL, setL, evL, getL]
    refine HT_ret ?_
    replace H := escH (fun z hz => hG8 _ hz) H
    exact hQr _ _ [.slice A2329 u2328.length c2329] _ ⟨rfl, trivial⟩ H ⟨A2329, c2329, rfl, hH.sel [4, 5] (by decide)⟩
   ·refine HT_skip (hK2321 _ _ (sr fun K2330 hK2330 => (mv (mv (mv ?_)))))
    replace H := headE H
    obtain ⟨u2331, hu2331, H⟩ := H
    obtain ⟨b2331, o2331, cs2331, hr2331, hh2331, hel2331⟩ := Rd.elb D7 hu2331
    obtain rfl := hr2331
    try dsimp only [putL, setL, evL, getL]
    refine hc (hel2331 s2324 rfl rfl Try.underlying24 tI3 (hc (o_load' rfl Try.underlying3 rfl ((hh2331 hH.bs.mono) 0 _ rfl) (mv ?_))))
    dsimp only [putL, setL, evL, getL]
    refine mv ?_
    replace H := headE H
    obtain ⟨u2332, hu2332, H⟩ := H
    obtain ⟨F1, hA, hB⟩ := hH.take [3, 1] (by decide)
    dsimp only [addC, setC, rmC, selC, getC] at hA
    refine hc (o_call (args := #[.pointer (some ⟨bp0, 0, none⟩), .slice A4 x4.length c4, .int .i64 u2331, .int .i64 p3, .int .i64 p4]) Try.func179 rfl rfl rfl (ih sb s2324 F1 bp0 A0_0p c0_0p p0_0 A0_1p c0_1p p0_1 A0_2p c0_2p p0_2 A0_3p c0_3p p0_3 A4 c4 x4 u2331 p3 p4 HRp0_0 HRp0_1 HRp0_2 HRp0_3 hA _ hu2332) ?_)
    rintro _ s2332 ⟨A2333, c2333, rfl, hD⟩
    replace hH := hB _ _ _ (Up.refl _ _ _) hD
    clear hD hA hB
    refine ag (HL_nil (hK2330 _ _ ?_))
    dsimp only [putL, setL, evL, getL]
    refine HT_ret ?_
    replace H := escH (fun z hz => hG8 _ hz) H
    exact hQr _ _ [.slice A2333 u2332.length c2333] _ ⟨rfl, trivial⟩ H ⟨A2333, c2333, rfl, hH.sel [4, 5] (by decide)⟩
  ·refine sr fun K2334 hK2334 => bn rfl rfl rfl (ag (HL_nil (hK2334 _ _ ?_)))
   dsimp only [putL, setL, evL, getL]
   revert H
   refine ct rfl (fun hb2335 H => ?_) (fun hb2335 H => ?_)
   ·refine sr fun K2336 hK2336 => mv (ag (HL_nil (hK2336 _ _ ?_)))
    dsimp only [putL, setL, evL, getL]
    refine joinH H fun G2337 hG2337 H => ?_
    refine HT_joinK (fun l' s' => ∃ (x2431 : Int), G2337 x2431 = some r ∧ skim [0, 0, 1, 0, 6, 0] l' = ([.pointer (some ⟨bp0, 0, none⟩), .slice A4 x4.length c4, .int .i64 p3, .int .i64 p4, .slice A7 u6.length c7, .int .i64 x2431], 121) ∧ Hp sb s F0 s' [Ck.ol OS138 138 A4 c4 x4, Ck.ov bp0 [.slice A0_0p p0_0.length c0_0p, .slice A0_1p p0_1.length c0_1p, .slice A0_2p p0_2.length c0_2p, .slice A0_3p p0_3.length c0_3p] 165]) ?_ ?_
    ·intro K2337 hK2337
     refine HT_block ?_
     refine HT_loopK (fun kf l' s' => ∃ (x2462 : Int), (impl_matcher_parse.l1 p0_0 p0_1 p0_2 p0_3 p3 p4 u6 kf x2462).bind G2337 = some r ∧ skim [0, 0, 1, 0, 6, 0] l' = ([.pointer (some ⟨bp0, 0, none⟩), .slice A4 x4.length c4, .int .i64 p3, .int .i64 p4, .slice A7 u6.length c7, .int .i64 x2462], 121) ∧ Hp sb s F0 s' [Ck.ol OS138 138 A4 c4 x4, Ck.ov bp0 [.slice A0_0p p0_0.length c0_0p, .slice A0_1p p0_1.length c0_1p, .slice A0_2p p0_2.length c0_2p, .slice A0_3p p0_3.length c0_3p] 165]) (p4.toNat + 2) ⟨p4, H, rfl, hH.sel [1, 0] (by decide)⟩ ?_
     rintro kf l' s2494 ⟨x2462, H, hl, hH⟩ K2494 hK2494
     revert l'
     refine skA ?_
     dsimp only [Al, Sk]
     intros
     cases kf with
     | zero => simp [impl_matcher_parse.l1] at H
     | succ kf =>
      rw [impl_matcher_parse.l1] at H
      refine HT_seq_k fun K2510 hK2510 => ?_
      refine joinH H fun G2511 hG2511 H => ?_
      refine HT_joinK (fun l' s' => ∃ (x2517 : Bool), G2511 x2517 = some r ∧ skim [0, 0, 1, 0, 6, 0, 68] l' = ([.pointer (some ⟨bp0, 0, none⟩), .slice A4 x4.length c4, .int .i64 p3, .int .i64 p4, .slice A7 u6.length c7, .int .i64 x2462, .bool x2517], 52) ∧ Hp sb s F0 s' [Ck.ol OS138 138 A4 c4 x4, Ck.ov bp0 [.slice A0_0p p0_0.length c0_0p, .slice A0_1p p0_1.length c0_1p, .slice A0_2p p0_2.length c0_2p, .slice A0_3p p0_3.length c0_3p] 165]) ?_ ?_
      ·intro K2511 hK2511
       refine HT_region ?_
       refine mv (mv ?_)
       replace H := headE H
       obtain ⟨u2518, hu2518, H⟩ := H
       obtain ⟨b2518, o2518, cs2518, hr2518, hh2518, hel2518⟩ := Rd.elb D7 hu2518
       obtain rfl := hr2518
       refine hc (hel2518 s2494 rfl rfl Try.underlying24 tI3 ?_)
       dsimp only [putL, setL, evL, getL]
       refine hc (o_load' rfl Try.underlying3 rfl ((hh2518 hH.bs.mono) 0 _ rfl) (mv (mv ?_)))
       replace H := headE H
       obtain ⟨u2519, hu2519, H⟩ := H
       obtain ⟨F1, hA, hB⟩ := hH.take [1] (by decide)
       dsimp only [addC, setC, rmC, selC, getC] at hA
       try dsimp only [putL, setL, evL, getL]
       refine hc (o_call (args := #[.pointer (some ⟨bp0, 0, none⟩), .int .i64 u2518, .int .i64 p3, .int .i64 x2462]) Try.func178 rfl rfl rfl (impl_matcher_has.ok sb s2494 F1 bp0 A0_0p c0_0p p0_0 A0_1p c0_1p p0_1 A0_2p c0_2p p0_2 A0_3p c0_3p p0_3 u2518 p3 x2462 HRp0_0 HRp0_1 HRp0_2 HRp0_3 hA _ hu2519) ?_)
       rintro _ s2519 ⟨rfl, hD⟩
       replace hH := hB _ _ _ (Up.refl _ _ _) hD
       clear hD hA hB
       refine hc (o_not rfl (mv ?_))
       revert H
       refine it (fun hb2520 H => ?_) (fun hb2520 H => ?_)
       ·refine wf rfl rfl rfl rfl hb2520 ?_
        dsimp only [putL, setL, evL, getL]
        refine wf rfl rfl rfl rfl hb2520 (wf rfl rfl rfl rfl hb2520 (wf rfl rfl rfl rfl hb2520 ?_))
        dsimp only [putL, setL, evL, getL]
        refine wf rfl rfl rfl rfl hb2520 (wf rfl rfl rfl rfl hb2520 (wf rfl rfl rfl rfl hb2520 ?_))
        dsimp only [putL, setL, evL, getL]
        refine wf rfl rfl rfl rfl hb2520 (hc (o_pickT rfl hb2520 (HL_nil ?_)))
        exact hK2511 _ _ ⟨true, H, rfl, hH.sel [0, 2] (by decide)⟩
       ·refine wt rfl rfl rfl rfl hb2520 (o_move ?_)
        dsimp only [putL, setL, evL, getL]
        refine wt rfl rfl rfl rfl hb2520 (o_move ?_)
        replace H := headE H
        obtain ⟨u2521, hu2521, H⟩ := H
        obtain ⟨b2521, o2521, cs2521, hr2521, hh2521, hel2521⟩ := Rd.elb D7 hu2521
        obtain rfl := hr2521
        refine wt rfl rfl rfl rfl hb2520 (hel2521 s2519 rfl rfl Try.underlying24 tI3 (wt rfl rfl rfl rfl hb2520 (o_load' rfl Try.underlying3 rfl ((hh2521 hH.bs.mono) 0 _ rfl) ?_)))
        dsimp only [putL, setL, evL, getL]
        refine wt rfl rfl rfl rfl hb2520 (o_move (wt rfl rfl rfl rfl hb2520 (o_move ?_)))
        replace H := headE H
        obtain ⟨u2522, hu2522, H⟩ := H
        obtain ⟨F1, hA, hB⟩ := hH.take [2] (by decide)
        dsimp only [addC, setC, rmC, selC, getC] at hA
        refine wt rfl rfl rfl rfl hb2520 (o_call (args := #[.pointer (some ⟨bp0, 0, none⟩), .int .i64 u2521, .int .i64 x2462, .int .i64 p4]) Try.func178 rfl rfl rfl (impl_matcher_has.ok sb s2519 F1 bp0 A0_0p c0_0p p0_0 A0_1p c0_1p p0_1 A0_2p c0_2p p0_2 A0_3p c0_3p p0_3 u2521 x2462 p4 HRp0_0 HRp0_1 HRp0_2 HRp0_3 hA _ hu2522) ?_)
        rintro _ s2522 ⟨rfl, hD⟩
        replace hH := hB _ _ _ (Up.refl _ _ _) hD
        clear hD hA hB
        try dsimp only [putL, setL, evL, getL]
        refine wt rfl rfl rfl rfl hb2520 (o_not rfl (hc (o_pickF rfl hb2520 (HL_nil ?_))))
        exact hK2511 _ _ ⟨!u2522, H, rfl, hH.sel [0, 3] (by decide)⟩
      ·rintro l' s2523 ⟨x2517, H, hl, hH⟩
       revert l'
       refine skA ?_
       dsimp only [Al, Sk]
       intros
       replace H := hG2511 _ H
       try dsimp only at H
       revert H
       refine ct rfl (fun hb2524 H => ?_) (fun hb2524 H => ?_)
       ·refine HT_skip (hK2510 _ _ (HT_block ?_))
        refine HT_region ?_
        refine mv ?_
        dsimp only [putL, setL, evL, getL]
        refine bn rfl rfl rfl (ag (HL_nil ?_))
        exact hK2494 _ _ ⟨kf, Nat.lt_succ_self kf, IntKind.i64.wrap (x2462 - 1), H, rfl, hH⟩
       ·refine HT_exit ?_
        exact hK2337 _ _ ⟨x2462, H, rfl, hH⟩
    ·rintro l' s2525 ⟨x2431, H, hl, hH⟩
     revert l'
     refine skA ?_
     dsimp only [Al, Sk]
     intros
     replace H := hG2337 _ H
     try dsimp only at H
     refine sx hMix fun K2526 hK2526 => ?_
     refine HX_lim (R := fun _ => True) (k := 0) (fun s' => Gro s2525 s') 8 ?_
     have hR := Gro.refl s2525
     have hH0 := hH
     try dsimp only [putL, setL, evL, getL]
     refine HK_readP 0 (v := .pointer (some ⟨bp0, 0, none⟩)) rfl (by kernel_rfl) hQp rfl (fun s' K hK => o_move hK) rfl rfl (fun _ => hR) ?_
     refine HK_readP 1 (v := .pointer (some ⟨bp0, 0, none⟩)) rfl (by kernel_rfl) hQp rfl (fun s' K hK => o_move hK) rfl rfl (fun _ => hR) ?_
     refine HK_readP 2 (v := .slice A4 x4.length c4) rfl (by kernel_rfl) hQp rfl (fun s' K hK => o_move hK) rfl rfl (fun _ => hR) ?_
     try dsimp only [putL, setL, evL, getL]
     refine HK_readP 3 (v := .slice A7 u6.length c7) rfl (by kernel_rfl) hQp rfl (fun s' K hK => o_move hK) rfl rfl (fun _ => hR) ?_
     replace H := headE H
     obtain ⟨u2527, hu2527, H⟩ := H
     obtain ⟨b2527, o2527, cs2527, hr2527, hh2527, hel2527⟩ := Rd.elb D7 hu2527
     obtain rfl := hr2527
     refine HK_readP 4 (v := .pointer (some ⟨b2527, o2527, none⟩)) rfl (by kernel_rfl) hQp rfl (fun s' K hK => hel2527 s' rfl rfl Try.underlying24 tI3 hK) rfl rfl (fun _ => hR) ?_
     refine HK_read 5 (v := .int .i64 u2527) rfl (by kernel_rfl) hQp rfl (fun s' hR' K hK => o_load' rfl Try.underlying3 rfl ((hh2527 (hH0.bs.mono.trans hR'.mono)) 0 _ rfl) hK) rfl rfl hR ?_
     try dsimp only [putL, setL, evL, getL]
     refine HK_readP 6 (v := .int .i64 p3) rfl (by kernel_rfl) hQp rfl (fun s' K hK => o_move hK) rfl rfl (fun _ => hR) ?_
     refine HK_readP 7 (v := .int .i64 x2431) rfl (by kernel_rfl) hQp rfl (fun s' K hK => o_move hK) rfl rfl (fun _ => hR) ?_
     refine HK_readP 9 (v := .slice A7 u6.length c7) rfl (by kernel_rfl) hQp rfl (fun s' K hK => o_move hK) rfl rfl (fun _ => hR) ?_
     replace H := headE H
     obtain ⟨u2528, hu2528, H⟩ := H
     obtain ⟨b2528, o2528, cs2528, hr2528, hh2528, hel2528⟩ := Rd.elb D7 hu2528
     obtain rfl := hr2528
     try dsimp only [putL, setL, evL, getL]
     refine HK_readP 10 (v := .pointer (some ⟨b2528, o2528, none⟩)) rfl (by kernel_rfl) hQp rfl (fun s' K hK => hel2528 s' rfl rfl Try.underlying24 tI3 hK) rfl rfl (fun _ => hR) ?_
     refine HK_readP 12 (v := .int .i64 x2431) rfl (by kernel_rfl) hQp rfl (fun s' K hK => o_move hK) rfl rfl (fun _ => hR) ?_
     refine HK_readP 13 (v := .int .i64 p4) rfl (by kernel_rfl) hQp rfl (fun s' K hK => o_move hK) rfl rfl (fun _ => hR) ?_
     try dsimp only [putL, setL, evL, getL]
     refine HK_more [8, 11] (by kernel_rfl) rfl (fun _ => hR) ⟨⟨_, rfl, Or.inl ⟨rfl, ?_⟩⟩, ⟨_, rfl, Or.inl ⟨rfl, ?_⟩⟩, trivial⟩
     ·replace H := headE H
      obtain ⟨u2529, hu2529, H⟩ := H
      obtain ⟨F1, hA, hB⟩ := hH.take [1, 0] (by decide)
      dsimp only [addC, setC, rmC, selC, getC] at hA
      skip
      refine o_call (args := #[.pointer (some ⟨bp0, 0, none⟩), .slice A4 x4.length c4, .int .i64 u2527, .int .i64 p3, .int .i64 x2431]) Try.func179 rfl rfl rfl (ih sb s2525 F1 bp0 A0_0p c0_0p p0_0 A0_1p c0_1p p0_1 A0_2p c0_2p p0_2 A0_3p c0_3p p0_3 A4 c4 x4 u2527 p3 x2431 HRp0_0 HRp0_1 HRp0_2 HRp0_3 hA _ hu2529) ?_
      rintro _ s2529 ⟨A2530, c2530, rfl, hD⟩
      replace hH := hB _ _ _ (Up.refl _ _ _) hD
      clear hD hA hB
      refine HK_free (by kernel_rfl) ?_
      refine HX_lim (R := fun _ => True) (k := 0) (fun s' => Gro s2529 s') 14 ?_
      have hR := Gro.refl s2529
      have hH0 := hH
      try dsimp only [putL, setL, evL, getL]
      refine HK_read 11 (v := .int .i64 u2528) rfl (by kernel_rfl) hQp rfl (fun s' hR' K hK => o_load' rfl Try.underlying3 rfl ((hh2528 (hH0.bs.mono.trans hR'.mono)) 0 _ rfl) hK) rfl rfl hR ?_
      refine HK_more [14] (by kernel_rfl) rfl (fun _ => hR) ⟨⟨_, rfl, Or.inl ⟨rfl, ?_⟩⟩, trivial⟩
      replace H := headE H
      obtain ⟨u2531, hu2531, H⟩ := H
      obtain ⟨F1, hA, hB⟩ := hH.take [3, 2] (by decide)
      dsimp only [addC, setC, rmC, selC, getC] at hA
      skip
      refine o_call (args := #[.pointer (some ⟨bp0, 0, none⟩), .slice A2530 u2529.length c2530, .int .i64 u2528, .int .i64 x2431, .int .i64 p4]) Try.func179 rfl rfl rfl (ih sb s2529 F1 bp0 A0_0p c0_0p p0_0 A0_1p c0_1p p0_1 A0_2p c0_2p p0_2 A0_3p c0_3p p0_3 A2530 c2530 u2529 u2528 x2431 p4 HRp0_0 HRp0_1 HRp0_2 HRp0_3 hA _ hu2531) ?_
      rintro _ s2531 ⟨A2532, c2532, rfl, hD⟩
      replace hH := hB _ _ _ (Up.refl _ _ _) hD
      clear hD hA hB
      refine HK_free (by kernel_rfl) ?_
      try dsimp only [putL, setL, evL, getL]
      refine HX_lim (R := fun _ => True) (k := 0) (fun s' => Gro s2531 s') 17 ?_
      have hR := Gro.refl s2531
      have hH0 := hH
      refine HK_more [15] (by kernel_rfl) rfl (fun _ => hR) ⟨⟨_, rfl, Or.inl ⟨rfl, ?_⟩⟩, trivial⟩
      skip
      refine o_assign ?_
      refine HK_done (fun _ => hR) (by kernel_rfl) ?_
      refine hK2526 _ _ ?_
      try dsimp only [putL, setL, evL, getL]
      refine HT_ret ?_
      replace H := escH (fun z hz => hG8 _ hz) H
      exact hQr _ _ [.slice A2532 u2531.length c2532] _ ⟨rfl, trivial⟩ H ⟨A2532, c2532, rfl, hH.sel [4, 5] (by decide)⟩
     ·skip
      refine o_load' rfl Try.underlying3 rfl ((hh2528 hH.bs.mono) 0 _ rfl) ?_
      refine HK_more [8] (by kernel_rfl) rfl (fun _ => hR) ⟨⟨_, rfl, Or.inl ⟨rfl, ?_⟩⟩, trivial⟩
      replace H := headE H
      obtain ⟨u2533, hu2533, H⟩ := H
      obtain ⟨F1, hA, hB⟩ := hH.take [1, 0] (by decide)
      dsimp only [addC, setC, rmC, selC, getC] at hA
      skip
      refine o_call (args := #[.pointer (some ⟨bp0, 0, none⟩), .slice A4 x4.length c4, .int .i64 u2527, .int .i64 p3, .int .i64 x2431]) Try.func179 rfl rfl rfl (ih sb s2525 F1 bp0 A0_0p c0_0p p0_0 A0_1p c0_1p p0_1 A0_2p c0_2p p0_2 A0_3p c0_3p p0_3 A4 c4 x4 u2527 p3 x2431 HRp0_0 HRp0_1 HRp0_2 HRp0_3 hA _ hu2533) ?_
      rintro _ s2533 ⟨A2534, c2534, rfl, hD⟩
      replace hH := hB _ _ _ (Up.refl _ _ _) hD
      clear hD hA hB
      refine HK_free (by kernel_rfl) ?_
      refine HX_lim (R := fun _ => True) (k := 0) (fun s' => Gro s2533 s') 14 ?_
      have hR := Gro.refl s2533
      have hH0 := hH
      try dsimp only [putL, setL, evL, getL]
      refine HK_more [14] (by kernel_rfl) rfl (fun _ => hR) ⟨⟨_, rfl, Or.inl ⟨rfl, ?_⟩⟩, trivial⟩
      replace H := headE H
      obtain ⟨u2535, hu2535, H⟩ := H
      obtain ⟨F1, hA, hB⟩ := hH.take [3, 2] (by decide)
      dsimp only [addC, setC, rmC, selC, getC] at hA
      skip
      refine o_call (args := #[.pointer (some ⟨bp0, 0, none⟩), .slice A2534 u2533.length c2534, .int .i64 u2528, .int .i64 x2431, .int .i64 p4]) Try.func179 rfl rfl rfl (ih sb s2533 F1 bp0 A0_0p c0_0p p0_0 A0_1p c0_1p p0_1 A0_2p c0_2p p0_2 A0_3p c0_3p p0_3 A2534 c2534 u2533 u2528 x2431 p4 HRp0_0 HRp0_1 HRp0_2 HRp0_3 hA _ hu2535) ?_
      rintro _ s2535 ⟨A2536, c2536, rfl, hD⟩
      replace hH := hB _ _ _ (Up.refl _ _ _) hD
      clear hD hA hB
      refine HK_free (by kernel_rfl) ?_
      refine HX_lim (R := fun _ => True) (k := 0) (fun s' => Gro s2535 s') 17 ?_
      have hR := Gro.refl s2535
      have hH0 := hH
      try dsimp only [putL, setL, evL, getL]
      refine HK_more [15] (by kernel_rfl) rfl (fun _ => hR) ⟨⟨_, rfl, Or.inl ⟨rfl, ?_⟩⟩, trivial⟩
      skip
      refine o_assign ?_
      refine HK_done (fun _ => hR) (by kernel_rfl) ?_
      refine hK2526 _ _ ?_
      try dsimp only [putL, setL, evL, getL]
      refine HT_ret ?_
      replace H := escH (fun z hz => hG8 _ hz) H
      exact hQr _ _ [.slice A2536 u2535.length c2536] _ ⟨rfl, trivial⟩ H ⟨A2536, c2536, rfl, hH.sel [4, 5] (by decide)⟩
   ·refine sr fun K2537 hK2537 => bn rfl rfl rfl (ag (HL_nil (hK2537 _ _ ?_)))
    dsimp only [putL, setL, evL, getL]
    revert H
    refine ct rfl (fun hb2538 H => ?_) (fun hb2538 H => ?_)
    ·refine joinH H fun G2539 hG2539 H => ?_
     refine HT_toK (fun l' s' => ∃ (x3580 : List ((Int) × (Int) × (Int))) (A3580 : Option Addr) (c3580 : Nat), G2539 x3580 = some r ∧ skim [1] l' = ([.slice A3580 x3580.length c3580], 132) ∧ Hp sb s F0 s' [Ck.ol OS138 138 A3580 c3580 x3580, Ck.ov bp0 [.slice A0_0p p0_0.length c0_0p, .slice A0_1p p0_1.length c0_1p, .slice A0_2p p0_2.length c0_2p, .slice A0_3p p0_3.length c0_3p] 165]) ?_ ?_
     ·intro K2539 hK2539
      refine HT_block ?_
      refine HT_loopK (fun kf l' s' => ∃ (x3926 : List ((Int) × (Int) × (Int))) (A3926 : Option Addr) (c3926 : Nat) (x3927 : Int), (impl_matcher_parse.l2 p0_0 p0_1 p0_2 p0_3 p2 p4 self u6 kf x3926 x3927).bind G2539 = some r ∧ skim [0, 0, 0, 0, 0, 6] l' = ([.pointer (some ⟨bp0, 0, none⟩), .slice A3926 x3926.length c3926, .int .i64 p2, .int .i64 x3927, .int .i64 p4, .slice A7 u6.length c7], 122) ∧ Hp sb s F0 s' [Ck.ol OS138 138 A3926 c3926 x3926, Ck.ov bp0 [.slice A0_0p p0_0.length c0_0p, .slice A0_1p p0_1.length c0_1p, .slice A0_2p p0_2.length c0_2p, .slice A0_3p p0_3.length c0_3p] 165]) (p4.toNat + 2) ⟨x4, A4, c4, p3, H, rfl, hH.sel [1, 0] (by decide)⟩ ?_
      rintro kf l' s4275 ⟨x3926, A3926, c3926, x3927, H, hl, hH⟩ K4275 hK4275
      revert l'
      refine skA ?_
      dsimp only [Al, Sk]
      intros
      cases kf with
      | zero => simp [impl_matcher_parse.l2] at H
      | succ kf =>
       rw [impl_matcher_parse.l2] at H
       refine HT_seq_k fun K4276 hK4276 => sr fun K4277 hK4277 => mv (mv (bn rfl rfl rfl (HL_nil (hK4277 _ _ ?_))))
       dsimp only [putL, setL, evL, getL]
       revert H
       refine ct rfl (fun hb4278 H => ?_) (fun hb4278 H => ?_)
       ·refine HT_skip (hK4276 _ _ ?_)
        refine joinH H fun G4279 hG4279 H => ?_
        refine HT_toK (fun l' s' => ∃ (x4449 : List ((Int) × (Int) × (Int))) (A4449 : Option Addr) (c4449 : Nat) (x4450 : Int), G4279 (x4449, x4450) = some r ∧ skim [0, 0, 0, 0, 0, 6] l' = ([.pointer (some ⟨bp0, 0, none⟩), .slice A4449 x4449.length c4449, .int .i64 p2, .int .i64 x4450, .int .i64 p4, .slice A7 u6.length c7], 122) ∧ Hp sb s F0 s' [Ck.ol OS138 138 A4449 c4449 x4449, Ck.ov bp0 [.slice A0_0p p0_0.length c0_0p, .slice A0_1p p0_1.length c0_1p, .slice A0_2p p0_2.length c0_2p, .slice A0_3p p0_3.length c0_3p] 165]) ?_ ?_
        ·intro K4279 hK4279
         refine HT_block (sr fun K4451 hK4451 => (mv (ag (HL_nil (hK4451 _ _ ?_)))))
         dsimp only [putL, setL, evL, getL]
         refine joinH H fun G4452 hG4452 H => ?_
         refine HT_joinK (fun l' s' => ∃ (x4534 : Int), G4452 x4534 = some r ∧ skim [0, 0, 0, 0, 0, 6, 1] l' = ([.pointer (some ⟨bp0, 0, none⟩), .slice A3926 x3926.length c3926, .int .i64 p2, .int .i64 x3927, .int .i64 p4, .slice A7 u6.length c7, .int .i64 x4534], 120) ∧ Hp sb s F0 s' [Ck.ol OS138 138 A3926 c3926 x3926, Ck.ov bp0 [.slice A0_0p p0_0.length c0_0p, .slice A0_1p p0_1.length c0_1p, .slice A0_2p p0_2.length c0_2p, .slice A0_3p p0_3.length c0_3p] 165]) ?_ ?_
         ·intro K4452 hK4452
          refine HT_block ?_
          refine HT_loopK (fun kf l' s' => ∃ (x4561 : Int), (impl_matcher_parse.l3 p0_0 p0_1 p0_2 p0_3 p2 p4 u6 x3927 kf x4561).bind G4452 = some r ∧ skim [0, 0, 0, 0, 0, 6, 1] l' = ([.pointer (some ⟨bp0, 0, none⟩), .slice A3926 x3926.length c3926, .int .i64 p2, .int .i64 x3927, .int .i64 p4, .slice A7 u6.length c7, .int .i64 x4561], 120) ∧ Hp sb s F0 s' [Ck.ol OS138 138 A3926 c3926 x3926, Ck.ov bp0 [.slice A0_0p p0_0.length c0_0p, .slice A0_1p p0_1.length c0_1p, .slice A0_2p p0_2.length c0_2p, .slice A0_3p p0_3.length c0_3p] 165]) (p4.toNat + 2) ⟨p4, H, rfl, hH⟩ ?_
          rintro kf l' s4589 ⟨x4561, H, hl, hH⟩ K4589 hK4589
          revert l'
          refine skA ?_
          dsimp only [Al, Sk]
          intros
          cases kf with
          | zero => simp [impl_matcher_parse.l3] at H
          | succ kf =>
           rw [impl_matcher_parse.l3] at H
           refine HT_seq_k fun K4603 hK4603 => ?_
           refine joinH H fun G4604 hG4604 H => ?_
           refine HT_joinK (fun l' s' => ∃ (x4609 : Bool), G4604 x4609 = some r ∧ skim [0, 0, 0, 0, 0, 6, 1, 106] l' = ([.pointer (some ⟨bp0, 0, none⟩), .slice A3926 x3926.length c3926, .int .i64 p2, .int .i64 x3927, .int .i64 p4, .slice A7 u6.length c7, .int .i64 x4561, .bool x4609], 13) ∧ Hp sb s F0 s' [Ck.ol OS138 138 A3926 c3926 x3926, Ck.ov bp0 [.slice A0_0p p0_0.length c0_0p, .slice A0_1p p0_1.length c0_1p, .slice A0_2p p0_2.length c0_2p, .slice A0_3p p0_3.length c0_3p] 165]) ?_ ?_
           ·intro K4604 hK4604
            refine HT_region ?_
            refine mv (mv ?_)
            replace H := headE H
            obtain ⟨u4610, hu4610, H⟩ := H
            obtain ⟨b4610, o4610, cs4610, hr4610, hh4610, hel4610⟩ := Rd.elb D7 hu4610
            obtain rfl := hr4610
            refine hc (hel4610 s4589 rfl rfl Try.underlying24 tI3 ?_)
            dsimp only [putL, setL, evL, getL]
            refine hc (o_load' rfl Try.underlying3 rfl ((hh4610 hH.bs.mono) 0 _ rfl) (mv (mv ?_)))
            replace H := headE H
            obtain ⟨u4611, hu4611, H⟩ := H
            obtain ⟨F1, hA, hB⟩ := hH.take [1] (by decide)
            dsimp only [addC, setC, rmC, selC, getC] at hA
            try dsimp only [putL, setL, evL, getL]
            refine hc (o_call (args := #[.pointer (some ⟨bp0, 0, none⟩), .int .i64 u4610, .int .i64 x3927, .int .i64 x4561]) Try.func178 rfl rfl rfl (impl_matcher_has.ok sb s4589 F1 bp0 A0_0p c0_0p p0_0 A0_1p c0_1p p0_1 A0_2p c0_2p p0_2 A0_3p c0_3p p0_3 u4610 x3927 x4561 HRp0_0 HRp0_1 HRp0_2 HRp0_3 hA _ hu4611) ?_)
            rintro _ s4611 ⟨rfl, hD⟩
            replace hH := hB _ _ _ (Up.refl _ _ _) hD
            clear hD hA hB
            refine hc (o_not rfl (mv ?_))
            revert H
            refine it (fun hb4612 H => ?_) (fun hb4612 H => ?_)
            ·refine wf rfl rfl rfl rfl hb4612 ?_
             dsimp only [putL, setL, evL, getL]
             refine wf rfl rfl rfl rfl hb4612 (wf rfl rfl rfl rfl hb4612 (wf rfl rfl rfl rfl hb4612 ?_))
             dsimp only [putL, setL, evL, getL]
             refine wf rfl rfl rfl rfl hb4612 (wf rfl rfl rfl rfl hb4612 (hc (o_pickT rfl hb4612 (HL_nil ?_))))
             exact hK4604 _ _ ⟨true, H, rfl, hH.sel [0, 2] (by decide)⟩
            ·refine wt rfl rfl rfl rfl hb4612 (o_move ?_)
             dsimp only [putL, setL, evL, getL]
             refine wt rfl rfl rfl rfl hb4612 (o_move (wt rfl rfl rfl rfl hb4612 (o_move (wt rfl rfl rfl rfl hb4612 (o_move ?_)))))
             replace H := headE H
             obtain ⟨u4613, hu4613, H⟩ := H
             obtain ⟨F1, hA, hB⟩ := hH.take [2] (by decide)
             dsimp only [addC, setC, rmC, selC, getC] at hA
             try dsimp only [putL, setL, evL, getL]
             refine wt rfl rfl rfl rfl hb4612 (o_call (args := #[.pointer (some ⟨bp0, 0, none⟩), .int .i64 p2, .int .i64 x4561, .int .i64 p4]) Try.func178 rfl rfl rfl (impl_matcher_has.ok sb s4611 F1 bp0 A0_0p c0_0p p0_0 A0_1p c0_1p p0_1 A0_2p c0_2p p0_2 A0_3p c0_3p p0_3 p2 x4561 p4 HRp0_0 HRp0_1 HRp0_2 HRp0_3 hA _ hu4613) ?_)
             rintro _ s4613 ⟨rfl, hD⟩
             replace hH := hB _ _ _ (Up.refl _ _ _) hD
             clear hD hA hB
             refine wt rfl rfl rfl rfl hb4612 (o_not rfl (hc (o_pickF rfl hb4612 (HL_nil ?_))))
             exact hK4604 _ _ ⟨!u4613, H, rfl, hH.sel [0, 3] (by decide)⟩
           ·rintro l' s4614 ⟨x4609, H, hl, hH⟩
            revert l'
            refine skA ?_
            dsimp only [Al, Sk]
            intros
            replace H := hG4604 _ H
            try dsimp only at H
            revert H
            refine ct rfl (fun hb4615 H => ?_) (fun hb4615 H => ?_)
            ·refine HT_skip (hK4603 _ _ (HT_block ?_))
             refine HT_region ?_
             try dsimp only [putL, setL, evL, getL]
             refine mv (bn rfl rfl rfl (ag (HL_nil ?_)))
             exact hK4589 _ _ ⟨kf, Nat.lt_succ_self kf, IntKind.i64.wrap (x4561 - 1), H, rfl, hH⟩
            ·refine HT_exit ?_
             exact hK4452 _ _ ⟨x4561, H, rfl, hH⟩
         ·rintro l' s4616 ⟨x4534, H, hl, hH⟩
          revert l'
          refine skA ?_
          dsimp only [Al, Sk]
          intros
          replace H := hG4452 _ H
          try dsimp only at H
          refine HT_region ?_
          try dsimp only [putL, setL, evL, getL]
          refine mv (mv (mv ?_))
          replace H := headE H
          obtain ⟨u4617, hu4617, H⟩ := H
          obtain ⟨b4617, o4617, cs4617, hr4617, hh4617, hel4617⟩ := Rd.elb D7 hu4617
          obtain rfl := hr4617
          try dsimp only [putL, setL, evL, getL]
          refine hc (hel4617 s4616 rfl rfl Try.underlying24 tI3 (hc (o_load' rfl Try.underlying3 rfl ((hh4617 hH.bs.mono) 0 _ rfl) (mv ?_))))
          dsimp only [putL, setL, evL, getL]
          refine mv ?_
          replace H := headE H
          obtain ⟨u4618, hu4618, H⟩ := H
          obtain ⟨F1, hA, hB⟩ := hH.take [1, 0] (by decide)
          dsimp only [addC, setC, rmC, selC, getC] at hA
          refine hc (o_call (args := #[.pointer (some ⟨bp0, 0, none⟩), .slice A3926 x3926.length c3926, .int .i64 u4617, .int .i64 x3927, .int .i64 x4534]) Try.func179 rfl rfl rfl (ih sb s4616 F1 bp0 A0_0p c0_0p p0_0 A0_1p c0_1p p0_1 A0_2p c0_2p p0_2 A0_3p c0_3p p0_3 A3926 c3926 x3926 u4617 x3927 x4534 HRp0_0 HRp0_1 HRp0_2 HRp0_3 hA _ hu4618) ?_)
          rintro _ s4618 ⟨A4619, c4619, rfl, hD⟩
          replace hH := hB _ _ _ (Up.refl _ _ _) hD
          clear hD hA hB
          refine mv ?_
          dsimp only [putL, setL, evL, getL]
          refine ag (ag (HL_nil ?_))
          exact hK4279 _ _ ⟨u4618, A4619, c4619, x4534, H, rfl, hH.sel [2, 3] (by decide)⟩
        ·rintro l' s4620 ⟨x4449, A4449, c4449, x4450, H, hl, hH⟩
         revert l'
         refine skA ?_
         dsimp only [Al, Sk]
         intros
         replace H := hG4279 _ H
         try dsimp only at H
         exact hK4275 _ _ ⟨kf, Nat.lt_succ_self kf, x4449, A4449, c4449, x4450, H, rfl, hH⟩
       ·refine HT_exit ?_
        exact hK2539 _ _ ⟨x3926, A3926, c3926, H, rfl, hH⟩
     ·rintro l' s4621 ⟨x3580, A3580, c3580, H, hl, hH⟩
      revert l'
      refine skA ?_
      dsimp only [Al, Sk]
      intros
      replace H := hG2539 _ H
      try dsimp only at H
      exact hK8 _ _ ⟨x3580, A3580, c3580, H, rfl, hH⟩
    ·refine HT_skip ?_
     exact hK8 _ _ ⟨x4, A4, c4, H, rfl, hH.sel [1, 0] (by decide)⟩
 ·rintro l' s4622 ⟨x2315, A2315, c2315, H, hl, hH⟩
  revert l'
  refine skA ?_
  dsimp only [Al, Sk]
  intros
  replace H := hG8 _ H
  try dsimp only at H
  refine sr fun K4623 hK4623 => mv ?_
  dsimp only [putL, setL, evL, getL]
  refine ag (HL_nil (hK4623 _ _ ?_))
  dsimp only [putL, setL, evL, getL]
  refine HT_ret ?_
  exact hQr _ _ [.slice A2315 x2315.length c2315] _ ⟨rfl, trivial⟩ H ⟨A2315, c2315, rfl, hH⟩
theorem impl_matcher_parse.okr : ∀ (kr : Nat) (sb s : St) (F0 : Fp) (bp0 : Nat) (A0_0p : Option Addr) (c0_0p : Nat) (p0_0 : List ((Int) × (List (Int)))) (A0_1p : Option Addr) (c0_1p : Nat) (p0_1 : List (List (Int))) (A0_2p : Option Addr) (c0_2p : Nat) (p0_2 : List (Int)) (A0_3p : Option Addr) (c0_3p : Nat) (p0_3 : List (List (List (Bool)))) (A1p : Option Addr) (c1p : Nat) (p1 : List ((Int) × (Int) × (Int))) (p2 : Int) (p3 : Int) (p4 : Int) (HRp0_0 : Rd KS139 sb A0_0p c0_0p p0_0) (HRp0_1 : Rd (Kd.sl KI) sb A0_1p c0_1p p0_1) (HRp0_2 : Rd KI sb A0_2p c0_2p p0_2) (HRp0_3 : Rd (Kd.sl (Kd.sl Kd.bool)) sb A0_3p c0_3p p0_3) (hH : Hp sb s F0 s [Ck.ov bp0 [.slice A0_0p p0_0.length c0_0p, .slice A0_1p p0_1.length c0_1p, .slice A0_2p p0_2.length c0_2p, .slice A0_3p p0_3.length c0_3p] 165, Ck.ol OS138 138 A1p c1p p1]) (r : (List ((Int) × (Int) × (Int)))) (H : impl_matcher_parse.r kr p0_0 p0_1 p0_2 p0_3 p1 p2 p3 p4 = some r), GCall Try.prog 179 #[.pointer (some ⟨bp0, 0, none⟩), .slice A1p p1.length c1p, .int .i64 p2, .int .i64 p3, .int .i64 p4] s (impl_matcher_parse.post sb s F0 bp0 A0_0p c0_0p p0_0 A0_1p c0_1p p0_1 A0_2p c0_2p p0_2 A0_3p c0_3p p0_3 r)
 | 0, sb, s, F0, bp0, A0_0p, c0_0p, p0_0, A0_1p, c0_1p, p0_1, A0_2p, c0_2p, p0_2, A0_3p, c0_3p, p0_3, A1p, c1p, p1, p2, p3, p4, HRp0_0, HRp0_1, HRp0_2, HRp0_3, hH, r, H => by cases H
 | kr + 1, sb, s, F0, bp0, A0_0p, c0_0p, p0_0, A0_1p, c0_1p, p0_1, A0_2p, c0_2p, p0_2, A0_3p, c0_3p, p0_3, A1p, c1p, p1, p2, p3, p4, HRp0_0, HRp0_1, HRp0_2, HRp0_3, hH, r, H => impl_matcher_parse.okb (impl_matcher_parse.r kr) (impl_matcher_parse.okr kr) sb s F0 bp0 A0_0p c0_0p p0_0 A0_1p c0_1p p0_1 A0_2p c0_2p p0_2 A0_3p c0_3p p0_3 A1p c1p p1 p2 p3 p4 HRp0_0 HRp0_1 HRp0_2 HRp0_3 hH r H
theorem impl_matcher_parse.ok (sb s : St) (F0 : Fp) (bp0 : Nat) (A0_0p : Option Addr) (c0_0p : Nat) (p0_0 : List ((Int) × (List (Int)))) (A0_1p : Option Addr) (c0_1p : Nat) (p0_1 : List (List (Int))) (A0_2p : Option Addr) (c0_2p : Nat) (p0_2 : List (Int)) (A0_3p : Option Addr) (c0_3p : Nat) (p0_3 : List (List (List (Bool)))) (A1p : Option Addr) (c1p : Nat) (p1 : List ((Int) × (Int) × (Int))) (p2 : Int) (p3 : Int) (p4 : Int) (HRp0_0 : Rd KS139 sb A0_0p c0_0p p0_0) (HRp0_1 : Rd (Kd.sl KI) sb A0_1p c0_1p p0_1) (HRp0_2 : Rd KI sb A0_2p c0_2p p0_2) (HRp0_3 : Rd (Kd.sl (Kd.sl Kd.bool)) sb A0_3p c0_3p p0_3) (hH : Hp sb s F0 s [Ck.ov bp0 [.slice A0_0p p0_0.length c0_0p, .slice A0_1p p0_1.length c0_1p, .slice A0_2p p0_2.length c0_2p, .slice A0_3p p0_3.length c0_3p] 165, Ck.ol OS138 138 A1p c1p p1]) (r : (List ((Int) × (Int) × (Int)))) (H : impl_matcher_parse.f p0_0 p0_1 p0_2 p0_3 p1 p2 p3 p4 = some r) : GCall Try.prog 179 #[.pointer (some ⟨bp0, 0, none⟩), .slice A1p p1.length c1p, .int .i64 p2, .int .i64 p3, .int .i64 p4] s (impl_matcher_parse.post sb s F0 bp0 A0_0p c0_0p p0_0 A0_1p c0_1p p0_1 A0_2p c0_2p p0_2 A0_3p c0_3p p0_3 r) := impl_matcher_parse.okr _ sb s F0 bp0 A0_0p c0_0p p0_0 A0_1p c0_1p p0_1 A0_2p c0_2p p0_2 A0_3p c0_3p p0_3 A1p c1p p1 p2 p3 p4 HRp0_0 HRp0_1 HRp0_2 HRp0_3 hH r H
def impl_ParseOf.f (p0 : List ((Int) × (List (Int)))) (p1 : List (Int)) : Option ((List ((Int) × (Int) × (Int))) × Bool) := (impl_canParse.f p0 p1).bind fun u4 => if (!u4) = true then (some ([], false)) else ((impl_match.f p0 p1).bind fun u8 => (impl_matcher_has.f u8.1 u8.2.1 u8.2.2.1 u8.2.2.2 (IntKind.i64.wrap ((p0.length : Int) - 1)) 0 (p1.length : Int)).bind fun u16 => if (!u16) = true then (some ([], false)) else ((impl_matcher_parse.f u8.1 u8.2.1 u8.2.2.1 u8.2.2.2 ([] : List ((Int) × (Int) × (Int))) (IntKind.i64.wrap ((p0.length : Int) - 1)) 0 (p1.length : Int)).bind fun u20 => some (u20, true)))
def impl_ParseOf.post (sb s : St) (F0 : Fp) (r : (List ((Int) × (Int) × (Int))) × Bool) : Value → St → Prop := fun v s' => ∃ (A0 : Option Addr) (c0 : Nat), v = .tuple #[.slice A0 r.1.length c0, .bool r.2] ∧ Hp sb s F0 s' [Ck.ol OS138 138 A0 c0 r.1]
set_option maxRecDepth 100000 in
set_option maxHeartbeats 4000000 in
theorem impl_ParseOf.ok (sb s : St) (F0 : Fp) (A0p : Option Addr) (c0p : Nat) (p0 : List ((Int) × (List (Int)))) (A1p : Option Addr) (c1p : Nat) (p1 : List (Int)) (HRp0 : Rd KS139 sb A0p c0p p0) (HRp1 : Rd KI sb A1p c1p p1) (hH : Hp sb s F0 s []) (r : (List ((Int) × (Int) × (Int))) × Bool) (H : impl_ParseOf.f p0 p1 = some r) : GCall Try.prog 92 #[.slice A0p p0.length c0p, .slice A1p p1.length c1p] s (impl_ParseOf.post sb s F0 r) := by
 refine GCall_ofr (impl_ParseOf.post sb s F0) [.tmp 4, .tmp 5] (ud [.slice A0p p0.length c0p, .slice A1p p1.length c1p] 27) Try.func92 rfl rfl rfl fun w Q hQr hQn hQp => ?_
 replace H := topE H
 unfold impl_ParseOf.f at H
 dsimp only [ud, un]
 refine sr fun K1 hK1 => ag (ag (HL_nil (hK1 _ _ ?_)))
 dsimp only [putL, setL, evL, getL]
 refine HT_seq_k fun K2 hK2 => sr fun K3 hK3 => mv (mv ?_)
 replace H := headE H
 obtain ⟨u4, hu4, H⟩ := H
 refine hc (o_call (args := #[.slice A0p p0.length c0p, .slice A1p p1.length c1p]) Try.func152 rfl rfl rfl (impl_canParse.ok sb s no A0p c0p p0 A1p c1p p1 HRp0 HRp1 (Hp.own hH.bs) _ hu4) ?_)
 rintro _ s4 ⟨rfl, hD⟩
 replace hH := hH.back0 hD (Up.refl _ _ _)
 clear hD
 try dsimp only [putL, setL, evL, getL]
 refine hc (o_not rfl (HL_nil (hK3 _ _ ?_)))
 dsimp only [putL, setL, evL, getL]
 revert H
 refine ct rfl (fun hb5 H => ?_) (fun hb5 H => ?_)
 ·refine sr fun K6 hK6 => ag (ag (HL_nil (hK6 _ _ ?_)))
  dsimp only [putL, setL, evL, getL]
  refine HT_ret ?_
  exact hQr _ _ [.slice none 0 0, .bool false] _ ⟨rfl, rfl, trivial⟩ H ⟨none, 0, rfl, (hH.nil (K := KS138) OS138 138)⟩
 ·refine HT_skip (hK2 _ _ (sr fun K7 hK7 => (mv (mv ?_))))
  replace H := headE H
  obtain ⟨u8, hu8, H⟩ := H
  refine hc (o_call (args := #[.slice A0p p0.length c0p, .slice A1p p1.length c1p]) Try.func177 rfl rfl rfl (impl_match.ok sb s4 no A0p c0p p0 A1p c1p p1 HRp0 HRp1 (Hp.own hH.bs) _ hu8) ?_)
  rintro _ s8 ⟨b9, A10, c10, A11, c11, A12, c12, A13, c13, rfl, hD, D10, D12⟩
  replace hH := hH.back0 hD (Up.refl _ _ _)
  clear hD
  try dsimp only [putL, setL, evL, getL]
  refine ag (HL_nil (hK7 _ _ ?_))
  dsimp only [putL, setL, evL, getL]
  refine HT_seq_k fun K14 hK14 => sr fun K15 hK15 => mv (mv (hc (o_len rfl Try.underlying57 ?_)))
  dsimp only [putL, setL, evL, getL]
  refine bn rfl rfl rfl (mv (hc (o_len rfl Try.underlying24 ?_)))
  replace H := headE H
  obtain ⟨u16, hu16, H⟩ := H
  obtain ⟨F1, sx, hx, hC, hA, hB⟩ := hH.takeT [2] (by decide)
  dsimp only [addC, setC, rmC, selC, getC] at hA
  try dsimp only [putL, setL, evL, getL]
  refine hc (o_call (args := #[.pointer (some ⟨b9, 0, none⟩), .int .i64 (IntKind.i64.wrap ((p0.length : Int) - 1)), .int .i64 0, .int .i64 (p1.length : Int)]) Try.func178 rfl rfl rfl (impl_matcher_has.ok sx s8 F1 b9 A10 c10 u8.1 A11 c11 u8.2.1 A12 c12 u8.2.2.1 A13 c13 u8.2.2.2 (IntKind.i64.wrap ((p0.length : Int) - 1)) 0 (p1.length : Int) (D10.mono hx.mono) (Ck.rdT hx (hC 0 (by decide)) rfl) (D12.mono hx.mono) (Ck.rdT hx (hC 1 (by decide)) rfl) hA _ hu16) ?_)
  rintro _ s16 ⟨rfl, hD⟩
  replace hH := hB _ _ _ inferInstance hD
  clear hD hA hB hx hC
  refine hc (o_not rfl (HL_nil (hK15 _ _ ?_)))
  dsimp only [putL, setL, evL, getL]
  revert H
  refine ct rfl (fun hb17 H => ?_) (fun hb17 H => ?_)
  ·refine sr fun K18 hK18 => ag (ag (HL_nil (hK18 _ _ ?_)))
   dsimp only [putL, setL, evL, getL]
   refine HT_ret ?_
   exact hQr _ _ [.slice none 0 0, .bool false] _ ⟨rfl, rfl, trivial⟩ H ⟨none, 0, rfl, (hH.nil (K := KS138) OS138 138).sel [4] (by decide)⟩
  ·refine HT_skip (hK14 _ _ (sr fun K19 hK19 => (mv (mv (hc (o_len rfl Try.underlying57 ?_))))))
   dsimp only [putL, setL, evL, getL]
   refine bn rfl rfl rfl (mv (hc (o_len rfl Try.underlying24 ?_)))
   replace hH := hH.nil (K := KS138) OS138 138
   replace H := headE H
   obtain ⟨u20, hu20, H⟩ := H
   obtain ⟨F1, sx, hx, hC, hA, hB⟩ := hH.takeT [3, 4] (by decide)
   dsimp only [addC, setC, rmC, selC, getC] at hA
   try dsimp only [putL, setL, evL, getL]
   refine hc (o_call (args := #[.pointer (some ⟨b9, 0, none⟩), .slice none 0 0, .int .i64 (IntKind.i64.wrap ((p0.length : Int) - 1)), .int .i64 0, .int .i64 (p1.length : Int)]) Try.func179 rfl rfl rfl (impl_matcher_parse.ok sx s16 F1 b9 A10 c10 u8.1 A11 c11 u8.2.1 A12 c12 u8.2.2.1 A13 c13 u8.2.2.2 none 0 ([] : List ((Int) × (Int) × (Int))) (IntKind.i64.wrap ((p0.length : Int) - 1)) 0 (p1.length : Int) (D10.mono hx.mono) (Ck.rdT hx (hC 0 (by decide)) rfl) (D12.mono hx.mono) (Ck.rdT hx (hC 1 (by decide)) rfl) hA _ hu20) ?_)
   rintro _ s20 ⟨A22, c22, rfl, hD⟩
   replace hH := hB _ _ _ inferInstance hD
   clear hD hA hB hx hC
   refine ag (ag (HL_nil (hK19 _ _ ?_)))
   dsimp only [putL, setL, evL, getL]
   refine HT_ret ?_
   exact hQr _ _ [.slice A22 u20.length c22, .bool true] _ ⟨rfl, rfl, trivial⟩ H ⟨A22, c22, rfl, hH.sel [5] (by decide)⟩
def laws_eqSpan.f (p0_0 : Int) (p0_1 : Int) (p0_2 : Int) (p1_0 : Int) (p1_1 : Int) (p1_2 : Int) : Option Bool := if (p0_0 != p1_0) = true then (some false) else (if (p0_1 != p1_1) = true then (some false) else (if (p0_2 != p1_2) = true then (some false) else (some true)))
def laws_eqSpan.post (sb s : St) (F0 : Fp) (r : Bool) : Value → St → Prop := fun v s' => v = .bool r ∧ Hp sb s F0 s' []
set_option maxRecDepth 100000 in
set_option maxHeartbeats 4000000 in
theorem laws_eqSpan.ok (sb s : St) (F0 : Fp) (p0_0 : Int) (p0_1 : Int) (p0_2 : Int) (p1_0 : Int) (p1_1 : Int) (p1_2 : Int) (hH : Hp sb s F0 s []) (r : Bool) (H : laws_eqSpan.f p0_0 p0_1 p0_2 p1_0 p1_1 p1_2 = some r) : GCall Try.prog 137 #[.agg #[.int .i64 p0_0, .int .i64 p0_1, .int .i64 p0_2], .agg #[.int .i64 p1_0, .int .i64 p1_1, .int .i64 p1_2]] s (laws_eqSpan.post sb s F0 r) := by
 refine GCall_ofr (laws_eqSpan.post sb s F0) [.tmp 4] (ud [.agg #[.int .i64 p0_0, .int .i64 p0_1, .int .i64 p0_2], .agg #[.int .i64 p1_0, .int .i64 p1_1, .int .i64 p1_2]] 18) Try.func137 rfl rfl rfl fun w Q hQr hQn hQp => ?_
 replace H := topE H
 unfold laws_eqSpan.f at H
 dsimp only [ud, un]
 refine sr fun K1 hK1 => hc (o_boxH hH rfl ?_)
 clear hH
 intro b2 s2 hH _
 refine hc (o_boxH hH rfl ?_)
 clear hH
 intro b3 s3 hH _
 refine ag (HL_nil (hK1 _ _ ?_))
 dsimp only [putL, setL, evL, getL]
 refine HT_seq_k fun K4 hK4 => sr fun K5 hK5 => hc (o_faddr' (ft := 3) (off := 0) rfl Try.underlying138 rfl tI3 (by decide) (hc (o_load' rfl Try.underlying3 rfl (hH.hasv 0 rfl rfl) (hc (o_faddr' (ft := 3) (off := 0) rfl Try.underlying138 rfl tI3 (by decide) ?_)))))
 dsimp only [putL, setL, evL, getL]
 refine hc (o_load' rfl Try.underlying3 rfl (hH.hasv 1 rfl rfl) (bn rfl rfl rfl (HL_nil (hK5 _ _ ?_))))
 dsimp only [putL, setL, evL, getL]
 revert H
 refine ct rfl (fun hb6 H => ?_) (fun hb6 H => ?_)
 ·refine sr fun K7 hK7 => ag (HL_nil (hK7 _ _ ?_))
  dsimp only [putL, setL, evL, getL]
  refine HT_ret ?_
  exact hQr _ _ [.bool false] _ ⟨rfl, trivial⟩ H ⟨rfl, hH.sel [] (by decide)⟩
 ·refine HT_skip (hK4 _ _ (HT_seq_k fun K8 hK8 => (sr fun K9 hK9 => (hc (o_faddr' (ft := 3) (off := 1) rfl Try.underlying138 rfl tI3 (by decide) (hc (o_load' rfl Try.underlying3 rfl (hH.hasv 0 rfl rfl) (hc (o_faddr' (ft := 3) (off := 1) rfl Try.underlying138 rfl tI3 (by decide) ?_)))))))))
  dsimp only [putL, setL, evL, getL]
  refine hc (o_load' rfl Try.underlying3 rfl (hH.hasv 1 rfl rfl) (bn rfl rfl rfl (HL_nil (hK9 _ _ ?_))))
  dsimp only [putL, setL, evL, getL]
  revert H
  refine ct rfl (fun hb10 H => ?_) (fun hb10 H => ?_)
  ·refine sr fun K11 hK11 => ag (HL_nil (hK11 _ _ ?_))
   dsimp only [putL, setL, evL, getL]
   refine HT_ret ?_
   exact hQr _ _ [.bool false] _ ⟨rfl, trivial⟩ H ⟨rfl, hH.sel [] (by decide)⟩
  ·refine HT_skip (hK8 _ _ (HT_seq_k fun K12 hK12 => (sr fun K13 hK13 => (hc (o_faddr' (ft := 3) (off := 2) rfl Try.underlying138 rfl tI3 (by decide) (hc (o_load' rfl Try.underlying3 rfl (hH.hasv 0 rfl rfl) (hc (o_faddr' (ft := 3) (off := 2) rfl Try.underlying138 rfl tI3 (by decide) ?_)))))))))
   dsimp only [putL, setL, evL, getL]
   refine hc (o_load' rfl Try.underlying3 rfl (hH.hasv 1 rfl rfl) (bn rfl rfl rfl (HL_nil (hK13 _ _ ?_))))
   dsimp only [putL, setL, evL, getL]
   revert H
   refine ct rfl (fun hb14 H => ?_) (fun hb14 H => ?_)
   ·refine sr fun K15 hK15 => ag (HL_nil (hK15 _ _ ?_))
    dsimp only [putL, setL, evL, getL]
    refine HT_ret ?_
    exact hQr _ _ [.bool false] _ ⟨rfl, trivial⟩ H ⟨rfl, hH.sel [] (by decide)⟩
   ·refine HT_skip (hK12 _ _ (sr fun K16 hK16 => (ag (HL_nil (hK16 _ _ ?_)))))
    dsimp only [putL, setL, evL, getL]
    refine HT_ret ?_
    exact hQr _ _ [.bool true] _ ⟨rfl, trivial⟩ H ⟨rfl, hH.sel [] (by decide)⟩
def laws_eqSpanS.l1 (p0 : List ((Int) × (Int) × (Int))) (p1 : List ((Int) × (Int) × (Int))) : Nat → Int → Option (Lo Unit Bool)
 | 0, _ => none
 | kf + 1, x52 => if (decide (x52 < (p0.length : Int))) = true then ((rd? p0 x52).bind fun u70 => (rd? p1 x52).bind fun u71 => (laws_eqSpan.f u70.1 u70.2.1 u70.2.2 u71.1 u71.2.1 u71.2.2).bind fun u72 => if (!u72) = true then ((some false).bind fun z => some (Lo.ret z)) else (laws_eqSpanS.l1 p0 p1 kf (IntKind.i64.wrap (x52 + 1)))) else (some (Lo.go ()))
def laws_eqSpanS.f (p0 : List ((Int) × (Int) × (Int))) (p1 : List ((Int) × (Int) × (Int))) : Option Bool := if ((p0.length : Int) != (p1.length : Int)) = true then (some false) else ((laws_eqSpanS.l1 p0 p1 ((((p0.length : Int)) - (0)).toNat + 2) 0).bind fun (o : Lo Unit Bool) => match o with | .go () => (some true) | .ret z => some z)
def laws_eqSpanS.post (sb s : St) (F0 : Fp) (r : Bool) : Value → St → Prop := fun v s' => v = .bool r ∧ Hp sb s F0 s' []
set_option maxRecDepth 100000 in
set_option maxHeartbeats 4000000 in
theorem laws_eqSpanS.ok (sb s : St) (F0 : Fp) (A0p : Option Addr) (c0p : Nat) (p0 : List ((Int) × (Int) × (Int))) (A1p : Option Addr) (c1p : Nat) (p1 : List ((Int) × (Int) × (Int))) (HRp0 : Rd KS138 sb A0p c0p p0) (HRp1 : Rd KS138 sb A1p c1p p1) (hH : Hp sb s F0 s []) (r : Bool) (H : laws_eqSpanS.f p0 p1 = some r) : GCall Try.prog 43 #[.slice A0p p0.length c0p, .slice A1p p1.length c1p] s (laws_eqSpanS.post sb s F0 r) := by
 refine GCall_ofr (laws_eqSpanS.post sb s F0) [.tmp 4] (ud [.slice A0p p0.length c0p, .slice A1p p1.length c1p] 25) Try.func43 rfl rfl rfl fun w Q hQr hQn hQp => ?_
 replace H := topE H
 unfold laws_eqSpanS.f at H
 dsimp only [ud, un]
 refine sr fun K1 hK1 => ag (HL_nil (hK1 _ _ ?_))
 dsimp only [putL, setL, evL, getL]
 refine HT_seq_k fun K2 hK2 => sr fun K3 hK3 => mv (hc (o_len rfl Try.underlying54 (mv ?_)))
 dsimp only [putL, setL, evL, getL]
 refine hc (o_len rfl Try.underlying54 (bn rfl rfl rfl (HL_nil (hK3 _ _ ?_))))
 dsimp only [putL, setL, evL, getL]
 revert H
 refine ct rfl (fun hb4 H => ?_) (fun hb4 H => ?_)
 ·refine sr fun K5 hK5 => ag (HL_nil (hK5 _ _ ?_))
  dsimp only [putL, setL, evL, getL]
  refine HT_ret ?_
  exact hQr _ _ [.bool false] _ ⟨rfl, trivial⟩ H ⟨rfl, hH⟩
 ·refine HT_skip (hK2 _ _ (HT_seq_k fun K6 hK6 => (sr fun K7 hK7 => (ag (HL_nil (hK7 _ _ ?_))))))
  dsimp only [putL, setL, evL, getL]
  refine joinH H fun G8 hG8 H => ?_
  refine HT_toK (fun l' s' => G8 (.go ()) = some r ∧ skim [] l' = ([], 28) ∧ Hp sb s F0 s' []) ?_ ?_
  ·intro K8 hK8
   refine HT_block ?_
   refine HT_loopK (fun kf l' s' => ∃ (x52 : Int), (laws_eqSpanS.l1 p0 p1 kf x52).bind G8 = some r ∧ skim [0, 0, 3] l' = ([.slice A0p p0.length c0p, .slice A1p p1.length c1p, .int .i64 x52], 22) ∧ Hp sb s F0 s' []) ((((p0.length : Int)) - (0)).toNat + 2) ⟨0, H, rfl, hH⟩ ?_
   rintro kf l' s64 ⟨x52, H, hl, hH⟩ K64 hK64
   revert l'
   refine skA ?_
   dsimp only [Al, Sk]
   intros
   cases kf with
   | zero => simp [laws_eqSpanS.l1] at H
   | succ kf =>
    rw [laws_eqSpanS.l1] at H
    refine HT_seq_k fun K65 hK65 => sr fun K66 hK66 => mv (mv (hc (o_len rfl Try.underlying54 ?_)))
    dsimp only [putL, setL, evL, getL]
    refine bn rfl rfl rfl (HL_nil (hK66 _ _ ?_))
    dsimp only [putL, setL, evL, getL]
    revert H
    refine ct rfl (fun hb67 H => ?_) (fun hb67 H => ?_)
    ·refine HT_skip (hK65 _ _ (HT_seq_k fun K68 hK68 => (HT_block ?_)))
     refine sx hMix fun K69 hK69 => ?_
     refine HX_lim (R := fun _ => True) (k := 0) (fun s' => Gro s64 s') 11 ?_
     have hR := Gro.refl s64
     have hH0 := hH
     refine HK_readP 0 (v := .slice A0p p0.length c0p) rfl (by kernel_rfl) hQp rfl (fun s' K hK => o_move hK) rfl rfl (fun _ => hR) ?_
     refine HK_readP 1 (v := .int .i64 x52) rfl (by kernel_rfl) hQp rfl (fun s' K hK => o_move hK) rfl rfl (fun _ => hR) ?_
     replace H := headE H
     obtain ⟨u70, hu70, H⟩ := H
     obtain ⟨b70, o70, cs70, hr70, hh70, hel70⟩ := Rd.elb HRp0 hu70
     obtain ⟨_, _, rfl, rfl, ⟨_, _, rfl, rfl, rfl⟩⟩ := hr70
     try dsimp only [putL, setL, evL, getL]
     refine HK_readP 2 (v := .pointer (some ⟨b70, o70, none⟩)) rfl (by kernel_rfl) hQp rfl (fun s' K hK => hel70 s' rfl rfl Try.underlying54 tI138 hK) rfl rfl (fun _ => hR) ?_
     refine HK_read 3 (v := .agg #[.int .i64 u70.1, .int .i64 u70.2.1, .int .i64 u70.2.2]) rfl (by kernel_rfl) hQp rfl (fun s' hR' K hK => o_loads' [.int .i64 u70.1, .int .i64 u70.2.1, .int .i64 u70.2.2] rfl Try.underlying138 rfl tI138 rfl (fun j v hj => (hh70 (hH0.bs.mono.trans hR'.mono)) j v hj) hK) rfl rfl hR ?_
     refine HK_readP 4 (v := .slice A1p p1.length c1p) rfl (by kernel_rfl) hQp rfl (fun s' K hK => o_move hK) rfl rfl (fun _ => hR) ?_
     try dsimp only [putL, setL, evL, getL]
     refine HK_readP 5 (v := .int .i64 x52) rfl (by kernel_rfl) hQp rfl (fun s' K hK => o_move hK) rfl rfl (fun _ => hR) ?_
     replace H := headE H
     obtain ⟨u71, hu71, H⟩ := H
     obtain ⟨b71, o71, cs71, hr71, hh71, hel71⟩ := Rd.elb HRp1 hu71
     obtain ⟨_, _, rfl, rfl, ⟨_, _, rfl, rfl, rfl⟩⟩ := hr71
     refine HK_readP 6 (v := .pointer (some ⟨b71, o71, none⟩)) rfl (by kernel_rfl) hQp rfl (fun s' K hK => hel71 s' rfl rfl Try.underlying54 tI138 hK) rfl rfl (fun _ => hR) ?_
     refine HK_read 7 (v := .agg #[.int .i64 u71.1, .int .i64 u71.2.1, .int .i64 u71.2.2]) rfl (by kernel_rfl) hQp rfl (fun s' hR' K hK => o_loads' [.int .i64 u71.1, .int .i64 u71.2.1, .int .i64 u71.2.2] rfl Try.underlying138 rfl tI138 rfl (fun j v hj => (hh71 (hH0.bs.mono.trans hR'.mono)) j v hj) hK) rfl rfl hR ?_
     try dsimp only [putL, setL, evL, getL]
     refine HK_more [8] (by kernel_rfl) rfl (fun _ => hR) ⟨⟨_, rfl, Or.inl ⟨rfl, ?_⟩⟩, trivial⟩
     replace H := headE H
     obtain ⟨u72, hu72, H⟩ := H
     skip
     refine o_call (args := #[.agg #[.int .i64 u70.1, .int .i64 u70.2.1, .int .i64 u70.2.2], .agg #[.int .i64 u71.1, .int .i64 u71.2.1, .int .i64 u71.2.2]]) Try.func137 rfl rfl rfl (laws_eqSpan.ok sb s64 no u70.1 u70.2.1 u70.2.2 u71.1 u71.2.1 u71.2.2 (Hp.own hH.bs) _ hu72) ?_
     rintro _ s72 ⟨rfl, hD⟩
     replace hR := hR.trans hD.gro
     replace hH := hH.back0 hD (Up.refl _ _ _)
     clear hD
     refine HK_readP 9 (v := .bool (!u72)) rfl (by kernel_rfl) hQp rfl (fun s' K hK => o_not rfl hK) rfl rfl (fun _ => hR) ?_
     refine HK_done (fun _ => hR) (by kernel_rfl) ?_
     refine hK69 _ _ ?_
     try dsimp only [putL, setL, evL, getL]
     revert H
     refine ct rfl (fun hb73 H => ?_) (fun hb73 H => ?_)
     ·refine sr fun K74 hK74 => ag (HL_nil (hK74 _ _ ?_))
      dsimp only [putL, setL, evL, getL]
      refine HT_ret ?_
      replace H := escH (fun z hz => hG8 _ hz) H
      exact hQr _ _ [.bool false] _ ⟨rfl, trivial⟩ H ⟨rfl, hH⟩
     ·refine HT_skip (hK68 _ _ ?_)
      refine HT_region ?_
      refine mv (bn rfl rfl rfl (ag (HL_nil ?_)))
      exact hK64 _ _ ⟨kf, Nat.lt_succ_self kf, IntKind.i64.wrap (x52 + 1), H, rfl, hH⟩
    ·refine HT_exit ?_
     exact hK8 _ _ ⟨H, rfl, hH⟩
  ·rintro l' s75 ⟨H, hl, hH⟩
   revert l'
   refine skA ?_
   dsimp only [Al, Sk]
   intros
   replace H := hG8 _ H
   try dsimp only at H
   refine hK6 _ _ ?_
   refine sr fun K76 hK76 => ?_
   try dsimp only [putL, setL, evL, getL]
   refine ag (HL_nil (hK76 _ _ ?_))
   dsimp only [putL, setL, evL, getL]
   refine HT_ret ?_
   exact hQr _ _ [.bool true] _ ⟨rfl, trivial⟩ H ⟨rfl, hH⟩
def laws_eqIntS.l1 (p0 : List (Int)) (p1 : List (Int)) : Nat → Int → Option (Lo Unit Bool)
 | 0, _ => none
 | kf + 1, x48 => if (decide (x48 < (p0.length : Int))) = true then ((rd? p0 x48).bind fun u65 => (rd? p1 x48).bind fun u66 => if (u65 != u66) = true then ((some false).bind fun z => some (Lo.ret z)) else (laws_eqIntS.l1 p0 p1 kf (IntKind.i64.wrap (x48 + 1)))) else (some (Lo.go ()))
def laws_eqIntS.f (p0 : List (Int)) (p1 : List (Int)) : Option Bool := if ((p0.length : Int) != (p1.length : Int)) = true then (some false) else ((laws_eqIntS.l1 p0 p1 ((((p0.length : Int)) - (0)).toNat + 2) 0).bind fun (o : Lo Unit Bool) => match o with | .go () => (some true) | .ret z => some z)
def laws_eqIntS.post (sb s : St) (F0 : Fp) (r : Bool) : Value → St → Prop := fun v s' => v = .bool r ∧ Hp sb s F0 s' []
set_option maxRecDepth 100000 in
set_option maxHeartbeats 4000000 in
theorem laws_eqIntS.ok (sb s : St) (F0 : Fp) (A0p : Option Addr) (c0p : Nat) (p0 : List (Int)) (A1p : Option Addr) (c1p : Nat) (p1 : List (Int)) (HRp0 : Rd KI sb A0p c0p p0) (HRp1 : Rd KI sb A1p c1p p1) (hH : Hp sb s F0 s []) (r : Bool) (H : laws_eqIntS.f p0 p1 = some r) : GCall Try.prog 63 #[.slice A0p p0.length c0p, .slice A1p p1.length c1p] s (laws_eqIntS.post sb s F0 r) := by
 refine GCall_ofr (laws_eqIntS.post sb s F0) [.tmp 4] (ud [.slice A0p p0.length c0p, .slice A1p p1.length c1p] 24) Try.func63 rfl rfl rfl fun w Q hQr hQn hQp => ?_
 replace H := topE H
 unfold laws_eqIntS.f at H
 dsimp only [ud, un]
 refine sr fun K1 hK1 => ag (HL_nil (hK1 _ _ ?_))
 dsimp only [putL, setL, evL, getL]
 refine HT_seq_k fun K2 hK2 => sr fun K3 hK3 => mv (hc (o_len rfl Try.underlying24 (mv ?_)))
 dsimp only [putL, setL, evL, getL]
 refine hc (o_len rfl Try.underlying24 (bn rfl rfl rfl (HL_nil (hK3 _ _ ?_))))
 dsimp only [putL, setL, evL, getL]
 revert H
 refine ct rfl (fun hb4 H => ?_) (fun hb4 H => ?_)
 ·refine sr fun K5 hK5 => ag (HL_nil (hK5 _ _ ?_))
  dsimp only [putL, setL, evL, getL]
  refine HT_ret ?_
  exact hQr _ _ [.bool false] _ ⟨rfl, trivial⟩ H ⟨rfl, hH⟩
 ·refine HT_skip (hK2 _ _ (HT_seq_k fun K6 hK6 => (sr fun K7 hK7 => (ag (HL_nil (hK7 _ _ ?_))))))
  dsimp only [putL, setL, evL, getL]
  refine joinH H fun G8 hG8 H => ?_
  refine HT_toK (fun l' s' => G8 (.go ()) = some r ∧ skim [] l' = ([], 27) ∧ Hp sb s F0 s' []) ?_ ?_
  ·intro K8 hK8
   refine HT_block ?_
   refine HT_loopK (fun kf l' s' => ∃ (x48 : Int), (laws_eqIntS.l1 p0 p1 kf x48).bind G8 = some r ∧ skim [0, 0, 3] l' = ([.slice A0p p0.length c0p, .slice A1p p1.length c1p, .int .i64 x48], 21) ∧ Hp sb s F0 s' []) ((((p0.length : Int)) - (0)).toNat + 2) ⟨0, H, rfl, hH⟩ ?_
   rintro kf l' s59 ⟨x48, H, hl, hH⟩ K59 hK59
   revert l'
   refine skA ?_
   dsimp only [Al, Sk]
   intros
   cases kf with
   | zero => simp [laws_eqIntS.l1] at H
   | succ kf =>
    rw [laws_eqIntS.l1] at H
    refine HT_seq_k fun K60 hK60 => sr fun K61 hK61 => mv (mv (hc (o_len rfl Try.underlying24 ?_)))
    dsimp only [putL, setL, evL, getL]
    refine bn rfl rfl rfl (HL_nil (hK61 _ _ ?_))
    dsimp only [putL, setL, evL, getL]
    revert H
    refine ct rfl (fun hb62 H => ?_) (fun hb62 H => ?_)
    ·refine HT_skip (hK60 _ _ (HT_seq_k fun K63 hK63 => (HT_block ?_)))
     refine sx hMix fun K64 hK64 => ?_
     refine HX_lim (R := fun _ => True) (k := 0) (fun s' => Gro s59 s') 10 ?_
     have hR := Gro.refl s59
     have hH0 := hH
     refine HK_readP 0 (v := .slice A0p p0.length c0p) rfl (by kernel_rfl) hQp rfl (fun s' K hK => o_move hK) rfl rfl (fun _ => hR) ?_
     refine HK_readP 1 (v := .int .i64 x48) rfl (by kernel_rfl) hQp rfl (fun s' K hK => o_move hK) rfl rfl (fun _ => hR) ?_
     replace H := headE H
     obtain ⟨u65, hu65, H⟩ := H
     obtain ⟨b65, o65, cs65, hr65, hh65, hel65⟩ := Rd.elb HRp0 hu65
     obtain rfl := hr65
     try dsimp only [putL, setL, evL, getL]
     refine HK_readP 2 (v := .pointer (some ⟨b65, o65, none⟩)) rfl (by kernel_rfl) hQp rfl (fun s' K hK => hel65 s' rfl rfl Try.underlying24 tI3 hK) rfl rfl (fun _ => hR) ?_
     refine HK_read 3 (v := .int .i64 u65) rfl (by kernel_rfl) hQp rfl (fun s' hR' K hK => o_load' rfl Try.underlying3 rfl ((hh65 (hH0.bs.mono.trans hR'.mono)) 0 _ rfl) hK) rfl rfl hR ?_
     refine HK_readP 4 (v := .slice A1p p1.length c1p) rfl (by kernel_rfl) hQp rfl (fun s' K hK => o_move hK) rfl rfl (fun _ => hR) ?_
     try dsimp only [putL, setL, evL, getL]
     refine HK_readP 5 (v := .int .i64 x48) rfl (by kernel_rfl) hQp rfl (fun s' K hK => o_move hK) rfl rfl (fun _ => hR) ?_
     replace H := headE H
     obtain ⟨u66, hu66, H⟩ := H
     obtain ⟨b66, o66, cs66, hr66, hh66, hel66⟩ := Rd.elb HRp1 hu66
     obtain rfl := hr66
     refine HK_readP 6 (v := .pointer (some ⟨b66, o66, none⟩)) rfl (by kernel_rfl) hQp rfl (fun s' K hK => hel66 s' rfl rfl Try.underlying24 tI3 hK) rfl rfl (fun _ => hR) ?_
     refine HK_read 7 (v := .int .i64 u66) rfl (by kernel_rfl) hQp rfl (fun s' hR' K hK => o_load' rfl Try.underlying3 rfl ((hh66 (hH0.bs.mono.trans hR'.mono)) 0 _ rfl) hK) rfl rfl hR ?_
     try dsimp only [putL, setL, evL, getL]
     refine HK_readP 8 (v := .bool (u65 != u66)) rfl (by kernel_rfl) hQp rfl (fun s' K hK => o_bin rfl rfl rfl hK) rfl rfl (fun _ => hR) ?_
     refine HK_done (fun _ => hR) (by kernel_rfl) ?_
     refine hK64 _ _ ?_
     try dsimp only [putL, setL, evL, getL]
     revert H
     refine ct rfl (fun hb67 H => ?_) (fun hb67 H => ?_)
     ·refine sr fun K68 hK68 => ag (HL_nil (hK68 _ _ ?_))
      dsimp only [putL, setL, evL, getL]
      refine HT_ret ?_
      replace H := escH (fun z hz => hG8 _ hz) H
      exact hQr _ _ [.bool false] _ ⟨rfl, trivial⟩ H ⟨rfl, hH⟩
     ·refine HT_skip (hK63 _ _ ?_)
      refine HT_region ?_
      refine mv (bn rfl rfl rfl (ag (HL_nil ?_)))
      exact hK59 _ _ ⟨kf, Nat.lt_succ_self kf, IntKind.i64.wrap (x48 + 1), H, rfl, hH⟩
    ·refine HT_exit ?_
     exact hK8 _ _ ⟨H, rfl, hH⟩
  ·rintro l' s69 ⟨H, hl, hH⟩
   revert l'
   refine skA ?_
   dsimp only [Al, Sk]
   intros
   replace H := hG8 _ H
   try dsimp only at H
   refine hK6 _ _ ?_
   refine sr fun K70 hK70 => ?_
   try dsimp only [putL, setL, evL, getL]
   refine ag (HL_nil (hK70 _ _ ?_))
   dsimp only [putL, setL, evL, getL]
   refine HT_ret ?_
   exact hQr _ _ [.bool true] _ ⟨rfl, trivial⟩ H ⟨rfl, hH⟩
def laws_eqRe.f (p0_0 : Int) (p0_1 : List (Int)) (p1_0 : Int) (p1_1 : List (Int)) : Option Bool := if (p0_0 != p1_0) = true then (some false) else ((laws_eqIntS.f p0_1 p1_1).bind fun u10 => if (!u10) = true then (some false) else (some true))
def laws_eqRe.post (sb s : St) (F0 : Fp) (r : Bool) : Value → St → Prop := fun v s' => v = .bool r ∧ Hp sb s F0 s' []
set_option maxRecDepth 100000 in
set_option maxHeartbeats 4000000 in
theorem laws_eqRe.ok (sb s : St) (F0 : Fp) (p0_0 : Int) (A0_1p : Option Addr) (c0_1p : Nat) (p0_1 : List (Int)) (p1_0 : Int) (A1_1p : Option Addr) (c1_1p : Nat) (p1_1 : List (Int)) (HRp0_1 : Rd KI sb A0_1p c0_1p p0_1) (HRp1_1 : Rd KI sb A1_1p c1_1p p1_1) (hH : Hp sb s F0 s []) (r : Bool) (H : laws_eqRe.f p0_0 p0_1 p1_0 p1_1 = some r) : GCall Try.prog 138 #[.agg #[.int .i64 p0_0, .slice A0_1p p0_1.length c0_1p], .agg #[.int .i64 p1_0, .slice A1_1p p1_1.length c1_1p]] s (laws_eqRe.post sb s F0 r) := by
 refine GCall_ofr (laws_eqRe.post sb s F0) [.tmp 4] (ud [.agg #[.int .i64 p0_0, .slice A0_1p p0_1.length c0_1p], .agg #[.int .i64 p1_0, .slice A1_1p p1_1.length c1_1p]] 14) Try.func138 rfl rfl rfl fun w Q hQr hQn hQp => ?_
 replace H := topE H
 unfold laws_eqRe.f at H
 dsimp only [ud, un]
 refine sr fun K1 hK1 => hc (o_boxH hH rfl ?_)
 clear hH
 intro b2 s2 hH _
 refine hc (o_boxH hH rfl ?_)
 clear hH
 intro b3 s3 hH _
 refine ag (HL_nil (hK1 _ _ ?_))
 dsimp only [putL, setL, evL, getL]
 refine HT_seq_k fun K4 hK4 => sr fun K5 hK5 => hc (o_faddr' (ft := 3) (off := 0) rfl Try.underlying139 rfl tI3 (by decide) (hc (o_load' rfl Try.underlying3 rfl (hH.hasv 0 rfl rfl) (hc (o_faddr' (ft := 3) (off := 0) rfl Try.underlying139 rfl tI3 (by decide) ?_)))))
 dsimp only [putL, setL, evL, getL]
 refine hc (o_load' rfl Try.underlying3 rfl (hH.hasv 1 rfl rfl) (bn rfl rfl rfl (HL_nil (hK5 _ _ ?_))))
 dsimp only [putL, setL, evL, getL]
 revert H
 refine ct rfl (fun hb6 H => ?_) (fun hb6 H => ?_)
 ·refine sr fun K7 hK7 => ag (HL_nil (hK7 _ _ ?_))
  dsimp only [putL, setL, evL, getL]
  refine HT_ret ?_
  exact hQr _ _ [.bool false] _ ⟨rfl, trivial⟩ H ⟨rfl, hH.sel [] (by decide)⟩
 ·refine HT_skip (hK4 _ _ (HT_seq_k fun K8 hK8 => (sr fun K9 hK9 => (hc (o_faddr' (ft := 24) (off := 1) rfl Try.underlying139 rfl tI24 (by decide) (hc (o_load' rfl Try.underlying24 rfl (hH.hasv 0 rfl rfl) (hc (o_faddr' (ft := 24) (off := 1) rfl Try.underlying139 rfl tI24 (by decide) ?_)))))))))
  dsimp only [putL, setL, evL, getL]
  refine hc (o_load' rfl Try.underlying24 rfl (hH.hasv 1 rfl rfl) ?_)
  replace H := headE H
  obtain ⟨u10, hu10, H⟩ := H
  refine hc (o_call (args := #[.slice A0_1p p0_1.length c0_1p, .slice A1_1p p1_1.length c1_1p]) Try.func63 rfl rfl rfl (laws_eqIntS.ok sb s3 no A0_1p c0_1p p0_1 A1_1p c1_1p p1_1 HRp0_1 HRp1_1 (Hp.own hH.bs) _ hu10) ?_)
  rintro _ s10 ⟨rfl, hD⟩
  replace hH := hH.back0 hD (Up.refl _ _ _)
  clear hD
  refine hc (o_not rfl (HL_nil (hK9 _ _ ?_)))
  dsimp only [putL, setL, evL, getL]
  revert H
  refine ct rfl (fun hb11 H => ?_) (fun hb11 H => ?_)
  ·refine sr fun K12 hK12 => ag (HL_nil (hK12 _ _ ?_))
   dsimp only [putL, setL, evL, getL]
   refine HT_ret ?_
   exact hQr _ _ [.bool false] _ ⟨rfl, trivial⟩ H ⟨rfl, hH.sel [] (by decide)⟩
  ·refine HT_skip (hK8 _ _ (sr fun K13 hK13 => (ag (HL_nil (hK13 _ _ ?_)))))
   dsimp only [putL, setL, evL, getL]
   refine HT_ret ?_
   exact hQr _ _ [.bool true] _ ⟨rfl, trivial⟩ H ⟨rfl, hH.sel [] (by decide)⟩
def laws_eqReS.l1 (p0 : List ((Int) × (List (Int)))) (p1 : List ((Int) × (List (Int)))) : Nat → Int → Option (Lo Unit Bool)
 | 0, _ => none
 | kf + 1, x60 => if (decide (x60 < (p0.length : Int))) = true then ((rd? p0 x60).bind fun u80 => (rd? p1 x60).bind fun u82 => (laws_eqRe.f u80.1 u80.2 u82.1 u82.2).bind fun u84 => if (!u84) = true then ((some false).bind fun z => some (Lo.ret z)) else (laws_eqReS.l1 p0 p1 kf (IntKind.i64.wrap (x60 + 1)))) else (some (Lo.go ()))
def laws_eqReS.f (p0 : List ((Int) × (List (Int)))) (p1 : List ((Int) × (List (Int)))) : Option Bool := if ((p0.length : Int) != (p1.length : Int)) = true then (some false) else ((laws_eqReS.l1 p0 p1 ((((p0.length : Int)) - (0)).toNat + 2) 0).bind fun (o : Lo Unit Bool) => match o with | .go () => (some true) | .ret z => some z)
def laws_eqReS.post (sb s : St) (F0 : Fp) (r : Bool) : Value → St → Prop := fun v s' => v = .bool r ∧ Hp sb s F0 s' []
set_option maxRecDepth 100000 in
set_option maxHeartbeats 4000000 in
theorem laws_eqReS.ok (sb s : St) (F0 : Fp) (A0p : Option Addr) (c0p : Nat) (p0 : List ((Int) × (List (Int)))) (A1p : Option Addr) (c1p : Nat) (p1 : List ((Int) × (List (Int)))) (HRp0 : Rd KS139 sb A0p c0p p0) (HRp1 : Rd KS139 sb A1p c1p p1) (hH : Hp sb s F0 s []) (r : Bool) (H : laws_eqReS.f p0 p1 = some r) : GCall Try.prog 44 #[.slice A0p p0.length c0p, .slice A1p p1.length c1p] s (laws_eqReS.post sb s F0 r) := by
 refine GCall_ofr (laws_eqReS.post sb s F0) [.tmp 4] (ud [.slice A0p p0.length c0p, .slice A1p p1.length c1p] 25) Try.func44 rfl rfl rfl fun w Q hQr hQn hQp => ?_
 replace H := topE H
 unfold laws_eqReS.f at H
 dsimp only [ud, un]
 refine sr fun K1 hK1 => ag (HL_nil (hK1 _ _ ?_))
 dsimp only [putL, setL, evL, getL]
 refine HT_seq_k fun K2 hK2 => sr fun K3 hK3 => mv (hc (o_len rfl Try.underlying57 (mv ?_)))
 dsimp only [putL, setL, evL, getL]
 refine hc (o_len rfl Try.underlying57 (bn rfl rfl rfl (HL_nil (hK3 _ _ ?_))))
 dsimp only [putL, setL, evL, getL]
 revert H
 refine ct rfl (fun hb4 H => ?_) (fun hb4 H => ?_)
 ·refine sr fun K5 hK5 => ag (HL_nil (hK5 _ _ ?_))
  dsimp only [putL, setL, evL, getL]
  refine HT_ret ?_
  exact hQr _ _ [.bool false] _ ⟨rfl, trivial⟩ H ⟨rfl, hH⟩
 ·refine HT_skip (hK2 _ _ (HT_seq_k fun K6 hK6 => (sr fun K7 hK7 => (ag (HL_nil (hK7 _ _ ?_))))))
  dsimp only [putL, setL, evL, getL]
  refine joinH H fun G8 hG8 H => ?_
  refine HT_toK (fun l' s' => G8 (.go ()) = some r ∧ skim [] l' = ([], 28) ∧ Hp sb s F0 s' []) ?_ ?_
  ·intro K8 hK8
   refine HT_block ?_
   refine HT_loopK (fun kf l' s' => ∃ (x60 : Int), (laws_eqReS.l1 p0 p1 kf x60).bind G8 = some r ∧ skim [0, 0, 3] l' = ([.slice A0p p0.length c0p, .slice A1p p1.length c1p, .int .i64 x60], 22) ∧ Hp sb s F0 s' []) ((((p0.length : Int)) - (0)).toNat + 2) ⟨0, H, rfl, hH⟩ ?_
   rintro kf l' s74 ⟨x60, H, hl, hH⟩ K74 hK74
   revert l'
   refine skA ?_
   dsimp only [Al, Sk]
   intros
   cases kf with
   | zero => simp [laws_eqReS.l1] at H
   | succ kf =>
    rw [laws_eqReS.l1] at H
    refine HT_seq_k fun K75 hK75 => sr fun K76 hK76 => mv (mv (hc (o_len rfl Try.underlying57 ?_)))
    dsimp only [putL, setL, evL, getL]
    refine bn rfl rfl rfl (HL_nil (hK76 _ _ ?_))
    dsimp only [putL, setL, evL, getL]
    revert H
    refine ct rfl (fun hb77 H => ?_) (fun hb77 H => ?_)
    ·refine HT_skip (hK75 _ _ (HT_seq_k fun K78 hK78 => (HT_block ?_)))
     refine sx hMix fun K79 hK79 => ?_
     refine HX_lim (R := fun _ => True) (k := 0) (fun s' => Gro s74 s') 11 ?_
     have hR := Gro.refl s74
     have hH0 := hH
     refine HK_readP 0 (v := .slice A0p p0.length c0p) rfl (by kernel_rfl) hQp rfl (fun s' K hK => o_move hK) rfl rfl (fun _ => hR) ?_
     refine HK_readP 1 (v := .int .i64 x60) rfl (by kernel_rfl) hQp rfl (fun s' K hK => o_move hK) rfl rfl (fun _ => hR) ?_
     replace H := headE H
     obtain ⟨u80, hu80, H⟩ := H
     obtain ⟨b80, o80, cs80, hr80, hh80, hel80⟩ := Rd.elb HRp0 hu80
     obtain ⟨_, _, rfl, rfl, ⟨A81, c81, rfl, D81⟩⟩ := hr80
     try dsimp only [putL, setL, evL, getL]
     refine HK_readP 2 (v := .pointer (some ⟨b80, o80, none⟩)) rfl (by kernel_rfl) hQp rfl (fun s' K hK => hel80 s' rfl rfl Try.underlying57 tI139 hK) rfl rfl (fun _ => hR) ?_
     refine HK_read 3 (v := .agg #[.int .i64 u80.1, .slice A81 u80.2.length c81]) rfl (by kernel_rfl) hQp rfl (fun s' hR' K hK => o_loads' [.int .i64 u80.1, .slice A81 u80.2.length c81] rfl Try.underlying139 rfl tI139 rfl (fun j v hj => (hh80 (hH0.bs.mono.trans hR'.mono)) j v hj) hK) rfl rfl hR ?_
     refine HK_readP 4 (v := .slice A1p p1.length c1p) rfl (by kernel_rfl) hQp rfl (fun s' K hK => o_move hK) rfl rfl (fun _ => hR) ?_
     try dsimp only [putL, setL, evL, getL]
     refine HK_readP 5 (v := .int .i64 x60) rfl (by kernel_rfl) hQp rfl (fun s' K hK => o_move hK) rfl rfl (fun _ => hR) ?_
     replace H := headE H
     obtain ⟨u82, hu82, H⟩ := H
     obtain ⟨b82, o82, cs82, hr82, hh82, hel82⟩ := Rd.elb HRp1 hu82
     obtain ⟨_, _, rfl, rfl, ⟨A83, c83, rfl, D83⟩⟩ := hr82
     refine HK_readP 6 (v := .pointer (some ⟨b82, o82, none⟩)) rfl (by kernel_rfl) hQp rfl (fun s' K hK => hel82 s' rfl rfl Try.underlying57 tI139 hK) rfl rfl (fun _ => hR) ?_
     refine HK_read 7 (v := .agg #[.int .i64 u82.1, .slice A83 u82.2.length c83]) rfl (by kernel_rfl) hQp rfl (fun s' hR' K hK => o_loads' [.int .i64 u82.1, .slice A83 u82.2.length c83] rfl Try.underlying139 rfl tI139 rfl (fun j v hj => (hh82 (hH0.bs.mono.trans hR'.mono)) j v hj) hK) rfl rfl hR ?_
     try dsimp only [putL, setL, evL, getL]
     refine HK_more [8] (by kernel_rfl) rfl (fun _ => hR) ⟨⟨_, rfl, Or.inl ⟨rfl, ?_⟩⟩, trivial⟩
     replace H := headE H
     obtain ⟨u84, hu84, H⟩ := H
     skip
     refine o_call (args := #[.agg #[.int .i64 u80.1, .slice A81 u80.2.length c81], .agg #[.int .i64 u82.1, .slice A83 u82.2.length c83]]) Try.func138 rfl rfl rfl (laws_eqRe.ok sb s74 no u80.1 A81 c81 u80.2 u82.1 A83 c83 u82.2 D81 D83 (Hp.own hH.bs) _ hu84) ?_
     rintro _ s84 ⟨rfl, hD⟩
     replace hR := hR.trans hD.gro
     replace hH := hH.back0 hD (Up.refl _ _ _)
     clear hD
     refine HK_readP 9 (v := .bool (!u84)) rfl (by kernel_rfl) hQp rfl (fun s' K hK => o_not rfl hK) rfl rfl (fun _ => hR) ?_
     refine HK_done (fun _ => hR) (by kernel_rfl) ?_
     refine hK79 _ _ ?_
     try dsimp only [putL, setL, evL, getL]
     revert H
     refine ct rfl (fun hb85 H => ?_) (fun hb85 H => ?_)
     ·refine sr fun K86 hK86 => ag (HL_nil (hK86 _ _ ?_))
      dsimp only [putL, setL, evL, getL]
      refine HT_ret ?_
      replace H := escH (fun z hz => hG8 _ hz) H
      exact hQr _ _ [.bool false] _ ⟨rfl, trivial⟩ H ⟨rfl, hH⟩
     ·refine HT_skip (hK78 _ _ ?_)
      refine HT_region ?_
      refine mv (bn rfl rfl rfl (ag (HL_nil ?_)))
      exact hK74 _ _ ⟨kf, Nat.lt_succ_self kf, IntKind.i64.wrap (x60 + 1), H, rfl, hH⟩
    ·refine HT_exit ?_
     exact hK8 _ _ ⟨H, rfl, hH⟩
  ·rintro l' s87 ⟨H, hl, hH⟩
   revert l'
   refine skA ?_
   dsimp only [Al, Sk]
   intros
   replace H := hG8 _ H
   try dsimp only at H
   refine hK6 _ _ ?_
   refine sr fun K88 hK88 => ?_
   try dsimp only [putL, setL, evL, getL]
   refine ag (HL_nil (hK88 _ _ ?_))
   dsimp only [putL, setL, evL, getL]
   refine HT_ret ?_
   exact hQr _ _ [.bool true] _ ⟨rfl, trivial⟩ H ⟨rfl, hH⟩
def laws_markIntS.l1 (p0 : List (Int)) : Nat → (List (Int)) → Int → Int → Option (Int × (List (Int)))
 | 0, _, _, _ => none
 | kf + 1, x42, x43, x44 => if (decide (x44 < (p0.length : Int))) = true then ((rd? x42 x44).bind fun u61 => (st? x42 x44 x43).bind fun x62 => laws_markIntS.l1 p0 kf x62 (IntKind.i64.wrap (x43 + 1)) (IntKind.i64.wrap (x44 + 1))) else (some (x43, x42))
def laws_markIntS.f (p0 : List (Int)) (p1 : Int) : Option (Int × (List (Int))) := (laws_markIntS.l1 p0 ((((p0.length : Int)) - (0)).toNat + 2) p0 p1 0).bind fun (o : Int × (List (Int))) => match o with | (x33, x34) => (some (x33, x34))
def laws_markIntS.post (sb s : St) (F0 : Fp) (A0p : Option Addr) (c0p : Nat) (p0 : List (Int)) (r : Int × (List (Int))) : Value → St → Prop := fun v s' => v = .int .i64 r.1 ∧ Hp sb s F0 s' [Ck.ol OI 3 A0p c0p r.2] ∧ r.2.length = p0.length
set_option maxRecDepth 100000 in
set_option maxHeartbeats 4000000 in
theorem laws_markIntS.ok (sb s : St) (F0 : Fp) (A0p : Option Addr) (c0p : Nat) (p0 : List (Int)) (p1 : Int) (hH : Hp sb s F0 s [Ck.ol OI 3 A0p c0p p0]) (r : Int × (List (Int))) (H : laws_markIntS.f p0 p1 = some r) : GCall Try.prog 89 #[.slice A0p p0.length c0p, .int .i64 p1] s (laws_markIntS.post sb s F0 A0p c0p p0 r) := by
 refine GCall_ofr (laws_markIntS.post sb s F0 A0p c0p p0) [.tmp 4] (ud [.slice A0p p0.length c0p, .int .i64 p1] 17) Try.func89 rfl rfl rfl fun w Q hQr hQn hQp => ?_
 replace H := topE H
 unfold laws_markIntS.f at H
 dsimp only [ud, un]
 refine sr fun K1 hK1 => ag (HL_nil (hK1 _ _ ?_))
 dsimp only [putL, setL, evL, getL]
 refine HT_seq_k fun K2 hK2 => sr fun K3 hK3 => ag (HL_nil (hK3 _ _ ?_))
 dsimp only [putL, setL, evL, getL]
 refine joinH H fun G4 hG4 H => ?_
 refine HT_toK (fun l' s' => ∃ (x33 : Int) (x34 : List (Int)), G4 (x33, x34) = some r ∧ skim [1] l' = ([.int .i64 x33], 18) ∧ Hp sb s F0 s' [Ck.ol OI 3 A0p c0p x34] ∧ x34.length = p0.length) ?_ ?_
 ·intro K4 hK4
  refine HT_block ?_
  refine HT_loopK (fun kf l' s' => ∃ (x42 : List (Int)) (x43 : Int) (x44 : Int), (laws_markIntS.l1 p0 kf x42 x43 x44).bind G4 = some r ∧ skim [0, 0, 3] l' = ([.slice A0p p0.length c0p, .int .i64 x43, .int .i64 x44], 14) ∧ Hp sb s F0 s' [Ck.ol OI 3 A0p c0p x42] ∧ x42.length = p0.length) ((((p0.length : Int)) - (0)).toNat + 2) ⟨p0, p1, 0, H, rfl, hH, rfl⟩ ?_
  rintro kf l' s55 ⟨x42, x43, x44, H, hl, hH, hl42⟩ K55 hK55
  revert l'
  refine skA ?_
  dsimp only [Al, Sk]
  intros
  cases kf with
  | zero => simp [laws_markIntS.l1] at H
  | succ kf =>
   rw [laws_markIntS.l1] at H
   refine HT_seq_k fun K56 hK56 => sr fun K57 hK57 => mv (mv (hc (o_len rfl Try.underlying24 ?_)))
   dsimp only [putL, setL, evL, getL]
   refine bn rfl rfl rfl (HL_nil (hK57 _ _ ?_))
   dsimp only [putL, setL, evL, getL]
   revert H
   refine ct rfl (fun hb58 H => ?_) (fun hb58 H => ?_)
   ·refine HT_skip (hK56 _ _ (HT_seq_k fun K59 hK59 => (HT_block (sr fun K60 hK60 => (mv (mv (mv ?_)))))))
    replace H := headE H
    obtain ⟨u61, hu61, H⟩ := H
    obtain ⟨b61, o61, cs61, hA61, hr61, hh61, hel61⟩ := hH.elo 0 rfl hu61
    obtain rfl := hr61
    try dsimp only [putL, setL, evL, getL]
    refine hc (hel61 s55 (sliceLen hl42) rfl Try.underlying24 tI3 ?_)
    replace H := headE H
    obtain ⟨x62, hx62, H⟩ := H
    refine hc (o_setF (vs := [.int .i64 x43]) (u := x43) hH 0 rfl rfl rfl rfl rfl tI3 hA61 hx62 (Ent.own (Ent.flat rfl)) ?_)
    clear hH
    intro s62 hH
    have hl62 := (st?_len hx62).trans hl42
    refine HL_nil (hK60 _ _ ?_)
    try dsimp only [putL, setL, evL, getL]
    refine HT_region ?_
    refine mv (bn rfl rfl rfl (ag (HL_nil (hK59 _ _ ?_))))
    dsimp only [putL, setL, evL, getL]
    refine HT_region ?_
    refine mv (bn rfl rfl rfl (ag (HL_nil ?_)))
    exact hK55 _ _ ⟨kf, Nat.lt_succ_self kf, x62, IntKind.i64.wrap (x43 + 1), IntKind.i64.wrap (x44 + 1), H, rfl, hH, hl62⟩
   ·refine HT_exit ?_
    exact hK4 _ _ ⟨x43, x42, H, rfl, hH, hl42⟩
 ·rintro l' s63 ⟨x33, x34, H, hl, hH, hl34⟩
  revert l'
  refine skA ?_
  dsimp only [Al, Sk]
  intros
  replace H := hG4 _ H
  try dsimp only at H
  refine hK2 _ _ ?_
  refine sr fun K64 hK64 => ?_
  try dsimp only [putL, setL, evL, getL]
  refine mv (ag (HL_nil (hK64 _ _ ?_)))
  dsimp only [putL, setL, evL, getL]
  refine HT_ret ?_
  exact hQr _ _ [.int .i64 x33] _ ⟨rfl, trivial⟩ H ⟨rfl, hH, hl34⟩
def laws_markReS.l1 (p0 : List ((Int) × (List (Int)))) : Nat → (List ((Int) × (List (Int)))) → Int → Int → Option (Int × (List ((Int) × (List (Int)))))
 | 0, _, _, _ => none
 | kf + 1, x78, x79, x80 => if (decide (x80 < (p0.length : Int))) = true then ((rd? x78 x80).bind fun u106 => (st? x78 x80 (x79, u106.2)).bind fun x108 => (rd? x108 x80).bind fun u110 => (laws_markIntS.f u110.2 (IntKind.i64.wrap (x79 + 1))).bind fun u114 => (st? x108 x80 (u110.1, u114.2)).bind fun x116 => laws_markReS.l1 p0 kf x116 u114.1 (IntKind.i64.wrap (x80 + 1))) else (some (x79, x78))
def laws_markReS.f (p0 : List ((Int) × (List (Int)))) (p1 : Int) : Option (Int × (List ((Int) × (List (Int))))) := (laws_markReS.l1 p0 ((((p0.length : Int)) - (0)).toNat + 2) p0 p1 0).bind fun (o : Int × (List ((Int) × (List (Int))))) => match o with | (x60, x61) => (some (x60, x61))
def laws_markReS.post (sb s : St) (F0 : Fp) (A0p : Option Addr) (c0p : Nat) (p0 : List ((Int) × (List (Int)))) (r : Int × (List ((Int) × (List (Int))))) : Value → St → Prop := fun v s' => v = .int .i64 r.1 ∧ Hp sb s F0 s' [Ck.ol OS139 139 A0p c0p r.2] ∧ r.2.length = p0.length
set_option maxRecDepth 100000 in
set_option maxHeartbeats 4000000 in
theorem laws_markReS.ok (sb s : St) (F0 : Fp) (A0p : Option Addr) (c0p : Nat) (p0 : List ((Int) × (List (Int)))) (p1 : Int) (hH : Hp sb s F0 s [Ck.ol OS139 139 A0p c0p p0]) (r : Int × (List ((Int) × (List (Int))))) (H : laws_markReS.f p0 p1 = some r) : GCall Try.prog 45 #[.slice A0p p0.length c0p, .int .i64 p1] s (laws_markReS.post sb s F0 A0p c0p p0 r) := by
 refine GCall_ofr (laws_markReS.post sb s F0 A0p c0p p0) [.tmp 4] (ud [.slice A0p p0.length c0p, .int .i64 p1] 25) Try.func45 rfl rfl rfl fun w Q hQr hQn hQp => ?_
 replace H := topE H
 unfold laws_markReS.f at H
 dsimp only [ud, un]
 refine sr fun K1 hK1 => ag (HL_nil (hK1 _ _ ?_))
 dsimp only [putL, setL, evL, getL]
 refine HT_seq_k fun K2 hK2 => sr fun K3 hK3 => ag (HL_nil (hK3 _ _ ?_))
 dsimp only [putL, setL, evL, getL]
 refine joinH H fun G4 hG4 H => ?_
 refine HT_toK (fun l' s' => ∃ (x60 : Int) (x61 : List ((Int) × (List (Int)))), G4 (x60, x61) = some r ∧ skim [1] l' = ([.int .i64 x60], 26) ∧ Hp sb s F0 s' [Ck.ol OS139 139 A0p c0p x61] ∧ x61.length = p0.length) ?_ ?_
 ·intro K4 hK4
  refine HT_block ?_
  refine HT_loopK (fun kf l' s' => ∃ (x78 : List ((Int) × (List (Int)))) (x79 : Int) (x80 : Int), (laws_markReS.l1 p0 kf x78 x79 x80).bind G4 = some r ∧ skim [0, 0, 3] l' = ([.slice A0p p0.length c0p, .int .i64 x79, .int .i64 x80], 22) ∧ Hp sb s F0 s' [Ck.ol OS139 139 A0p c0p x78] ∧ x78.length = p0.length) ((((p0.length : Int)) - (0)).toNat + 2) ⟨p0, p1, 0, H, rfl, hH, rfl⟩ ?_
  rintro kf l' s100 ⟨x78, x79, x80, H, hl, hH, hl78⟩ K100 hK100
  revert l'
  refine skA ?_
  dsimp only [Al, Sk]
  intros
  cases kf with
  | zero => simp [laws_markReS.l1] at H
  | succ kf =>
   rw [laws_markReS.l1] at H
   refine HT_seq_k fun K101 hK101 => sr fun K102 hK102 => mv (mv (hc (o_len rfl Try.underlying57 ?_)))
   dsimp only [putL, setL, evL, getL]
   refine bn rfl rfl rfl (HL_nil (hK102 _ _ ?_))
   dsimp only [putL, setL, evL, getL]
   revert H
   refine ct rfl (fun hb103 H => ?_) (fun hb103 H => ?_)
   ·refine HT_skip (hK101 _ _ (HT_seq_k fun K104 hK104 => (HT_block (sr fun K105 hK105 => (mv (mv (mv ?_)))))))
    replace H := headE H
    obtain ⟨u106, hu106, H⟩ := H
    obtain ⟨b106, o106, cs106, hA106, hr106, hh106, hel106⟩ := hH.elo 0 rfl hu106
    obtain ⟨_, _, rfl, rfl, ⟨A107, c107, rfl, D107⟩⟩ := hr106
    try dsimp only [putL, setL, evL, getL]
    refine hc (hel106 s100 (sliceLen hl78) rfl Try.underlying57 tI139 (hc (o_faddr' (ft := 3) (off := 0) rfl Try.underlying139 rfl tI3 (by decide) ?_)))
    replace H := headE H
    obtain ⟨x108, hx108, H⟩ := H
    refine hc (o_setf (u := u106) (u' := (x79, u106.2)) (off := 0) hH 0 rfl rfl rfl rfl tI3 hA106 hu106 (Fup.left Fup.int) hx108 ?_)
    clear hH
    intro s108 hH
    have hl108 := (st?_len hx108).trans hl78
    refine HL_nil (hK105 _ _ ?_)
    try dsimp only [putL, setL, evL, getL]
    refine sr fun K109 hK109 => mv (bn rfl rfl rfl (ag (HL_nil (hK109 _ _ ?_))))
    dsimp only [putL, setL, evL, getL]
    refine HT_region ?_
    refine mv (mv ?_)
    replace H := headE H
    obtain ⟨u110, hu110, H⟩ := H
    obtain ⟨b110, o110, vs110, hA110, -, hH⟩ := hH.open 0 rfl rfl hu110
    obtain ⟨v111, v112, rfl, hH⟩ := hH.el_pair 1 rfl rfl
    obtain rfl := hH.el_rep 1 rfl
    replace hH := hH.drop 1 rfl
    obtain ⟨A113, c113, rfl, hH⟩ := hH.el_sl 2 rfl rfl
    refine hc (iaddr_of (K := KS139) hA110 hu110 s108 (sliceLen hl108) rfl Try.underlying57 tI139 ?_)
    dsimp only [putL, setL, evL, getL]
    refine hc (o_faddr' (ft := 24) (off := 1) rfl Try.underlying139 rfl tI24 (by decide) (hc (o_load' rfl Try.underlying24 rfl (hH.hasoh 0 rfl hA110 1 _ rfl) (mv ?_))))
    replace H := headE H
    obtain ⟨u114, hu114, H⟩ := H
    obtain ⟨F1, hA, hB⟩ := hH.take [2] (by decide)
    dsimp only [addC, setC, rmC, selC, getC] at hA
    try dsimp only [putL, setL, evL, getL]
    refine hc (o_call (args := #[.slice A113 u110.2.length c113, .int .i64 (IntKind.i64.wrap (x79 + 1))]) Try.func89 rfl rfl rfl (laws_markIntS.ok sb s108 F1 A113 c113 u110.2 (IntKind.i64.wrap (x79 + 1)) hA _ hu114) ?_)
    rintro _ s114 ⟨rfl, hD, hl115⟩
    replace hH := hB _ _ _ (Up.refl _ _ _) hD
    clear hD hA hB
    refine ag (HL_nil (hK104 _ _ ?_))
    dsimp only [putL, setL, evL, getL]
    refine HT_region ?_
    refine mv (bn rfl rfl rfl (ag (HL_nil ?_)))
    replace hH := hH.conv [3] (by decide) (d := Ck.el OS139 [.int .i64 u110.1, .slice A113 u110.2.length c113] (u110.1, u114.2)) (Ent.pair (v1 := [.int .i64 u110.1]) (v2 := [.slice A113 u110.2.length c113]) (x1 := u110.1) (x2 := u114.2) (Ent.flat rfl) (Ent.slL hl115))
    replace H := headE H
    obtain ⟨x116, hx116, H⟩ := H
    replace hH := hH.close (i := x80) 0 4 (by decide) rfl rfl rfl hx116
    have hl116 := (st?_len hx116).trans hl108
    exact hK100 _ _ ⟨kf, Nat.lt_succ_self kf, x116, u114.1, IntKind.i64.wrap (x80 + 1), H, rfl, hH.sel [0] (by decide), hl116⟩
   ·refine HT_exit ?_
    exact hK4 _ _ ⟨x79, x78, H, rfl, hH, hl78⟩
 ·rintro l' s117 ⟨x60, x61, H, hl, hH, hl61⟩
  revert l'
  refine skA ?_
  dsimp only [Al, Sk]
  intros
  replace H := hG4 _ H
  try dsimp only at H
  refine hK2 _ _ ?_
  refine sr fun K118 hK118 => ?_
  try dsimp only [putL, setL, evL, getL]
  refine mv (ag (HL_nil (hK118 _ _ ?_)))
  dsimp only [putL, setL, evL, getL]
  refine HT_ret ?_
  exact hQr _ _ [.int .i64 x60] _ ⟨rfl, trivial⟩ H ⟨rfl, hH, hl61⟩
def laws_markSpanS.l1 (p0 : List ((Int) × (Int) × (Int))) : Nat → (List ((Int) × (Int) × (Int))) → Int → Int → Option (Int × (List ((Int) × (Int) × (Int))))
 | 0, _, _, _ => none
 | kf + 1, x74, x75, x76 => if (decide (x76 < (p0.length : Int))) = true then ((rd? x74 x76).bind fun u101 => (st? x74 x76 (x75, u101.2.1, u101.2.2)).bind fun x102 => (rd? x102 x76).bind fun u105 => (st? x102 x76 (u105.1, IntKind.i64.wrap (x75 + 1), u105.2.2)).bind fun x106 => (rd? x106 x76).bind fun u109 => (st? x106 x76 (u109.1, u109.2.1, IntKind.i64.wrap ((IntKind.i64.wrap (x75 + 1)) + 1))).bind fun x110 => laws_markSpanS.l1 p0 kf x110 (IntKind.i64.wrap ((IntKind.i64.wrap ((IntKind.i64.wrap (x75 + 1)) + 1)) + 1)) (IntKind.i64.wrap (x76 + 1))) else (some (x75, x74))
def laws_markSpanS.f (p0 : List ((Int) × (Int) × (Int))) (p1 : Int) : Option (Int × (List ((Int) × (Int) × (Int)))) := (laws_markSpanS.l1 p0 ((((p0.length : Int)) - (0)).toNat + 2) p0 p1 0).bind fun (o : Int × (List ((Int) × (Int) × (Int)))) => match o with | (x57, x58) => (some (x57, x58))
def laws_markSpanS.post (sb s : St) (F0 : Fp) (A0p : Option Addr) (c0p : Nat) (p0 : List ((Int) × (Int) × (Int))) (r : Int × (List ((Int) × (Int) × (Int)))) : Value → St → Prop := fun v s' => v = .int .i64 r.1 ∧ Hp sb s F0 s' [Ck.ol OS138 138 A0p c0p r.2] ∧ r.2.length = p0.length
set_option maxRecDepth 100000 in
set_option maxHeartbeats 4000000 in
theorem laws_markSpanS.ok (sb s : St) (F0 : Fp) (A0p : Option Addr) (c0p : Nat) (p0 : List ((Int) × (Int) × (Int))) (p1 : Int) (hH : Hp sb s F0 s [Ck.ol OS138 138 A0p c0p p0]) (r : Int × (List ((Int) × (Int) × (Int)))) (H : laws_markSpanS.f p0 p1 = some r) : GCall Try.prog 46 #[.slice A0p p0.length c0p, .int .i64 p1] s (laws_markSpanS.post sb s F0 A0p c0p p0 r) := by
 refine GCall_ofr (laws_markSpanS.post sb s F0 A0p c0p p0) [.tmp 4] (ud [.slice A0p p0.length c0p, .int .i64 p1] 32) Try.func46 rfl rfl rfl fun w Q hQr hQn hQp => ?_
 replace H := topE H
 unfold laws_markSpanS.f at H
 dsimp only [ud, un]
 refine sr fun K1 hK1 => ag (HL_nil (hK1 _ _ ?_))
 dsimp only [putL, setL, evL, getL]
 refine HT_seq_k fun K2 hK2 => sr fun K3 hK3 => ag (HL_nil (hK3 _ _ ?_))
 dsimp only [putL, setL, evL, getL]
 refine joinH H fun G4 hG4 H => ?_
 refine HT_toK (fun l' s' => ∃ (x57 : Int) (x58 : List ((Int) × (Int) × (Int))), G4 (x57, x58) = some r ∧ skim [1] l' = ([.int .i64 x57], 33) ∧ Hp sb s F0 s' [Ck.ol OS138 138 A0p c0p x58] ∧ x58.length = p0.length) ?_ ?_
 ·intro K4 hK4
  refine HT_block ?_
  refine HT_loopK (fun kf l' s' => ∃ (x74 : List ((Int) × (Int) × (Int))) (x75 : Int) (x76 : Int), (laws_markSpanS.l1 p0 kf x74 x75 x76).bind G4 = some r ∧ skim [0, 0, 3] l' = ([.slice A0p p0.length c0p, .int .i64 x75, .int .i64 x76], 29) ∧ Hp sb s F0 s' [Ck.ol OS138 138 A0p c0p x74] ∧ x74.length = p0.length) ((((p0.length : Int)) - (0)).toNat + 2) ⟨p0, p1, 0, H, rfl, hH, rfl⟩ ?_
  rintro kf l' s95 ⟨x74, x75, x76, H, hl, hH, hl74⟩ K95 hK95
  revert l'
  refine skA ?_
  dsimp only [Al, Sk]
  intros
  cases kf with
  | zero => simp [laws_markSpanS.l1] at H
  | succ kf =>
   rw [laws_markSpanS.l1] at H
   refine HT_seq_k fun K96 hK96 => sr fun K97 hK97 => mv (mv (hc (o_len rfl Try.underlying54 ?_)))
   dsimp only [putL, setL, evL, getL]
   refine bn rfl rfl rfl (HL_nil (hK97 _ _ ?_))
   dsimp only [putL, setL, evL, getL]
   revert H
   refine ct rfl (fun hb98 H => ?_) (fun hb98 H => ?_)
   ·refine HT_skip (hK96 _ _ (HT_seq_k fun K99 hK99 => (HT_block (sr fun K100 hK100 => (mv (mv (mv ?_)))))))
    replace H := headE H
    obtain ⟨u101, hu101, H⟩ := H
    obtain ⟨b101, o101, cs101, hA101, hr101, hh101, hel101⟩ := hH.elo 0 rfl hu101
    obtain ⟨_, _, rfl, rfl, ⟨_, _, rfl, rfl, rfl⟩⟩ := hr101
    try dsimp only [putL, setL, evL, getL]
    refine hc (hel101 s95 (sliceLen hl74) rfl Try.underlying54 tI138 (hc (o_faddr' (ft := 3) (off := 0) rfl Try.underlying138 rfl tI3 (by decide) ?_)))
    replace H := headE H
    obtain ⟨x102, hx102, H⟩ := H
    refine hc (o_setf (u := u101) (u' := (x75, u101.2.1, u101.2.2)) (off := 0) hH 0 rfl rfl rfl rfl tI3 hA101 hu101 (Fup.left Fup.int) hx102 ?_)
    clear hH
    intro s102 hH
    have hl102 := (st?_len hx102).trans hl74
    refine HL_nil (hK100 _ _ ?_)
    try dsimp only [putL, setL, evL, getL]
    refine sr fun K103 hK103 => mv (bn rfl rfl rfl (ag (HL_nil (hK103 _ _ ?_))))
    dsimp only [putL, setL, evL, getL]
    refine sr fun K104 hK104 => mv (mv (mv ?_))
    replace H := headE H
    obtain ⟨u105, hu105, H⟩ := H
    obtain ⟨b105, o105, cs105, hA105, hr105, hh105, hel105⟩ := hH.elo 0 rfl hu105
    obtain ⟨_, _, rfl, rfl, ⟨_, _, rfl, rfl, rfl⟩⟩ := hr105
    try dsimp only [putL, setL, evL, getL]
    refine hc (hel105 s102 (sliceLen hl102) rfl Try.underlying54 tI138 (hc (o_faddr' (ft := 3) (off := 1) rfl Try.underlying138 rfl tI3 (by decide) ?_)))
    replace H := headE H
    obtain ⟨x106, hx106, H⟩ := H
    refine hc (o_setf (u := u105) (u' := (u105.1, IntKind.i64.wrap (x75 + 1), u105.2.2)) (off := 1) hH 0 rfl rfl rfl rfl tI3 hA105 hu105 (Fup.right (Fup.left Fup.int)) hx106 ?_)
    clear hH
    intro s106 hH
    have hl106 := (st?_len hx106).trans hl102
    refine HL_nil (hK104 _ _ ?_)
    try dsimp only [putL, setL, evL, getL]
    refine sr fun K107 hK107 => mv (bn rfl rfl rfl (ag (HL_nil (hK107 _ _ ?_))))
    dsimp only [putL, setL, evL, getL]
    refine sr fun K108 hK108 => mv (mv (mv ?_))
    replace H := headE H
    obtain ⟨u109, hu109, H⟩ := H
    obtain ⟨b109, o109, cs109, hA109, hr109, hh109, hel109⟩ := hH.elo 0 rfl hu109
    obtain ⟨_, _, rfl, rfl, ⟨_, _, rfl, rfl, rfl⟩⟩ := hr109
    try dsimp only [putL, setL, evL, getL]
    refine hc (hel109 s106 (sliceLen hl106) rfl Try.underlying54 tI138 (hc (o_faddr' (ft := 3) (off := 2) rfl Try.underlying138 rfl tI3 (by decide) ?_)))
    replace H := headE H
    obtain ⟨x110, hx110, H⟩ := H
    refine hc (o_setf (u := u109) (u' := (u109.1, u109.2.1, IntKind.i64.wrap ((IntKind.i64.wrap (x75 + 1)) + 1))) (off := 2) hH 0 rfl rfl rfl rfl tI3 hA109 hu109 (Fup.right (Fup.right Fup.int)) hx110 ?_)
    clear hH
    intro s110 hH
    have hl110 := (st?_len hx110).trans hl106
    refine HL_nil (hK108 _ _ ?_)
    try dsimp only [putL, setL, evL, getL]
    refine HT_region ?_
    refine mv (bn rfl rfl rfl (ag (HL_nil (hK99 _ _ ?_))))
    dsimp only [putL, setL, evL, getL]
    refine HT_region ?_
    refine mv (bn rfl rfl rfl (ag (HL_nil ?_)))
    exact hK95 _ _ ⟨kf, Nat.lt_succ_self kf, x110, IntKind.i64.wrap ((IntKind.i64.wrap ((IntKind.i64.wrap (x75 + 1)) + 1)) + 1), IntKind.i64.wrap (x76 + 1), H, rfl, hH, hl110⟩
   ·refine HT_exit ?_
    exact hK4 _ _ ⟨x75, x74, H, rfl, hH, hl74⟩
 ·rintro l' s111 ⟨x57, x58, H, hl, hH, hl58⟩
  revert l'
  refine skA ?_
  dsimp only [Al, Sk]
  intros
  replace H := hG4 _ H
  try dsimp only at H
  refine hK2 _ _ ?_
  refine sr fun K112 hK112 => ?_
  try dsimp only [putL, setL, evL, getL]
  refine mv (ag (HL_nil (hK112 _ _ ?_)))
  dsimp only [putL, setL, evL, getL]
  refine HT_ret ?_
  exact hQr _ _ [.int .i64 x57] _ ⟨rfl, trivial⟩ H ⟨rfl, hH, hl58⟩
def laws_heldSpanS.l1 (p0 : List ((Int) × (Int) × (Int))) : Nat → Int → Int → Option (Lo Int Int)
 | 0, _, _ => none
 | kf + 1, x95, x96 => if (decide (x96 < (p0.length : Int))) = true then ((rd? p0 x96).bind fun u127 => if (u127.1 != x95) = true then ((some (-1)).bind fun z => some (Lo.ret z)) else ((rd? p0 x96).bind fun u133 => if (u133.2.1 != (IntKind.i64.wrap (x95 + 1))) = true then ((some (-1)).bind fun z => some (Lo.ret z)) else ((rd? p0 x96).bind fun u139 => if (u139.2.2 != (IntKind.i64.wrap ((IntKind.i64.wrap (x95 + 1)) + 1))) = true then ((some (-1)).bind fun z => some (Lo.ret z)) else (laws_heldSpanS.l1 p0 kf (IntKind.i64.wrap ((IntKind.i64.wrap ((IntKind.i64.wrap (x95 + 1)) + 1)) + 1)) (IntKind.i64.wrap (x96 + 1)))))) else (some (Lo.go x95))
def laws_heldSpanS.f (p0 : List ((Int) × (Int) × (Int))) (p1 : Int) : Option Int := (laws_heldSpanS.l1 p0 ((((p0.length : Int)) - (0)).toNat + 2) p1 0).bind fun (o : Lo Int Int) => match o with | .go x73 => (some x73) | .ret z => some z
def laws_heldSpanS.post (sb s : St) (F0 : Fp) (r : Int) : Value → St → Prop := fun v s' => v = .int .i64 r ∧ Hp sb s F0 s' []
set_option maxRecDepth 100000 in
set_option maxHeartbeats 4000000 in
theorem laws_heldSpanS.ok (sb s : St) (F0 : Fp) (A0p : Option Addr) (c0p : Nat) (p0 : List ((Int) × (Int) × (Int))) (p1 : Int) (HRp0 : Rd KS138 sb A0p c0p p0) (hH : Hp sb s F0 s []) (r : Int) (H : laws_heldSpanS.f p0 p1 = some r) : GCall Try.prog 47 #[.slice A0p p0.length c0p, .int .i64 p1] s (laws_heldSpanS.post sb s F0 r) := by
 refine GCall_ofr (laws_heldSpanS.post sb s F0) [.tmp 4] (ud [.slice A0p p0.length c0p, .int .i64 p1] 38) Try.func47 rfl rfl rfl fun w Q hQr hQn hQp => ?_
 replace H := topE H
 unfold laws_heldSpanS.f at H
 dsimp only [ud, un]
 refine sr fun K1 hK1 => ag (HL_nil (hK1 _ _ ?_))
 dsimp only [putL, setL, evL, getL]
 refine HT_seq_k fun K2 hK2 => sr fun K3 hK3 => ag (HL_nil (hK3 _ _ ?_))
 dsimp only [putL, setL, evL, getL]
 refine joinH H fun G4 hG4 H => ?_
 refine HT_toK (fun l' s' => ∃ (x73 : Int), G4 (.go x73) = some r ∧ skim [1] l' = ([.int .i64 x73], 39) ∧ Hp sb s F0 s' []) ?_ ?_
 ·intro K4 hK4
  refine HT_block ?_
  refine HT_loopK (fun kf l' s' => ∃ (x95 : Int) (x96 : Int), (laws_heldSpanS.l1 p0 kf x95 x96).bind G4 = some r ∧ skim [0, 0, 3] l' = ([.slice A0p p0.length c0p, .int .i64 x95, .int .i64 x96], 35) ∧ Hp sb s F0 s' []) ((((p0.length : Int)) - (0)).toNat + 2) ⟨p1, 0, H, rfl, hH⟩ ?_
  rintro kf l' s120 ⟨x95, x96, H, hl, hH⟩ K120 hK120
  revert l'
  refine skA ?_
  dsimp only [Al, Sk]
  intros
  cases kf with
  | zero => simp [laws_heldSpanS.l1] at H
  | succ kf =>
   rw [laws_heldSpanS.l1] at H
   refine HT_seq_k fun K121 hK121 => sr fun K122 hK122 => mv (mv (hc (o_len rfl Try.underlying54 ?_)))
   dsimp only [putL, setL, evL, getL]
   refine bn rfl rfl rfl (HL_nil (hK122 _ _ ?_))
   dsimp only [putL, setL, evL, getL]
   revert H
   refine ct rfl (fun hb123 H => ?_) (fun hb123 H => ?_)
   ·refine HT_skip (hK121 _ _ (HT_seq_k fun K124 hK124 => (HT_block (HT_seq_k fun K125 hK125 => (sr fun K126 hK126 => (mv (mv ?_)))))))
    replace H := headE H
    obtain ⟨u127, hu127, H⟩ := H
    obtain ⟨b127, o127, cs127, hr127, hh127, hel127⟩ := Rd.elb HRp0 hu127
    obtain ⟨_, _, rfl, rfl, ⟨_, _, rfl, rfl, rfl⟩⟩ := hr127
    refine hc (hel127 s120 rfl rfl Try.underlying54 tI138 ?_)
    dsimp only [putL, setL, evL, getL]
    refine hc (o_faddr' (ft := 3) (off := 0) rfl Try.underlying138 rfl tI3 (by decide) (hc (o_load' rfl Try.underlying3 rfl ((hh127 hH.bs.mono) 0 _ rfl) (mv ?_))))
    dsimp only [putL, setL, evL, getL]
    refine bn rfl rfl rfl (HL_nil (hK126 _ _ ?_))
    dsimp only [putL, setL, evL, getL]
    revert H
    refine ct rfl (fun hb128 H => ?_) (fun hb128 H => ?_)
    ·refine sr fun K129 hK129 => ag (HL_nil (hK129 _ _ ?_))
     dsimp only [putL, setL, evL, getL]
     refine HT_ret ?_
     replace H := escH (fun z hz => hG4 _ hz) H
     exact hQr _ _ [.int .i64 (-1)] _ ⟨rfl, trivial⟩ H ⟨rfl, hH⟩
    ·refine HT_skip (hK125 _ _ (sr fun K130 hK130 => (mv (bn rfl rfl rfl (ag (HL_nil (hK130 _ _ ?_)))))))
     dsimp only [putL, setL, evL, getL]
     refine HT_seq_k fun K131 hK131 => sr fun K132 hK132 => mv (mv ?_)
     replace H := headE H
     obtain ⟨u133, hu133, H⟩ := H
     obtain ⟨b133, o133, cs133, hr133, hh133, hel133⟩ := Rd.elb HRp0 hu133
     obtain ⟨_, _, rfl, rfl, ⟨_, _, rfl, rfl, rfl⟩⟩ := hr133
     refine hc (hel133 s120 rfl rfl Try.underlying54 tI138 ?_)
     dsimp only [putL, setL, evL, getL]
     refine hc (o_faddr' (ft := 3) (off := 1) rfl Try.underlying138 rfl tI3 (by decide) (hc (o_load' rfl Try.underlying3 rfl ((hh133 hH.bs.mono) 1 _ rfl) (mv ?_))))
     dsimp only [putL, setL, evL, getL]
     refine bn rfl rfl rfl (HL_nil (hK132 _ _ ?_))
     dsimp only [putL, setL, evL, getL]
     revert H
     refine ct rfl (fun hb134 H => ?_) (fun hb134 H => ?_)
     ·refine sr fun K135 hK135 => ag (HL_nil (hK135 _ _ ?_))
      dsimp only [putL, setL, evL, getL]
      refine HT_ret ?_
      replace H := escH (fun z hz => hG4 _ hz) H
      exact hQr _ _ [.int .i64 (-1)] _ ⟨rfl, trivial⟩ H ⟨rfl, hH⟩
     ·refine HT_skip (hK131 _ _ (sr fun K136 hK136 => (mv (bn rfl rfl rfl (ag (HL_nil (hK136 _ _ ?_)))))))
      dsimp only [putL, setL, evL, getL]
      refine HT_seq_k fun K137 hK137 => sr fun K138 hK138 => mv (mv ?_)
      replace H := headE H
      obtain ⟨u139, hu139, H⟩ := H
      obtain ⟨b139, o139, cs139, hr139, hh139, hel139⟩ := Rd.elb HRp0 hu139
      obtain ⟨_, _, rfl, rfl, ⟨_, _, rfl, rfl, rfl⟩⟩ := hr139
      refine hc (hel139 s120 rfl rfl Try.underlying54 tI138 ?_)
      dsimp only [putL, setL, evL, getL]
      refine hc (o_faddr' (ft := 3) (off := 2) rfl Try.underlying138 rfl tI3 (by decide) (hc (o_load' rfl Try.underlying3 rfl ((hh139 hH.bs.mono) 2 _ rfl) (mv ?_))))
      dsimp only [putL, setL, evL, getL]
      refine bn rfl rfl rfl (HL_nil (hK138 _ _ ?_))
      dsimp only [putL, setL, evL, getL]
      revert H
      refine ct rfl (fun hb140 H => ?_) (fun hb140 H => ?_)
      ·refine sr fun K141 hK141 => ag (HL_nil (hK141 _ _ ?_))
       dsimp only [putL, setL, evL, getL]
       refine HT_ret ?_
       replace H := escH (fun z hz => hG4 _ hz) H
       exact hQr _ _ [.int .i64 (-1)] _ ⟨rfl, trivial⟩ H ⟨rfl, hH⟩
      ·refine HT_skip (hK137 _ _ ?_)
       refine HT_region ?_
       refine mv (bn rfl rfl rfl (ag (HL_nil (hK124 _ _ ?_))))
       dsimp only [putL, setL, evL, getL]
       refine HT_region ?_
       refine mv (bn rfl rfl rfl (ag (HL_nil ?_)))
       exact hK120 _ _ ⟨kf, Nat.lt_succ_self kf, IntKind.i64.wrap ((IntKind.i64.wrap ((IntKind.i64.wrap (x95 + 1)) + 1)) + 1), IntKind.i64.wrap (x96 + 1), H, rfl, hH⟩
   ·refine HT_exit ?_
    exact hK4 _ _ ⟨x95, H, rfl, hH⟩
 ·rintro l' s142 ⟨x73, H, hl, hH⟩
  revert l'
  refine skA ?_
  dsimp only [Al, Sk]
  intros
  replace H := hG4 _ H
  try dsimp only at H
  refine hK2 _ _ ?_
  refine sr fun K143 hK143 => ?_
  try dsimp only [putL, setL, evL, getL]
  refine mv (ag (HL_nil (hK143 _ _ ?_)))
  dsimp only [putL, setL, evL, getL]
  refine HT_ret ?_
  exact hQr _ _ [.int .i64 x73] _ ⟨rfl, trivial⟩ H ⟨rfl, hH⟩
def laws_FnExactParseOf.f (p0 : List ((Int) × (List (Int)))) (p1 : List (Int)) : Option Bool := if (decide ((p1.length : Int) > 1048576)) = true then (some true) else ((laws_szReS.f p0 1048576).bind fun u8 => if (decide (u8 < 0)) = true then (some true) else ((laws_toReS.f p0).bind fun u14 => (laws_toIntS.f p1).bind fun u16 => (spec_ParseOf.f u14 u16).bind fun u18 => (laws_toReS.f p0).bind fun u21 => (laws_toIntS.f p1).bind fun u24 => (impl_ParseOf.f u21 u24).bind fun u27 => ((laws_eqSpanS.f u27.1 u18.1).bind fun u44 => if (!u44) = true then (some true) else (some (u27.2 != u18.2))).bind fun (o : Bool) => match o with | x43 => (if x43 = true then (some false) else ((laws_toReS.f p0).bind fun u51 => (laws_eqReS.f u21 u51).bind fun u53 => if (!u53) = true then (some false) else ((laws_toIntS.f p1).bind fun u58 => (laws_eqIntS.f u24 u58).bind fun u60 => if (!u60) = true then (some false) else ((laws_markReS.f u21 1).bind fun u65 => (laws_markIntS.f u24 u65.1).bind fun u68 => (if (decide (u68.1 < 0)) = true then (some true) else ((laws_eqSpanS.f u27.1 u18.1).bind fun u89 => if (!u89) = true then (some true) else (some (u27.2 != u18.2)))).bind fun (o : Bool) => match o with | x87 => (if x87 = true then (some false) else ((laws_markSpanS.f u27.1 1).bind fun u96 => (laws_heldSpanS.f u96.2 1).bind fun u100 => if (decide (u100 < 0)) = true then (some false) else (if (u100 != u96.1) = true then (some false) else ((laws_toReS.f p0).bind fun u110 => (laws_toIntS.f p1).bind fun u112 => (impl_ParseOf.f u110 u112).bind fun u114 => ((laws_eqSpanS.f u114.1 u18.1).bind fun u131 => if (!u131) = true then (some true) else (some (u114.2 != u18.2))).bind fun (o : Bool) => match o with | x130 => (if x130 = true then (some false) else ((laws_heldSpanS.f u96.2 1).bind fun u138 => if (decide (u138 < 0)) = true then (some false) else (if (u138 != u96.1) = true then (some false) else (some true))))))))))))))
def laws_FnExactParseOf.post (sb s : St) (F0 : Fp) (r : Bool) : Value → St → Prop := fun v s' => v = .bool r ∧ Hp sb s F0 s' []
set_option maxRecDepth 100000 in
set_option maxHeartbeats 4000000 in
theorem laws_FnExactParseOf.ok (sb s : St) (F0 : Fp) (A0p : Option Addr) (c0p : Nat) (p0 : List ((Int) × (List (Int)))) (A1p : Option Addr) (c1p : Nat) (p1 : List (Int)) (HRp0 : Rd KS135 sb A0p c0p p0) (HRp1 : Rd KI sb A1p c1p p1) (hH : Hp sb s F0 s []) (r : Bool) (H : laws_FnExactParseOf.f p0 p1 = some r) : GCall Try.prog 12 #[.slice A0p p0.length c0p, .slice A1p p1.length c1p] s (laws_FnExactParseOf.post sb s F0 r) := by
 refine GCall_ofr (laws_FnExactParseOf.post sb s F0) [.tmp 4] (ud [.slice A0p p0.length c0p, .slice A1p p1.length c1p] 115) Try.func12 rfl rfl rfl fun w Q hQr hQn hQp => ?_
 replace H := topE H
 unfold laws_FnExactParseOf.f at H
 dsimp only [ud, un]
 refine sr fun K1 hK1 => ag (HL_nil (hK1 _ _ ?_))
 dsimp only [putL, setL, evL, getL]
 refine HT_seq_k fun K2 hK2 => sr fun K3 hK3 => mv (hc (o_len rfl Try.underlying24 (bn rfl rfl rfl (HL_nil (hK3 _ _ ?_)))))
 dsimp only [putL, setL, evL, getL]
 revert H
 refine ct rfl (fun hb4 H => ?_) (fun hb4 H => ?_)
 ·refine sr fun K5 hK5 => ag (HL_nil (hK5 _ _ ?_))
  dsimp only [putL, setL, evL, getL]
  refine HT_ret ?_
  exact hQr _ _ [.bool true] _ ⟨rfl, trivial⟩ H ⟨rfl, hH⟩
 ·refine HT_skip (hK2 _ _ (sr fun K6 hK6 => (ag (HL_nil (hK6 _ _ ?_)))))
  dsimp only [putL, setL, evL, getL]
  refine sr fun K7 hK7 => mv (mv ?_)
  replace H := headE H
  obtain ⟨u8, hu8, H⟩ := H
  refine hc (o_call (args := #[.slice A0p p0.length c0p, .int .i64 1048576]) Try.func37 rfl rfl rfl (laws_szReS.ok sb s no A0p c0p p0 1048576 HRp0 (Hp.own hH.bs) _ hu8) ?_)
  rintro _ s8 ⟨rfl, hD⟩
  replace hH := hH.back0 hD (Up.refl _ _ _)
  clear hD
  try dsimp only [putL, setL, evL, getL]
  refine ag (HL_nil (hK7 _ _ ?_))
  dsimp only [putL, setL, evL, getL]
  refine HT_seq_k fun K9 hK9 => sr fun K10 hK10 => mv (bn rfl rfl rfl (HL_nil (hK10 _ _ ?_)))
  dsimp only [putL, setL, evL, getL]
  revert H
  refine ct rfl (fun hb11 H => ?_) (fun hb11 H => ?_)
  ·refine sr fun K12 hK12 => ag (HL_nil (hK12 _ _ ?_))
   dsimp only [putL, setL, evL, getL]
   refine HT_ret ?_
   exact hQr _ _ [.bool true] _ ⟨rfl, trivial⟩ H ⟨rfl, hH⟩
  ·refine HT_skip (hK9 _ _ (sr fun K13 hK13 => (mv ?_)))
   replace H := headE H
   obtain ⟨u14, hu14, H⟩ := H
   refine hc (o_call (args := #[.slice A0p p0.length c0p]) Try.func40 rfl rfl rfl (laws_toReS.ok sb s8 no A0p c0p p0 HRp0 (Hp.own hH.bs) _ hu14) ?_)
   rintro _ s14 ⟨A15, c15, rfl, hD⟩
   replace hH := hH.back0 hD (Up.refl _ _ _)
   clear hD
   refine mv ?_
   replace H := headE H
   obtain ⟨u16, hu16, H⟩ := H
   try dsimp only [putL, setL, evL, getL]
   refine hc (o_call (args := #[.slice A1p p1.length c1p]) Try.func61 rfl rfl rfl (laws_toIntS.ok sb s14 no A1p c1p p1 HRp1 (Hp.own hH.bs) _ hu16) ?_)
   rintro _ s16 ⟨A17, c17, rfl, hD⟩
   replace hH := hH.back0 hD (Up.refl _ _ _)
   clear hD
   replace H := headE H
   obtain ⟨u18, hu18, H⟩ := H
   refine hc (o_call (args := #[.slice A15 u14.length c15, .slice A17 u16.length c17]) Try.func91 rfl rfl rfl (spec_ParseOf.ok s16 s16 no A15 c15 u14 A17 c17 u16 (hH.rd 0 rfl) (hH.rd 1 rfl) (Hp.own (Bs.refl s16)) _ hu18) ?_)
   rintro _ s18 ⟨A19, c19, rfl, hD⟩
   replace hH := hH.back0T hD
   clear hD
   refine mv ?_
   dsimp only [putL, setL, evL, getL]
   refine hc (o_extract rfl rfl (hc (o_extract rfl rfl (ag ?_))))
   dsimp only [putL, setL, evL, getL]
   refine ag (HL_nil (hK13 _ _ ?_))
   dsimp only [putL, setL, evL, getL]
   refine sr fun K20 hK20 => mv ?_
   replace H := headE H
   obtain ⟨u21, hu21, H⟩ := H
   refine hc (o_call (args := #[.slice A0p p0.length c0p]) Try.func40 rfl rfl rfl (laws_toReS.ok sb s18 no A0p c0p p0 HRp0 (Hp.own hH.bs) _ hu21) ?_)
   rintro _ s21 ⟨A22, c22, rfl, hD⟩
   replace hH := hH.back0 hD (Up.refl _ _ _)
   clear hD
   refine ag (HL_nil (hK20 _ _ ?_))
   dsimp only [putL, setL, evL, getL]
   refine sr fun K23 hK23 => mv ?_
   replace H := headE H
   obtain ⟨u24, hu24, H⟩ := H
   refine hc (o_call (args := #[.slice A1p p1.length c1p]) Try.func61 rfl rfl rfl (laws_toIntS.ok sb s21 no A1p c1p p1 HRp1 (Hp.own hH.bs) _ hu24) ?_)
   rintro _ s24 ⟨A25, c25, rfl, hD⟩
   replace hH := hH.back0 hD (Up.refl _ _ _)
   clear hD
   refine ag (HL_nil (hK23 _ _ ?_))
   dsimp only [putL, setL, evL, getL]
   refine sr fun K26 hK26 => mv (mv ?_)
   replace H := headE H
   obtain ⟨u27, hu27, H⟩ := H
   refine hc (o_call (args := #[.slice A22 u21.length c22, .slice A25 u24.length c25]) Try.func92 rfl rfl rfl (impl_ParseOf.ok s24 s24 no A22 c22 u21 A25 c25 u24 (hH.rd 3 rfl) (hH.rd 4 rfl) (Hp.own (Bs.refl s24)) _ hu27) ?_)
   rintro _ s27 ⟨A28, c28, rfl, hD⟩
   replace hH := hH.back0T hD
   clear hD
   try dsimp only [putL, setL, evL, getL]
   refine mv (hc (o_extract rfl rfl (hc (o_extract rfl rfl ?_))))
   dsimp only [putL, setL, evL, getL]
   refine ag (ag (HL_nil (hK26 _ _ ?_)))
   dsimp only [putL, setL, evL, getL]
   refine HT_seq_k fun K39 hK39 => ?_
   refine joinH H fun G40 hG40 H => ?_
   refine HT_joinK (fun l' s' => ∃ (x43 : Bool), G40 x43 = some r ∧ skim [0, 0, 4, 0, 0, 0, 0, 0, 39] l' = ([.slice A0p p0.length c0p, .slice A1p p1.length c1p, .slice A19 u18.1.length c19, .bool u18.2, .slice A22 u21.length c22, .slice A25 u24.length c25, .slice A28 u27.1.length c28, .bool u27.2, .bool x43], 66) ∧ Hp sb s F0 s' [Ck.ol OS138 138 A19 c19 u18.1, Ck.ol OS139 139 A22 c22 u21, Ck.ol OI 3 A25 c25 u24, Ck.ol OS138 138 A28 c28 u27.1]) ?_ ?_
   ·intro K40 hK40
    refine HT_region ?_
    refine mv (mv ?_)
    replace H := headE H
    obtain ⟨u44, hu44, H⟩ := H
    refine hc (o_call (args := #[.slice A28 u27.1.length c28, .slice A19 u18.1.length c19]) Try.func43 rfl rfl rfl (laws_eqSpanS.ok s27 s27 no A28 c28 u27.1 A19 c19 u18.1 (hH.rd 5 rfl) (hH.rd 2 rfl) (Hp.own (Bs.refl s27)) _ hu44) ?_)
    rintro _ s44 ⟨rfl, hD⟩
    replace hH := hH.back0T hD
    clear hD
    try dsimp only [putL, setL, evL, getL]
    refine hc (o_not rfl (mv ?_))
    revert H
    refine it (fun hb45 H => ?_) (fun hb45 H => ?_)
    ·refine wf rfl rfl rfl rfl hb45 ?_
     dsimp only [putL, setL, evL, getL]
     refine wf rfl rfl rfl rfl hb45 (wf rfl rfl rfl rfl hb45 (hc (o_pickT rfl hb45 (HL_nil ?_))))
     exact hK40 _ _ ⟨true, H, rfl, hH.sel [2, 3, 4, 5] (by decide)⟩
    ·refine wt rfl rfl rfl rfl hb45 (o_move ?_)
     dsimp only [putL, setL, evL, getL]
     refine wt rfl rfl rfl rfl hb45 (o_move (wt rfl rfl rfl rfl hb45 (o_neb rfl rfl Try.underlying4 (hc (o_pickF rfl hb45 (HL_nil ?_))))))
     exact hK40 _ _ ⟨u27.2 != u18.2, H, rfl, hH.sel [2, 3, 4, 5] (by decide)⟩
   ·rintro l' s46 ⟨x43, H, hl, hH⟩
    revert l'
    refine skA ?_
    dsimp only [Al, Sk]
    intros
    replace H := hG40 _ H
    try dsimp only at H
    revert H
    refine ct rfl (fun hb47 H => ?_) (fun hb47 H => ?_)
    ·refine sr fun K48 hK48 => ?_
     try dsimp only [putL, setL, evL, getL]
     refine ag (HL_nil (hK48 _ _ ?_))
     dsimp only [putL, setL, evL, getL]
     refine HT_ret ?_
     exact hQr _ _ [.bool false] _ ⟨rfl, trivial⟩ H ⟨rfl, hH.sel [] (by decide)⟩
    ·refine HT_skip (hK39 _ _ (HT_seq_k fun K49 hK49 => (sr fun K50 hK50 => (mv (mv ?_)))))
     replace H := headE H
     obtain ⟨u51, hu51, H⟩ := H
     refine hc (o_call (args := #[.slice A0p p0.length c0p]) Try.func40 rfl rfl rfl (laws_toReS.ok sb s46 no A0p c0p p0 HRp0 (Hp.own hH.bs) _ hu51) ?_)
     rintro _ s51 ⟨A52, c52, rfl, hD⟩
     replace hH := hH.back0 hD (Up.refl _ _ _)
     clear hD
     replace H := headE H
     obtain ⟨u53, hu53, H⟩ := H
     try dsimp only [putL, setL, evL, getL]
     refine hc (o_call (args := #[.slice A22 u21.length c22, .slice A52 u51.length c52]) Try.func44 rfl rfl rfl (laws_eqReS.ok s51 s51 no A22 c22 u21 A52 c52 u51 (hH.rd 1 rfl) (hH.rd 4 rfl) (Hp.own (Bs.refl s51)) _ hu53) ?_)
     rintro _ s53 ⟨rfl, hD⟩
     replace hH := hH.back0T hD
     clear hD
     refine hc (o_not rfl (HL_nil (hK50 _ _ ?_)))
     dsimp only [putL, setL, evL, getL]
     revert H
     refine ct rfl (fun hb54 H => ?_) (fun hb54 H => ?_)
     ·refine sr fun K55 hK55 => ag (HL_nil (hK55 _ _ ?_))
      dsimp only [putL, setL, evL, getL]
      refine HT_ret ?_
      exact hQr _ _ [.bool false] _ ⟨rfl, trivial⟩ H ⟨rfl, hH.sel [] (by decide)⟩
     ·refine HT_skip (hK49 _ _ (HT_seq_k fun K56 hK56 => (sr fun K57 hK57 => (mv (mv ?_)))))
      replace H := headE H
      obtain ⟨u58, hu58, H⟩ := H
      refine hc (o_call (args := #[.slice A1p p1.length c1p]) Try.func61 rfl rfl rfl (laws_toIntS.ok sb s53 no A1p c1p p1 HRp1 (Hp.own hH.bs) _ hu58) ?_)
      rintro _ s58 ⟨A59, c59, rfl, hD⟩
      replace hH := hH.back0 hD (Up.refl _ _ _)
      clear hD
      replace H := headE H
      obtain ⟨u60, hu60, H⟩ := H
      try dsimp only [putL, setL, evL, getL]
      refine hc (o_call (args := #[.slice A25 u24.length c25, .slice A59 u58.length c59]) Try.func63 rfl rfl rfl (laws_eqIntS.ok s58 s58 no A25 c25 u24 A59 c59 u58 (hH.rd 2 rfl) (hH.rd 5 rfl) (Hp.own (Bs.refl s58)) _ hu60) ?_)
      rintro _ s60 ⟨rfl, hD⟩
      replace hH := hH.back0T hD
      clear hD
      refine hc (o_not rfl (HL_nil (hK57 _ _ ?_)))
      dsimp only [putL, setL, evL, getL]
      revert H
      refine ct rfl (fun hb61 H => ?_) (fun hb61 H => ?_)
      ·refine sr fun K62 hK62 => ag (HL_nil (hK62 _ _ ?_))
       dsimp only [putL, setL, evL, getL]
       refine HT_ret ?_
       exact hQr _ _ [.bool false] _ ⟨rfl, trivial⟩ H ⟨rfl, hH.sel [] (by decide)⟩
      ·refine HT_skip (hK56 _ _ (sr fun K63 hK63 => (ag (HL_nil (hK63 _ _ ?_)))))
       dsimp only [putL, setL, evL, getL]
       refine sr fun K64 hK64 => mv (mv ?_)
       replace H := headE H
       obtain ⟨u65, hu65, H⟩ := H
       obtain ⟨F1, hA, hB⟩ := hH.take [1] (by decide)
       dsimp only [addC, setC, rmC, selC, getC] at hA
       refine hc (o_call (args := #[.slice A22 u21.length c22, .int .i64 1]) Try.func45 rfl rfl rfl (laws_markReS.ok sb s60 F1 A22 c22 u21 1 hA _ hu65) ?_)
       rintro _ s65 ⟨rfl, hD, hl66⟩
       replace hH := hB _ _ _ (Up.refl _ _ _) hD
       clear hD hA hB
       try dsimp only [putL, setL, evL, getL]
       refine ag (HL_nil (hK64 _ _ ?_))
       dsimp only [putL, setL, evL, getL]
       refine sr fun K67 hK67 => mv (mv ?_)
       replace H := headE H
       obtain ⟨u68, hu68, H⟩ := H
       obtain ⟨F1, hA, hB⟩ := hH.take [2] (by decide)
       dsimp only [addC, setC, rmC, selC, getC] at hA
       refine hc (o_call (args := #[.slice A25 u24.length c25, .int .i64 u65.1]) Try.func89 rfl rfl rfl (laws_markIntS.ok sb s65 F1 A25 c25 u24 u65.1 hA _ hu68) ?_)
       rintro _ s68 ⟨rfl, hD, hl69⟩
       replace hH := hB _ _ _ (Up.refl _ _ _) hD
       clear hD hA hB
       try dsimp only [putL, setL, evL, getL]
       refine ag (HL_nil (hK67 _ _ ?_))
       dsimp only [putL, setL, evL, getL]
       refine HT_seq_k fun K82 hK82 => ?_
       refine joinH H fun G83 hG83 H => ?_
       refine HT_joinK (fun l' s' => ∃ (x87 : Bool), G83 x87 = some r ∧ skim [0, 0, 4, 0, 2, 69] l' = ([.slice A0p p0.length c0p, .slice A1p p1.length c1p, .slice A19 u18.1.length c19, .bool u18.2, .slice A28 u27.1.length c28, .bool x87], 37) ∧ Hp sb s F0 s' [Ck.ol OS138 138 A19 c19 u18.1, Ck.ol OS138 138 A28 c28 u27.1]) ?_ ?_
       ·intro K83 hK83
        refine HT_region ?_
        refine mv (bn rfl rfl rfl (mv ?_))
        revert H
        refine it (fun hb88 H => ?_) (fun hb88 H => ?_)
        ·refine wf rfl rfl rfl rfl hb88 ?_
         dsimp only [putL, setL, evL, getL]
         refine wf rfl rfl rfl rfl hb88 (wf rfl rfl rfl rfl hb88 (wf rfl rfl rfl rfl hb88 ?_))
         dsimp only [putL, setL, evL, getL]
         refine hc (o_pickT rfl hb88 (mv (wf rfl rfl rfl rfl rfl ?_)))
         dsimp only [putL, setL, evL, getL]
         refine wf rfl rfl rfl rfl rfl (wf rfl rfl rfl rfl rfl (hc (o_pickT rfl rfl (HL_nil ?_))))
         exact hK83 _ _ ⟨true, H, rfl, hH.sel [0, 3] (by decide)⟩
        ·refine wt rfl rfl rfl rfl hb88 (o_move ?_)
         dsimp only [putL, setL, evL, getL]
         refine wt rfl rfl rfl rfl hb88 (o_move ?_)
         replace H := headE H
         obtain ⟨u89, hu89, H⟩ := H
         refine wt rfl rfl rfl rfl hb88 (o_call (args := #[.slice A28 u27.1.length c28, .slice A19 u18.1.length c19]) Try.func43 rfl rfl rfl (laws_eqSpanS.ok s68 s68 no A28 c28 u27.1 A19 c19 u18.1 (hH.rd 3 rfl) (hH.rd 0 rfl) (Hp.own (Bs.refl s68)) _ hu89) ?_)
         rintro _ s89 ⟨rfl, hD⟩
         replace hH := hH.back0T hD
         clear hD
         refine wt rfl rfl rfl rfl hb88 (o_not rfl ?_)
         dsimp only [putL, setL, evL, getL]
         refine hc (o_pickF rfl hb88 (mv ?_))
         revert H
         refine it (fun hb90 H => ?_) (fun hb90 H => ?_)
         ·refine wf rfl rfl rfl rfl hb90 ?_
          dsimp only [putL, setL, evL, getL]
          refine wf rfl rfl rfl rfl hb90 (wf rfl rfl rfl rfl hb90 (hc (o_pickT rfl hb90 (HL_nil ?_))))
          exact hK83 _ _ ⟨true, H, rfl, hH.sel [0, 3] (by decide)⟩
         ·refine wt rfl rfl rfl rfl hb90 (o_move ?_)
          dsimp only [putL, setL, evL, getL]
          refine wt rfl rfl rfl rfl hb90 (o_move (wt rfl rfl rfl rfl hb90 (o_neb rfl rfl Try.underlying4 (hc (o_pickF rfl hb90 (HL_nil ?_))))))
          exact hK83 _ _ ⟨u27.2 != u18.2, H, rfl, hH.sel [0, 3] (by decide)⟩
       ·rintro l' s91 ⟨x87, H, hl, hH⟩
        revert l'
        refine skA ?_
        dsimp only [Al, Sk]
        intros
        replace H := hG83 _ H
        try dsimp only at H
        revert H
        refine ct rfl (fun hb92 H => ?_) (fun hb92 H => ?_)
        ·refine sr fun K93 hK93 => ?_
         try dsimp only [putL, setL, evL, getL]
         refine ag (HL_nil (hK93 _ _ ?_))
         dsimp only [putL, setL, evL, getL]
         refine HT_ret ?_
         exact hQr _ _ [.bool false] _ ⟨rfl, trivial⟩ H ⟨rfl, hH.sel [] (by decide)⟩
        ·refine HT_skip (hK82 _ _ (sr fun K94 hK94 => (ag (HL_nil (hK94 _ _ ?_)))))
         dsimp only [putL, setL, evL, getL]
         refine sr fun K95 hK95 => mv (mv ?_)
         replace H := headE H
         obtain ⟨u96, hu96, H⟩ := H
         obtain ⟨F1, hA, hB⟩ := hH.take [1] (by decide)
         dsimp only [addC, setC, rmC, selC, getC] at hA
         refine hc (o_call (args := #[.slice A28 u27.1.length c28, .int .i64 1]) Try.func46 rfl rfl rfl (laws_markSpanS.ok sb s91 F1 A28 c28 u27.1 1 hA _ hu96) ?_)
         rintro _ s96 ⟨rfl, hD, hl97⟩
         replace hH := hB _ _ _ (Up.refl _ _ _) hD
         clear hD hA hB
         try dsimp only [putL, setL, evL, getL]
         refine ag (HL_nil (hK95 _ _ ?_))
         dsimp only [putL, setL, evL, getL]
         refine sr fun K98 hK98 => ag (HL_nil (hK98 _ _ ?_))
         dsimp only [putL, setL, evL, getL]
         refine sr fun K99 hK99 => mv (mv ?_)
         replace H := headE H
         obtain ⟨u100, hu100, H⟩ := H
         refine hc (o_call (args := #[.slice A28 u96.2.length c28, .int .i64 1]) Try.func47 rfl rfl (by show ([.slice A28 u27.1.length c28, .int .i64 1] : List Value) = [.slice A28 u96.2.length c28, .int .i64 1]; rw [hl97]; first | done | rfl) (laws_heldSpanS.ok s96 s96 no A28 c28 u96.2 1 (hH.rd 2 rfl) (Hp.own (Bs.refl s96)) _ hu100) ?_)
         rintro _ s100 ⟨rfl, hD⟩
         replace hH := hH.back0T hD
         clear hD
         try dsimp only [putL, setL, evL, getL]
         refine ag (HL_nil (hK99 _ _ ?_))
         dsimp only [putL, setL, evL, getL]
         refine HT_seq_k fun K101 hK101 => sr fun K102 hK102 => mv (bn rfl rfl rfl (HL_nil (hK102 _ _ ?_)))
         dsimp only [putL, setL, evL, getL]
         revert H
         refine ct rfl (fun hb103 H => ?_) (fun hb103 H => ?_)
         ·refine sr fun K104 hK104 => ag (HL_nil (hK104 _ _ ?_))
          dsimp only [putL, setL, evL, getL]
          refine HT_ret ?_
          exact hQr _ _ [.bool false] _ ⟨rfl, trivial⟩ H ⟨rfl, hH.sel [] (by decide)⟩
         ·refine HT_skip (hK101 _ _ (HT_seq_k fun K105 hK105 => (sr fun K106 hK106 => (mv (mv (bn rfl rfl rfl (HL_nil (hK106 _ _ ?_))))))))
          dsimp only [putL, setL, evL, getL]
          revert H
          refine ct rfl (fun hb107 H => ?_) (fun hb107 H => ?_)
          ·refine sr fun K108 hK108 => ag (HL_nil (hK108 _ _ ?_))
           dsimp only [putL, setL, evL, getL]
           refine HT_ret ?_
           exact hQr _ _ [.bool false] _ ⟨rfl, trivial⟩ H ⟨rfl, hH.sel [] (by decide)⟩
          ·refine HT_skip (hK105 _ _ (sr fun K109 hK109 => (mv ?_)))
           replace H := headE H
           obtain ⟨u110, hu110, H⟩ := H
           refine hc (o_call (args := #[.slice A0p p0.length c0p]) Try.func40 rfl rfl rfl (laws_toReS.ok sb s100 no A0p c0p p0 HRp0 (Hp.own hH.bs) _ hu110) ?_)
           rintro _ s110 ⟨A111, c111, rfl, hD⟩
           replace hH := hH.back0 hD (Up.refl _ _ _)
           clear hD
           refine mv ?_
           replace H := headE H
           obtain ⟨u112, hu112, H⟩ := H
           try dsimp only [putL, setL, evL, getL]
           refine hc (o_call (args := #[.slice A1p p1.length c1p]) Try.func61 rfl rfl rfl (laws_toIntS.ok sb s110 no A1p c1p p1 HRp1 (Hp.own hH.bs) _ hu112) ?_)
           rintro _ s112 ⟨A113, c113, rfl, hD⟩
           replace hH := hH.back0 hD (Up.refl _ _ _)
           clear hD
           replace H := headE H
           obtain ⟨u114, hu114, H⟩ := H
           refine hc (o_call (args := #[.slice A111 u110.length c111, .slice A113 u112.length c113]) Try.func92 rfl rfl rfl (impl_ParseOf.ok s112 s112 no A111 c111 u110 A113 c113 u112 (hH.rd 3 rfl) (hH.rd 4 rfl) (Hp.own (Bs.refl s112)) _ hu114) ?_)
           rintro _ s114 ⟨A115, c115, rfl, hD⟩
           replace hH := hH.back0T hD
           clear hD
           refine mv ?_
           dsimp only [putL, setL, evL, getL]
           refine hc (o_extract rfl rfl (hc (o_extract rfl rfl (ag ?_))))
           dsimp only [putL, setL, evL, getL]
           refine ag (HL_nil (hK109 _ _ ?_))
           dsimp only [putL, setL, evL, getL]
           refine HT_seq_k fun K126 hK126 => ?_
           refine joinH H fun G127 hG127 H => ?_
           refine HT_joinK (fun l' s' => ∃ (x130 : Bool), G127 x130 = some r ∧ skim [10, 2, 94] l' = ([.slice A28 u27.1.length c28, .int .i64 u96.1, .bool x130], 9) ∧ Hp sb s F0 s' [Ck.ol OS138 138 A28 c28 u96.2]) ?_ ?_
           ·intro K127 hK127
            refine HT_region ?_
            refine mv (mv ?_)
            replace H := headE H
            obtain ⟨u131, hu131, H⟩ := H
            refine hc (o_call (args := #[.slice A115 u114.1.length c115, .slice A19 u18.1.length c19]) Try.func43 rfl rfl rfl (laws_eqSpanS.ok s114 s114 no A115 c115 u114.1 A19 c19 u18.1 (hH.rd 5 rfl) (hH.rd 0 rfl) (Hp.own (Bs.refl s114)) _ hu131) ?_)
            rintro _ s131 ⟨rfl, hD⟩
            replace hH := hH.back0T hD
            clear hD
            try dsimp only [putL, setL, evL, getL]
            refine hc (o_not rfl (mv ?_))
            revert H
            refine it (fun hb132 H => ?_) (fun hb132 H => ?_)
            ·refine wf rfl rfl rfl rfl hb132 ?_
             dsimp only [putL, setL, evL, getL]
             refine wf rfl rfl rfl rfl hb132 (wf rfl rfl rfl rfl hb132 (hc (o_pickT rfl hb132 (HL_nil ?_))))
             exact hK127 _ _ ⟨true, H, rfl, hH.sel [2] (by decide)⟩
            ·refine wt rfl rfl rfl rfl hb132 (o_move ?_)
             dsimp only [putL, setL, evL, getL]
             refine wt rfl rfl rfl rfl hb132 (o_move (wt rfl rfl rfl rfl hb132 (o_neb rfl rfl Try.underlying4 (hc (o_pickF rfl hb132 (HL_nil ?_))))))
             exact hK127 _ _ ⟨u114.2 != u18.2, H, rfl, hH.sel [2] (by decide)⟩
           ·rintro l' s133 ⟨x130, H, hl, hH⟩
            revert l'
            refine skA ?_
            dsimp only [Al, Sk]
            intros
            replace H := hG127 _ H
            try dsimp only at H
            revert H
            refine ct rfl (fun hb134 H => ?_) (fun hb134 H => ?_)
            ·refine sr fun K135 hK135 => ?_
             try dsimp only [putL, setL, evL, getL]
             refine ag (HL_nil (hK135 _ _ ?_))
             dsimp only [putL, setL, evL, getL]
             refine HT_ret ?_
             exact hQr _ _ [.bool false] _ ⟨rfl, trivial⟩ H ⟨rfl, hH.sel [] (by decide)⟩
            ·refine HT_skip (hK126 _ _ (sr fun K136 hK136 => (ag (HL_nil (hK136 _ _ ?_)))))
             dsimp only [putL, setL, evL, getL]
             refine sr fun K137 hK137 => mv (mv ?_)
             replace H := headE H
             obtain ⟨u138, hu138, H⟩ := H
             refine hc (o_call (args := #[.slice A28 u96.2.length c28, .int .i64 1]) Try.func47 rfl rfl (by show ([.slice A28 u27.1.length c28, .int .i64 1] : List Value) = [.slice A28 u96.2.length c28, .int .i64 1]; rw [hl97]; first | done | rfl) (laws_heldSpanS.ok s133 s133 no A28 c28 u96.2 1 (hH.rd 0 rfl) (Hp.own (Bs.refl s133)) _ hu138) ?_)
             rintro _ s138 ⟨rfl, hD⟩
             replace hH := hH.back0T hD
             clear hD
             try dsimp only [putL, setL, evL, getL]
             refine ag (HL_nil (hK137 _ _ ?_))
             dsimp only [putL, setL, evL, getL]
             refine HT_seq_k fun K139 hK139 => sr fun K140 hK140 => mv (bn rfl rfl rfl (HL_nil (hK140 _ _ ?_)))
             dsimp only [putL, setL, evL, getL]
             revert H
             refine ct rfl (fun hb141 H => ?_) (fun hb141 H => ?_)
             ·refine sr fun K142 hK142 => ag (HL_nil (hK142 _ _ ?_))
              dsimp only [putL, setL, evL, getL]
              refine HT_ret ?_
              exact hQr _ _ [.bool false] _ ⟨rfl, trivial⟩ H ⟨rfl, hH.sel [] (by decide)⟩
             ·refine HT_skip (hK139 _ _ (HT_seq_k fun K143 hK143 => (sr fun K144 hK144 => (mv (mv (bn rfl rfl rfl (HL_nil (hK144 _ _ ?_))))))))
              dsimp only [putL, setL, evL, getL]
              revert H
              refine ct rfl (fun hb145 H => ?_) (fun hb145 H => ?_)
              ·refine sr fun K146 hK146 => ag (HL_nil (hK146 _ _ ?_))
               dsimp only [putL, setL, evL, getL]
               refine HT_ret ?_
               exact hQr _ _ [.bool false] _ ⟨rfl, trivial⟩ H ⟨rfl, hH.sel [] (by decide)⟩
              ·refine HT_skip (hK143 _ _ (sr fun K147 hK147 => (ag (HL_nil (hK147 _ _ ?_)))))
               dsimp only [putL, setL, evL, getL]
               refine HT_ret ?_
               exact hQr _ _ [.bool true] _ ⟨rfl, trivial⟩ H ⟨rfl, hH.sel [] (by decide)⟩
end Go.Proofs.Ytkieinlcpkpcjaa
