/- The functions that the law reaches, as plain functions, each with its contract: printed by a program of the prover's. No conditions: lemmas. -/
import Derived.Test.YtkieinlcpkpcjaaWReplaceIn2
set_option linter.unusedVariables false
set_option linter.unusedSimpArgs false
namespace Go.Proofs.Ytkieinlcpkpcjaa
open Go Go.Proofs.GL
def impl_inSet.f (p0 : List (Int)) (p1 : Int) : Option Bool := (impl_spansOf.f p0).bind fun u4 => (slices_ContainsFunc_impl_span_impl_span_impl_inSet_1.f u4 p1).bind fun u6 => some u6
def impl_inSet.post (sb s : St) (F0 : Fp) (r : Bool) : Value → St → Prop := fun v s' => v = .bool r ∧ Hp sb s F0 s' []
set_option maxRecDepth 100000 in
set_option maxHeartbeats 4000000 in
theorem impl_inSet.ok (sb s : St) (F0 : Fp) (A0p : Option Addr) (c0p : Nat) (p0 : List (Int)) (p1 : Int) (HRp0 : Rd KI sb A0p c0p p0) (hH : Hp sb s F0 s []) (r : Bool) (H : impl_inSet.f p0 p1 = some r) : GCall Try.prog 205 #[.slice A0p p0.length c0p, .int .i64 p1] s (impl_inSet.post sb s F0 r) := by
 refine GCall_ofk [.tmp 4] [.slice A0p p0.length c0p, .int .i64 p1, undef, undef, undef, undef, undef, undef, undef] Try.func205 rfl rfl rfl ?_
 intro w Q hQr hQn hQp
 replace H := topE H
 unfold impl_inSet.f at H
 refine HT_seq_k ?_
 intro K1 hK1
 refine HT_region ?_
 refine HL_cons rfl ?_
 refine o_box1H hH rfl rfl ?_
 intro b2 s2 hH' hG
 replace hH : Hp sb s F0 s2 [Ck.ov b2 [.int .i64 p1] 3] := hH'
 clear hH' hG
 try dsimp only [putL, setL, evL, getL]
 refine HL_cons rfl ?_
 refine o_assign ?_
 try dsimp only [putL, setL, evL, getL]
 refine HL_nil ?_
 refine hK1 _ _ ?_
 refine HT_seq_k ?_
 intro K3 hK3
 refine HT_region ?_
 refine HL_cons rfl ?_
 refine o_move ?_
 try dsimp only [putL, setL, evL, getL]
 replace H := headE H
 obtain ⟨u4, hu4, H⟩ := H
 refine HL_cons rfl ?_
 refine o_call (args := #[.slice A0p p0.length c0p]) Try.func225 rfl rfl rfl (impl_spansOf.ok sb s2 no A0p c0p p0 HRp0 (Hp.own hH.bs) _ hu4) ?_
 rintro _ s4 ⟨A5, c5, rfl, hD⟩
 replace hH := hH.back0 hD (Up.refl _ _ _)
 clear hD
 dsimp only [addC, setC, rmC, selC, getC] at hH
 try dsimp only [putL, setL, evL, getL]
 refine HL_cons rfl ?_
 refine o_func rfl rfl ?_
 try dsimp only [putL, setL, evL, getL]
 replace H := headE H
 obtain ⟨u6, hu6, H⟩ := H
 obtain ⟨F1, sx, hx, hC, hA, hB⟩ := hH.takeT [0] (by decide)
 dsimp only [addC, setC, rmC, selC, getC] at hA
 refine HL_cons rfl ?_
 refine o_call (args := #[.slice A5 u4.length c5, .func (.func 226) #[] #[.pointer (some ⟨b2, 0, none⟩)]]) Try.func224 rfl rfl rfl (slices_ContainsFunc_impl_span_impl_span_impl_inSet_1.ok sx s4 F1 A5 c5 u4 b2 p1 (Ck.rdT hx (hC 1 (by decide)) rfl) hA _ hu6) ?_
 rintro _ s6 ⟨rfl, hD⟩
 replace hH := hB _ _ _ inferInstance hD
 clear hD hA hB hx hC
 dsimp only [addC, setC, rmC, selC, getC] at hH
 try dsimp only [putL, setL, evL, getL]
 refine HL_cons rfl ?_
 refine o_assign ?_
 try dsimp only [putL, setL, evL, getL]
 refine HL_nil ?_
 refine hK3 _ _ ?_
 refine HT_ret ?_
 exact hQr _ _ [.bool u6] ⟨rfl, trivial⟩ (retH (fun r => impl_inSet.post sb s F0 r _ _) (show some _ = some r from H) ⟨rfl, hH.sel [] (by decide)⟩)
def impl_matcher_has.f (p0_0 : List ((Int) × (List (Int)))) (p0_1 : List (List (Int))) (p0_2 : List (Int)) (p0_3 : List (List (List (Bool)))) (p1 : Int) (p2 : Int) (p3 : Int) : Option Bool := (rd? p0_3 p1).bind fun u3 => (rd? u3 p2).bind fun u5 => (rd? u5 p3).bind fun u7 => some u7
def impl_matcher_has.post (sb s : St) (F0 : Fp) (bp0 : Nat) (A0_0p : Option Addr) (c0_0p : Nat) (p0_0 : List ((Int) × (List (Int)))) (A0_1p : Option Addr) (c0_1p : Nat) (p0_1 : List (List (Int))) (A0_2p : Option Addr) (c0_2p : Nat) (p0_2 : List (Int)) (A0_3p : Option Addr) (c0_3p : Nat) (p0_3 : List (List (List (Bool)))) (r : Bool) : Value → St → Prop := fun v s' => v = .bool r ∧ Hp sb s F0 s' [Ck.ov bp0 [.slice A0_0p p0_0.length c0_0p, .slice A0_1p p0_1.length c0_1p, .slice A0_2p p0_2.length c0_2p, .slice A0_3p p0_3.length c0_3p] 165]
set_option maxRecDepth 100000 in
set_option maxHeartbeats 4000000 in
theorem impl_matcher_has.ok (sb s : St) (F0 : Fp) (bp0 : Nat) (A0_0p : Option Addr) (c0_0p : Nat) (p0_0 : List ((Int) × (List (Int)))) (A0_1p : Option Addr) (c0_1p : Nat) (p0_1 : List (List (Int))) (A0_2p : Option Addr) (c0_2p : Nat) (p0_2 : List (Int)) (A0_3p : Option Addr) (c0_3p : Nat) (p0_3 : List (List (List (Bool)))) (p1 : Int) (p2 : Int) (p3 : Int) (HRp0_0 : Rd KS139 sb A0_0p c0_0p p0_0) (HRp0_1 : Rd (Kd.sl KI) sb A0_1p c0_1p p0_1) (HRp0_2 : Rd KI sb A0_2p c0_2p p0_2) (HRp0_3 : Rd (Kd.sl (Kd.sl Kd.bool)) sb A0_3p c0_3p p0_3) (hH : Hp sb s F0 s [Ck.ov bp0 [.slice A0_0p p0_0.length c0_0p, .slice A0_1p p0_1.length c0_1p, .slice A0_2p p0_2.length c0_2p, .slice A0_3p p0_3.length c0_3p] 165]) (r : Bool) (H : impl_matcher_has.f p0_0 p0_1 p0_2 p0_3 p1 p2 p3 = some r) : GCall Try.prog 178 #[.pointer (some ⟨bp0, 0, none⟩), .int .i64 p1, .int .i64 p2, .int .i64 p3] s (impl_matcher_has.post sb s F0 bp0 A0_0p c0_0p p0_0 A0_1p c0_1p p0_1 A0_2p c0_2p p0_2 A0_3p c0_3p p0_3 r) := by
 refine GCall_ofk [.tmp 8] [.pointer (some ⟨bp0, 0, none⟩), .int .i64 p1, .int .i64 p2, .int .i64 p3, undef, undef, undef, undef, undef, undef, undef, undef, undef, undef, undef, undef, undef, undef, undef, undef, undef, undef] Try.func178 rfl rfl rfl ?_
 intro w Q hQr hQn hQp
 replace H := topE H
 unfold impl_matcher_has.f at H
 refine HT_seq_k ?_
 intro K1 hK1
 refine HT_region ?_
 refine HL_cons rfl ?_
 refine o_assign ?_
 try dsimp only [putL, setL, evL, getL]
 refine HL_nil ?_
 refine hK1 _ _ ?_
 refine HT_seq_k ?_
 intro K2 hK2
 refine HT_region ?_
 refine HL_cons rfl ?_
 refine o_move ?_
 try dsimp only [putL, setL, evL, getL]
 refine HL_cons rfl ?_
 refine o_nilck rfl ?_
 try dsimp only [putL, setL, evL, getL]
 refine HL_cons rfl ?_
 refine o_faddr' (ft := 163) (off := 3) rfl Try.underlying165 rfl tI163 (by decide) ?_
 try dsimp only [putL, setL, evL, getL]
 refine HL_cons rfl ?_
 refine o_load' rfl Try.underlying163 rfl (hH.hasv 0 rfl rfl) ?_
 try dsimp only [putL, setL, evL, getL]
 refine HL_cons rfl ?_
 refine o_move ?_
 try dsimp only [putL, setL, evL, getL]
 replace H := headE H
 obtain ⟨u3, hu3, H⟩ := H
 obtain ⟨b3, o3, cs3, hr3, hh3, hel3⟩ := Rd.elb HRp0_3 hu3
 obtain ⟨A4, c4, rfl, D4⟩ := hr3
 refine HL_cons rfl ?_
 refine hel3 s rfl rfl Try.underlying163 tI178 ?_
 try dsimp only [putL, setL, evL, getL]
 refine HL_cons rfl ?_
 refine o_load' rfl Try.underlying178 rfl ((hh3 hH.bs.mono) 0 _ rfl) ?_
 try dsimp only [putL, setL, evL, getL]
 refine HL_cons rfl ?_
 refine o_move ?_
 try dsimp only [putL, setL, evL, getL]
 replace H := headE H
 obtain ⟨u5, hu5, H⟩ := H
 obtain ⟨b5, o5, cs5, hr5, hh5, hel5⟩ := Rd.elb D4 hu5
 obtain ⟨A6, c6, rfl, D6⟩ := hr5
 refine HL_cons rfl ?_
 refine hel5 s rfl rfl Try.underlying178 tI209 ?_
 try dsimp only [putL, setL, evL, getL]
 refine HL_cons rfl ?_
 refine o_load' rfl Try.underlying209 rfl ((hh5 hH.bs.mono) 0 _ rfl) ?_
 try dsimp only [putL, setL, evL, getL]
 refine HL_cons rfl ?_
 refine o_move ?_
 try dsimp only [putL, setL, evL, getL]
 replace H := headE H
 obtain ⟨u7, hu7, H⟩ := H
 obtain ⟨b7, o7, cs7, hr7, hh7, hel7⟩ := Rd.elb D6 hu7
 obtain rfl := hr7
 refine HL_cons rfl ?_
 refine hel7 s rfl rfl Try.underlying209 tI4 ?_
 try dsimp only [putL, setL, evL, getL]
 refine HL_cons rfl ?_
 refine o_load' rfl Try.underlying4 rfl ((hh7 hH.bs.mono) 0 _ rfl) ?_
 try dsimp only [putL, setL, evL, getL]
 refine HL_cons rfl ?_
 refine o_assign ?_
 try dsimp only [putL, setL, evL, getL]
 refine HL_nil ?_
 refine hK2 _ _ ?_
 refine HT_ret ?_
 exact hQr _ _ [.bool u7] ⟨rfl, trivial⟩ (retH (fun r => impl_matcher_has.post sb s F0 bp0 A0_0p c0_0p p0_0 A0_1p c0_1p p0_1 A0_2p c0_2p p0_2 A0_3p c0_3p p0_3 r _ _) (show some _ = some r from H) ⟨rfl, hH⟩)
def impl_matcher_look.l1 (p0_0 : List ((Int) × (List (Int)))) (p0_1 : List (List (Int))) (p0_2 : List (Int)) (p0_3 : List (List (List (Bool)))) (p1 : Int) (p2 : Int) (p3 : Int) (u3 : List (Int)) : Nat → Int → Option (Lo Unit (Lo Unit Bool))
 | 0, _ => none
 | kf + 1, x413 => if (decide (x413 ≤ p3)) = true then (((rd? u3 0).bind fun u471 => (impl_matcher_has.f p0_0 p0_1 p0_2 p0_3 u471 p2 x413).bind fun u472 => if u472 = true then ((impl_matcher_has.f p0_0 p0_1 p0_2 p0_3 p1 x413 p3).bind fun u474 => some u474) else (some false)).bind fun (o : Bool) => match o with | x470 => (if x470 = true then (((some true).bind fun z => some (Lo.ret z)).bind fun z => some (Lo.ret z)) else (impl_matcher_look.l1 p0_0 p0_1 p0_2 p0_3 p1 p2 p3 u3 kf (IntKind.i64.wrap (x413 + 1))))) else (some (Lo.go ()))
def impl_matcher_look.l2 (p0_0 : List ((Int) × (List (Int)))) (p0_1 : List (List (Int))) (p0_2 : List (Int)) (p0_3 : List (List (List (Bool)))) (p2 : Int) (p3 : Int) (u3 : List (Int)) : Nat → Int → Option (Lo Unit Bool)
 | 0, _ => none
 | kf + 1, x627 => if (decide (x627 ≤ p3)) = true then (((rd? u3 0).bind fun u692 => (impl_matcher_has.f p0_0 p0_1 p0_2 p0_3 u692 p2 x627).bind fun u693 => if u693 = true then ((rd? u3 1).bind fun u695 => (impl_matcher_has.f p0_0 p0_1 p0_2 p0_3 u695 x627 p3).bind fun u696 => some u696) else (some false)).bind fun (o : Bool) => match o with | x691 => (if x691 = true then ((some true).bind fun z => some (Lo.ret z)) else (impl_matcher_look.l2 p0_0 p0_1 p0_2 p0_3 p2 p3 u3 kf (IntKind.i64.wrap (x627 + 1))))) else (some (Lo.go ()))
def impl_matcher_look.f (p0_0 : List ((Int) × (List (Int)))) (p0_1 : List (List (Int))) (p0_2 : List (Int)) (p0_3 : List (List (List (Bool)))) (p1 : Int) (p2 : Int) (p3 : Int) : Option Bool := (rd? p0_1 p1).bind fun u3 => (rd? p0_0 p1).bind fun u7 => (if (u7.1 == 1) = true then ((some (p2 == p3)).bind fun z => some (Lo.ret z)) else (if (u7.1 == 2) = true then (if (p3 == (IntKind.i64.wrap (p2 + 1))) = true then ((rd? p0_0 p1).bind fun u252 => (rd? p0_2 p2).bind fun u254 => (impl_inSet.f u252.2 u254).bind fun u255 => (some u255).bind fun z => some (Lo.ret z)) else ((some false).bind fun z => some (Lo.ret z))) else (if (u7.1 == 4) = true then ((rd? u3 0).bind fun u259 => (impl_matcher_has.f p0_0 p0_1 p0_2 p0_3 u259 p2 p3).bind fun u260 => if u260 = true then ((some true).bind fun z => some (Lo.ret z)) else ((rd? u3 1).bind fun u262 => (impl_matcher_has.f p0_0 p0_1 p0_2 p0_3 u262 p2 p3).bind fun u263 => (some u263).bind fun z => some (Lo.ret z))) else (if (u7.1 == 5) = true then ((rd? u3 0).bind fun u267 => (impl_matcher_has.f p0_0 p0_1 p0_2 p0_3 u267 p2 p3).bind fun u268 => if u268 = true then ((rd? u3 1).bind fun u270 => (impl_matcher_has.f p0_0 p0_1 p0_2 p0_3 u270 p2 p3).bind fun u271 => (some u271).bind fun z => some (Lo.ret z)) else ((some false).bind fun z => some (Lo.ret z))) else (if (u7.1 == 7) = true then ((rd? u3 0).bind fun u275 => (impl_matcher_has.f p0_0 p0_1 p0_2 p0_3 u275 p2 p3).bind fun u276 => (some (!u276)).bind fun z => some (Lo.ret z)) else (if (u7.1 == 6) = true then (if (p2 == p3) = true then ((some true).bind fun z => some (Lo.ret z)) else ((impl_matcher_look.l1 p0_0 p0_1 p0_2 p0_3 p1 p2 p3 u3 (((p3) - (IntKind.i64.wrap (p2 + 1))).toNat + 2) (IntKind.i64.wrap (p2 + 1))).bind fun (o : Lo Unit (Lo Unit Bool)) => match o with | .go () => ((some false).bind fun z => some (Lo.ret z)) | .ret z => some z)) else (some (Lo.go ())))))))).bind fun (o : Lo Unit Bool) => match o with | .go () => ((impl_matcher_look.l2 p0_0 p0_1 p0_2 p0_3 p2 p3 u3 (((p3) - (p2)).toNat + 2) p2).bind fun (o : Lo Unit Bool) => match o with | .go () => (some false) | .ret z => some z) | .ret z => some z
def impl_matcher_look.post (sb s : St) (F0 : Fp) (bp0 : Nat) (A0_0p : Option Addr) (c0_0p : Nat) (p0_0 : List ((Int) × (List (Int)))) (A0_1p : Option Addr) (c0_1p : Nat) (p0_1 : List (List (Int))) (A0_2p : Option Addr) (c0_2p : Nat) (p0_2 : List (Int)) (A0_3p : Option Addr) (c0_3p : Nat) (p0_3 : List (List (List (Bool)))) (r : Bool) : Value → St → Prop := fun v s' => v = .bool r ∧ Hp sb s F0 s' [Ck.ov bp0 [.slice A0_0p p0_0.length c0_0p, .slice A0_1p p0_1.length c0_1p, .slice A0_2p p0_2.length c0_2p, .slice A0_3p p0_3.length c0_3p] 165]
set_option maxRecDepth 100000 in
set_option maxHeartbeats 4000000 in
theorem impl_matcher_look.ok (sb s : St) (F0 : Fp) (bp0 : Nat) (A0_0p : Option Addr) (c0_0p : Nat) (p0_0 : List ((Int) × (List (Int)))) (A0_1p : Option Addr) (c0_1p : Nat) (p0_1 : List (List (Int))) (A0_2p : Option Addr) (c0_2p : Nat) (p0_2 : List (Int)) (A0_3p : Option Addr) (c0_3p : Nat) (p0_3 : List (List (List (Bool)))) (p1 : Int) (p2 : Int) (p3 : Int) (HRp0_0 : Rd KS139 sb A0_0p c0_0p p0_0) (HRp0_1 : Rd (Kd.sl KI) sb A0_1p c0_1p p0_1) (HRp0_2 : Rd KI sb A0_2p c0_2p p0_2) (HRp0_3 : Rd (Kd.sl (Kd.sl Kd.bool)) sb A0_3p c0_3p p0_3) (hH : Hp sb s F0 s [Ck.ov bp0 [.slice A0_0p p0_0.length c0_0p, .slice A0_1p p0_1.length c0_1p, .slice A0_2p p0_2.length c0_2p, .slice A0_3p p0_3.length c0_3p] 165]) (r : Bool) (H : impl_matcher_look.f p0_0 p0_1 p0_2 p0_3 p1 p2 p3 = some r) : GCall Try.prog 217 #[.pointer (some ⟨bp0, 0, none⟩), .int .i64 p1, .int .i64 p2, .int .i64 p3] s (impl_matcher_look.post sb s F0 bp0 A0_0p c0_0p p0_0 A0_1p c0_1p p0_1 A0_2p c0_2p p0_2 A0_3p c0_3p p0_3 r) := by
 refine GCall_ofk [.tmp 8] [.pointer (some ⟨bp0, 0, none⟩), .int .i64 p1, .int .i64 p2, .int .i64 p3, undef, undef, undef, undef, undef, undef, undef, undef, undef, undef, undef, undef, undef, undef, undef, undef, undef, undef, undef, undef, undef, undef, undef, undef, undef, undef, undef, undef, undef, undef, undef, undef, undef, undef, undef, undef, undef, undef, undef, undef, undef, undef, undef, undef, undef, undef, undef, undef, undef, undef, undef, undef, undef, undef, undef, undef, undef, undef, undef, undef, undef, undef, undef, undef, undef, undef, undef, undef, undef, undef, undef, undef, undef, undef, undef, undef, undef, undef, undef, undef, undef, undef, undef, undef, undef, undef, undef, undef, undef, undef, undef, undef, undef, undef, undef, undef, undef, undef, undef, undef, undef, undef, undef, undef, undef, undef, undef, undef, undef, undef, undef, undef, undef, undef, undef, undef, undef, undef, undef, undef, undef, undef, undef, undef, undef, undef, undef, undef, undef, undef, undef, undef, undef, undef, undef, undef, undef, undef, undef, undef, undef, undef, undef, undef, undef, undef] Try.func217 rfl rfl rfl ?_
 intro w Q hQr hQn hQp
 replace H := topE H
 unfold impl_matcher_look.f at H
 refine HT_seq_k ?_
 intro K1 hK1
 refine HT_region ?_
 refine HL_cons rfl ?_
 refine o_assign ?_
 try dsimp only [putL, setL, evL, getL]
 refine HL_nil ?_
 refine hK1 _ _ ?_
 refine HT_seq_k ?_
 intro K2 hK2
 refine HT_region ?_
 refine HL_cons rfl ?_
 refine o_move ?_
 try dsimp only [putL, setL, evL, getL]
 refine HL_cons rfl ?_
 refine o_nilck rfl ?_
 try dsimp only [putL, setL, evL, getL]
 refine HL_cons rfl ?_
 refine o_faddr' (ft := 105) (off := 1) rfl Try.underlying165 rfl tI105 (by decide) ?_
 try dsimp only [putL, setL, evL, getL]
 refine HL_cons rfl ?_
 refine o_load' rfl Try.underlying105 rfl (hH.hasv 0 rfl rfl) ?_
 try dsimp only [putL, setL, evL, getL]
 refine HL_cons rfl ?_
 refine o_move ?_
 try dsimp only [putL, setL, evL, getL]
 replace H := headE H
 obtain ⟨u3, hu3, H⟩ := H
 obtain ⟨b3, o3, cs3, hr3, hh3, hel3⟩ := Rd.elb HRp0_1 hu3
 obtain ⟨A4, c4, rfl, D4⟩ := hr3
 refine HL_cons rfl ?_
 refine hel3 s rfl rfl Try.underlying105 tI24 ?_
 try dsimp only [putL, setL, evL, getL]
 refine HL_cons rfl ?_
 refine o_load' rfl Try.underlying24 rfl ((hh3 hH.bs.mono) 0 _ rfl) ?_
 try dsimp only [putL, setL, evL, getL]
 refine HL_cons rfl ?_
 refine o_assign ?_
 try dsimp only [putL, setL, evL, getL]
 refine HL_nil ?_
 refine hK2 _ _ ?_
 refine HT_seq_k ?_
 intro K5 hK5
 refine HT_seq_k ?_
 intro K6 hK6
 refine HT_region ?_
 refine HL_cons rfl ?_
 refine o_move ?_
 try dsimp only [putL, setL, evL, getL]
 refine HL_cons rfl ?_
 refine o_nilck rfl ?_
 try dsimp only [putL, setL, evL, getL]
 refine HL_cons rfl ?_
 refine o_faddr' (ft := 57) (off := 0) rfl Try.underlying165 rfl tI57 (by decide) ?_
 try dsimp only [putL, setL, evL, getL]
 refine HL_cons rfl ?_
 refine o_load' rfl Try.underlying57 rfl (hH.hasv 0 rfl rfl) ?_
 try dsimp only [putL, setL, evL, getL]
 refine HL_cons rfl ?_
 refine o_move ?_
 try dsimp only [putL, setL, evL, getL]
 replace H := headE H
 obtain ⟨u7, hu7, H⟩ := H
 obtain ⟨b7, o7, cs7, hr7, hh7, hel7⟩ := Rd.elb HRp0_0 hu7
 obtain ⟨_, _, rfl, rfl, ⟨A8, c8, rfl, D8⟩⟩ := hr7
 refine HL_cons rfl ?_
 refine hel7 s rfl rfl Try.underlying57 tI139 ?_
 try dsimp only [putL, setL, evL, getL]
 refine HL_cons rfl ?_
 refine o_faddr' (ft := 3) (off := 0) rfl Try.underlying139 rfl tI3 (by decide) ?_
 try dsimp only [putL, setL, evL, getL]
 refine HL_cons rfl ?_
 refine o_load' rfl Try.underlying3 rfl ((hh7 hH.bs.mono) 0 _ rfl) ?_
 try dsimp only [putL, setL, evL, getL]
 refine HL_nil ?_
 refine hK6 _ _ ?_
 refine joinH H fun G9 hG9 H => ?_
 refine HT_toK (fun l' s' => G9 (.go ()) = some r ∧ l' = [.pointer (some ⟨bp0, 0, none⟩), .int .i64 p1, .int .i64 p2, .int .i64 p3, undef, undef, undef, undef, getL l' 8, .slice A4 u3.length c4, getL l' 10, undef, .pointer (some ⟨bp0, 0, none⟩), .pointer (some ⟨bp0, 0, none⟩), .pointer (some ⟨bp0, 0 + 1, none⟩), .slice A0_1p p0_1.length c0_1p, .int .i64 p1, .pointer (some ⟨b3, o3, none⟩), .slice A4 u3.length c4, .pointer (some ⟨bp0, 0, none⟩), .pointer (some ⟨bp0, 0, none⟩), .pointer (some ⟨bp0, 0 + 0, none⟩), .slice A0_0p p0_0.length c0_0p, .int .i64 p1, .pointer (some ⟨b7, o7, none⟩), .pointer (some ⟨b7, o7 + 0, none⟩), .int .i64 u7.1, getL l' 27, getL l' 28, getL l' 29, getL l' 30, getL l' 31, getL l' 32, getL l' 33, getL l' 34, getL l' 35, getL l' 36, getL l' 37, getL l' 38, getL l' 39, getL l' 40, getL l' 41, getL l' 42, getL l' 43, getL l' 44, getL l' 45, getL l' 46, getL l' 47, getL l' 48, getL l' 49, getL l' 50, getL l' 51, getL l' 52, getL l' 53, getL l' 54, getL l' 55, getL l' 56, getL l' 57, getL l' 58, getL l' 59, getL l' 60, getL l' 61, getL l' 62, getL l' 63, getL l' 64, getL l' 65, getL l' 66, getL l' 67, getL l' 68, getL l' 69, getL l' 70, getL l' 71, getL l' 72, getL l' 73, getL l' 74, getL l' 75, getL l' 76, getL l' 77, getL l' 78, getL l' 79, getL l' 80, getL l' 81, getL l' 82, getL l' 83, getL l' 84, getL l' 85, getL l' 86, getL l' 87, getL l' 88, getL l' 89, getL l' 90, getL l' 91, getL l' 92, getL l' 93, getL l' 94, getL l' 95, getL l' 96, getL l' 97, getL l' 98, getL l' 99, getL l' 100, getL l' 101, getL l' 102, getL l' 103, getL l' 104, getL l' 105, getL l' 106, getL l' 107, getL l' 108, getL l' 109, getL l' 110, getL l' 111, getL l' 112, getL l' 113, getL l' 114, getL l' 115, getL l' 116, getL l' 117, getL l' 118, getL l' 119, getL l' 120, getL l' 121, getL l' 122, getL l' 123, getL l' 124, getL l' 125, getL l' 126, getL l' 127, undef, undef, undef, undef, undef, undef, undef, undef, undef, undef, undef, undef, undef, undef, undef, undef, undef, undef, undef, undef, undef, undef] ∧ Hp sb s F0 s' [Ck.ov bp0 [.slice A0_0p p0_0.length c0_0p, .slice A0_1p p0_1.length c0_1p, .slice A0_2p p0_2.length c0_2p, .slice A0_3p p0_3.length c0_3p] 165]) ?_ ?_
 ·intro K9 hK9
  refine HT_block ?_
  refine HT_seq_k ?_
  intro K245 hK245
  refine HT_region ?_
  refine HL_cons rfl ?_
  refine o_bin rfl rfl rfl ?_
  try dsimp only [putL, setL, evL, getL]
  refine HL_cons rfl ?_
  refine o_assign ?_
  try dsimp only [putL, setL, evL, getL]
  refine HL_nil ?_
  refine hK245 _ _ ?_
  rcases Bool.eq_false_or_eq_true (u7.1 == 1) with hb246 | hb246
  ·replace H := iteT hb246 H
   refine HT_true (congrArg Value.bool hb246) ?_
   refine HT_seq_k ?_
   intro K247 hK247
   refine HT_region ?_
   refine HL_cons rfl ?_
   refine o_move ?_
   try dsimp only [putL, setL, evL, getL]
   refine HL_cons rfl ?_
   refine o_move ?_
   try dsimp only [putL, setL, evL, getL]
   refine HL_cons rfl ?_
   refine o_bin rfl rfl rfl ?_
   try dsimp only [putL, setL, evL, getL]
   refine HL_cons rfl ?_
   refine o_assign ?_
   try dsimp only [putL, setL, evL, getL]
   refine HL_nil ?_
   refine hK247 _ _ ?_
   refine HT_ret ?_
   replace H := escH (fun z hz => hG9 _ hz) H
   exact hQr _ _ [.bool (p2 == p3)] ⟨rfl, trivial⟩ (retH (fun r => impl_matcher_look.post sb s F0 bp0 A0_0p c0_0p p0_0 A0_1p c0_1p p0_1 A0_2p c0_2p p0_2 A0_3p c0_3p p0_3 r _ _) (show some _ = some r from H) ⟨rfl, hH⟩)
  ·replace H := iteF hb246 H
   refine HT_false (congrArg Value.bool hb246) ?_
   refine HT_seq_k ?_
   intro K248 hK248
   refine HT_region ?_
   refine HL_cons rfl ?_
   refine o_bin rfl rfl rfl ?_
   try dsimp only [putL, setL, evL, getL]
   refine HL_cons rfl ?_
   refine o_assign ?_
   try dsimp only [putL, setL, evL, getL]
   refine HL_nil ?_
   refine hK248 _ _ ?_
   rcases Bool.eq_false_or_eq_true (u7.1 == 2) with hb249 | hb249
   ·replace H := iteT hb249 H
    refine HT_true (congrArg Value.bool hb249) ?_
    refine HT_seq_k ?_
    intro K250 hK250
    refine HX_draw hMix ?_
    refine HX_lim (R := fun _ => True) (k := 0) (fun s' => Gro s s') 24 ?_
    have hR := Gro.refl s
    have hH0 := hH
    refine HK_readP 0 (v := .int .i64 p3) rfl (by kernel_rfl) (fun c l s h => hQp c l s h) rfl (fun s' K hK => ?_) rfl rfl (fun _ => hR) ?_
    ·refine o_move ?_
     exact hK
    try dsimp only [putL, setL, evL, getL]
    refine HK_readP 1 (v := .int .i64 p2) rfl (by kernel_rfl) (fun c l s h => hQp c l s h) rfl (fun s' K hK => ?_) rfl rfl (fun _ => hR) ?_
    ·refine o_move ?_
     exact hK
    try dsimp only [putL, setL, evL, getL]
    refine HK_readP 2 (v := .int .i64 (IntKind.i64.wrap (p2 + 1))) rfl (by kernel_rfl) (fun c l s h => hQp c l s h) rfl (fun s' K hK => ?_) rfl rfl (fun _ => hR) ?_
    ·refine o_bin rfl rfl rfl ?_
     exact hK
    try dsimp only [putL, setL, evL, getL]
    refine HK_readP 3 (v := .bool (p3 == (IntKind.i64.wrap (p2 + 1)))) rfl (by kernel_rfl) (fun c l s h => hQp c l s h) rfl (fun s' K hK => ?_) rfl rfl (fun _ => hR) ?_
    ·refine o_bin rfl rfl rfl ?_
     exact hK
    try dsimp only [putL, setL, evL, getL]
    refine HK_readP 4 (v := .bool (p3 == (IntKind.i64.wrap (p2 + 1)))) rfl (by kernel_rfl) (fun c l s h => hQp c l s h) rfl (fun s' K hK => ?_) rfl rfl (fun _ => hR) ?_
    ·refine o_move ?_
     exact hK
    try dsimp only [putL, setL, evL, getL]
    rcases Bool.eq_false_or_eq_true (p3 == (IntKind.i64.wrap (p2 + 1))) with hb251 | hb251
    ·replace H := iteT hb251 H
     refine HK_readP 5 (v := .pointer (some ⟨bp0, 0, none⟩)) rfl (by kernel_rfl) (fun c l s h => hQp c l s h) (wantT (j := 4) (b := true) (t := 38) (c := p3 == (IntKind.i64.wrap (p2 + 1))) rfl rfl rfl rfl hb251) (fun s' K hK => ?_) rfl rfl (fun _ => hR) ?_
     ·refine o_move ?_
      exact hK
     try dsimp only [putL, setL, evL, getL]
     refine HK_readP 6 (v := .pointer (some ⟨bp0, 0, none⟩)) rfl (by kernel_rfl) (fun c l s h => hQp c l s h) (wantT (j := 4) (b := true) (t := 38) (c := p3 == (IntKind.i64.wrap (p2 + 1))) rfl rfl rfl rfl hb251) (fun s' K hK => ?_) rfl rfl (fun _ => hR) ?_
     ·refine o_nilck rfl ?_
      exact hK
     try dsimp only [putL, setL, evL, getL]
     refine HK_readP 7 (v := .pointer (some ⟨bp0, 0 + 0, none⟩)) rfl (by kernel_rfl) (fun c l s h => hQp c l s h) (wantT (j := 4) (b := true) (t := 38) (c := p3 == (IntKind.i64.wrap (p2 + 1))) rfl rfl rfl rfl hb251) (fun s' K hK => ?_) rfl rfl (fun _ => hR) ?_
     ·refine o_faddr' (ft := 57) (off := 0) rfl Try.underlying165 rfl tI57 (by decide) ?_
      exact hK
     try dsimp only [putL, setL, evL, getL]
     refine HK_read 8 (v := .slice A0_0p p0_0.length c0_0p) rfl (by kernel_rfl) (fun c l s h => hQp c l s h) (wantT (j := 4) (b := true) (t := 38) (c := p3 == (IntKind.i64.wrap (p2 + 1))) rfl rfl rfl rfl hb251) (fun s' hR' K hK => ?_) rfl rfl hR ?_
     ·refine o_load' rfl Try.underlying57 rfl (has_gro hR' (hH0.hasv 0 rfl rfl)) ?_
      exact hK
     try dsimp only [putL, setL, evL, getL]
     refine HK_readP 9 (v := .int .i64 p1) rfl (by kernel_rfl) (fun c l s h => hQp c l s h) (wantT (j := 4) (b := true) (t := 38) (c := p3 == (IntKind.i64.wrap (p2 + 1))) rfl rfl rfl rfl hb251) (fun s' K hK => ?_) rfl rfl (fun _ => hR) ?_
     ·refine o_move ?_
      exact hK
     try dsimp only [putL, setL, evL, getL]
     replace H := headE H
     obtain ⟨u252, hu252, H⟩ := H
     obtain ⟨b252, o252, cs252, hr252, hh252, hel252⟩ := Rd.elb HRp0_0 hu252
     obtain ⟨_, _, rfl, rfl, ⟨A253, c253, rfl, D253⟩⟩ := hr252
     refine HK_readP 10 (v := .pointer (some ⟨b252, o252, none⟩)) rfl (by kernel_rfl) (fun c l s h => hQp c l s h) (wantT (j := 4) (b := true) (t := 38) (c := p3 == (IntKind.i64.wrap (p2 + 1))) rfl rfl rfl rfl hb251) (fun s' K hK => ?_) rfl rfl (fun _ => hR) ?_
     ·refine hel252 s' rfl rfl Try.underlying57 tI139 ?_
      exact hK
     try dsimp only [putL, setL, evL, getL]
     refine HK_readP 11 (v := .pointer (some ⟨b252, o252 + 1, none⟩)) rfl (by kernel_rfl) (fun c l s h => hQp c l s h) (wantT (j := 4) (b := true) (t := 38) (c := p3 == (IntKind.i64.wrap (p2 + 1))) rfl rfl rfl rfl hb251) (fun s' K hK => ?_) rfl rfl (fun _ => hR) ?_
     ·refine o_faddr' (ft := 24) (off := 1) rfl Try.underlying139 rfl tI24 (by decide) ?_
      exact hK
     try dsimp only [putL, setL, evL, getL]
     refine HK_read 12 (v := .slice A253 u252.2.length c253) rfl (by kernel_rfl) (fun c l s h => hQp c l s h) (wantT (j := 4) (b := true) (t := 38) (c := p3 == (IntKind.i64.wrap (p2 + 1))) rfl rfl rfl rfl hb251) (fun s' hR' K hK => ?_) rfl rfl hR ?_
     ·refine o_load' rfl Try.underlying24 rfl ((hh252 (hH0.bs.mono.trans hR'.mono)) 1 _ rfl) ?_
      exact hK
     try dsimp only [putL, setL, evL, getL]
     refine HK_readP 13 (v := .pointer (some ⟨bp0, 0, none⟩)) rfl (by kernel_rfl) (fun c l s h => hQp c l s h) (wantT (j := 4) (b := true) (t := 38) (c := p3 == (IntKind.i64.wrap (p2 + 1))) rfl rfl rfl rfl hb251) (fun s' K hK => ?_) rfl rfl (fun _ => hR) ?_
     ·refine o_move ?_
      exact hK
     try dsimp only [putL, setL, evL, getL]
     refine HK_readP 14 (v := .pointer (some ⟨bp0, 0, none⟩)) rfl (by kernel_rfl) (fun c l s h => hQp c l s h) (wantT (j := 4) (b := true) (t := 38) (c := p3 == (IntKind.i64.wrap (p2 + 1))) rfl rfl rfl rfl hb251) (fun s' K hK => ?_) rfl rfl (fun _ => hR) ?_
     ·refine o_nilck rfl ?_
      exact hK
     try dsimp only [putL, setL, evL, getL]
     refine HK_readP 15 (v := .pointer (some ⟨bp0, 0 + 2, none⟩)) rfl (by kernel_rfl) (fun c l s h => hQp c l s h) (wantT (j := 4) (b := true) (t := 38) (c := p3 == (IntKind.i64.wrap (p2 + 1))) rfl rfl rfl rfl hb251) (fun s' K hK => ?_) rfl rfl (fun _ => hR) ?_
     ·refine o_faddr' (ft := 24) (off := 2) rfl Try.underlying165 rfl tI24 (by decide) ?_
      exact hK
     try dsimp only [putL, setL, evL, getL]
     refine HK_read 16 (v := .slice A0_2p p0_2.length c0_2p) rfl (by kernel_rfl) (fun c l s h => hQp c l s h) (wantT (j := 4) (b := true) (t := 38) (c := p3 == (IntKind.i64.wrap (p2 + 1))) rfl rfl rfl rfl hb251) (fun s' hR' K hK => ?_) rfl rfl hR ?_
     ·refine o_load' rfl Try.underlying24 rfl (has_gro hR' (hH0.hasv 0 rfl rfl)) ?_
      exact hK
     try dsimp only [putL, setL, evL, getL]
     refine HK_readP 17 (v := .int .i64 p2) rfl (by kernel_rfl) (fun c l s h => hQp c l s h) (wantT (j := 4) (b := true) (t := 38) (c := p3 == (IntKind.i64.wrap (p2 + 1))) rfl rfl rfl rfl hb251) (fun s' K hK => ?_) rfl rfl (fun _ => hR) ?_
     ·refine o_move ?_
      exact hK
     try dsimp only [putL, setL, evL, getL]
     replace H := headE H
     obtain ⟨u254, hu254, H⟩ := H
     obtain ⟨b254, o254, cs254, hr254, hh254, hel254⟩ := Rd.elb HRp0_2 hu254
     obtain rfl := hr254
     refine HK_readP 18 (v := .pointer (some ⟨b254, o254, none⟩)) rfl (by kernel_rfl) (fun c l s h => hQp c l s h) (wantT (j := 4) (b := true) (t := 38) (c := p3 == (IntKind.i64.wrap (p2 + 1))) rfl rfl rfl rfl hb251) (fun s' K hK => ?_) rfl rfl (fun _ => hR) ?_
     ·refine hel254 s' rfl rfl Try.underlying24 tI3 ?_
      exact hK
     try dsimp only [putL, setL, evL, getL]
     refine HK_read 19 (v := .int .i64 u254) rfl (by kernel_rfl) (fun c l s h => hQp c l s h) (wantT (j := 4) (b := true) (t := 38) (c := p3 == (IntKind.i64.wrap (p2 + 1))) rfl rfl rfl rfl hb251) (fun s' hR' K hK => ?_) rfl rfl hR ?_
     ·refine o_load' rfl Try.underlying3 rfl ((hh254 (hH0.bs.mono.trans hR'.mono)) 0 _ rfl) ?_
      exact hK
     try dsimp only [putL, setL, evL, getL]
     refine HK_more [20] (by kernel_rfl) rfl (fun _ => hR) ⟨⟨_, rfl, Or.inl ⟨(wantT (j := 4) (b := true) (t := 38) (c := p3 == (IntKind.i64.wrap (p2 + 1))) rfl rfl rfl rfl hb251), ?_⟩⟩, trivial⟩
     replace H := headE H
     obtain ⟨u255, hu255, H⟩ := H
     skip
     refine o_call (args := #[.slice A253 u252.2.length c253, .int .i64 u254]) Try.func205 rfl rfl rfl (impl_inSet.ok sb s no A253 c253 u252.2 u254 D253 (Hp.own hH.bs) _ hu255) ?_
     rintro _ s255 ⟨rfl, hD⟩
     replace hR := hR.trans hD.gro
     replace hH := hH.back0 hD (Up.refl _ _ _)
     clear hD
     dsimp only [addC, setC, rmC, selC, getC] at hH
     try dsimp only [putL, setL, evL, getL]
     refine HK_readP 21 (v := .bool u255) rfl (by kernel_rfl) (fun c l s h => hQp c l s h) rfl (fun s' K hK => ?_) rfl rfl (fun _ => hR) ?_
     ·refine o_pickT rfl hb251 ?_
      exact hK
     try dsimp only [putL, setL, evL, getL]
     refine HK_more [22] (by kernel_rfl) rfl (fun _ => hR) ⟨⟨_, rfl, Or.inl ⟨rfl, ?_⟩⟩, trivial⟩
     skip
     refine o_assign ?_
     try dsimp only [putL, setL, evL, getL]
     refine HK_done (fun _ => hR) (by kernel_rfl) ?_
     refine hK250 _ _ ?_
     refine HT_ret ?_
     replace H := escH (fun z hz => hG9 _ hz) H
     exact hQr _ _ [.bool u255] ⟨rfl, trivial⟩ (retH (fun r => impl_matcher_look.post sb s F0 bp0 A0_0p c0_0p p0_0 A0_1p c0_1p p0_1 A0_2p c0_2p p0_2 A0_3p c0_3p p0_3 r _ _) (show some _ = some r from H) ⟨rfl, hH⟩)
    ·replace H := iteF hb251 H
     refine HK_passP 5 rfl (by kernel_rfl) (fun c l s h => hQp c l s h) ?_ (fun _ => hR) ?_
     ·exact wantF (j := 4) (b := true) (t := 38) (c := p3 == (IntKind.i64.wrap (p2 + 1))) rfl rfl rfl rfl hb251
     try dsimp only [putL, setL, evL, getL]
     refine HK_passP 6 rfl (by kernel_rfl) (fun c l s h => hQp c l s h) ?_ (fun _ => hR) ?_
     ·exact wantF (j := 4) (b := true) (t := 38) (c := p3 == (IntKind.i64.wrap (p2 + 1))) rfl rfl rfl rfl hb251
     try dsimp only [putL, setL, evL, getL]
     refine HK_passP 7 rfl (by kernel_rfl) (fun c l s h => hQp c l s h) ?_ (fun _ => hR) ?_
     ·exact wantF (j := 4) (b := true) (t := 38) (c := p3 == (IntKind.i64.wrap (p2 + 1))) rfl rfl rfl rfl hb251
     try dsimp only [putL, setL, evL, getL]
     refine HK_passP 8 rfl (by kernel_rfl) (fun c l s h => hQp c l s h) ?_ (fun _ => hR) ?_
     ·exact wantF (j := 4) (b := true) (t := 38) (c := p3 == (IntKind.i64.wrap (p2 + 1))) rfl rfl rfl rfl hb251
     try dsimp only [putL, setL, evL, getL]
     refine HK_passP 9 rfl (by kernel_rfl) (fun c l s h => hQp c l s h) ?_ (fun _ => hR) ?_
     ·exact wantF (j := 4) (b := true) (t := 38) (c := p3 == (IntKind.i64.wrap (p2 + 1))) rfl rfl rfl rfl hb251
     try dsimp only [putL, setL, evL, getL]
     refine HK_passP 10 rfl (by kernel_rfl) (fun c l s h => hQp c l s h) ?_ (fun _ => hR) ?_
     ·exact wantF (j := 4) (b := true) (t := 38) (c := p3 == (IntKind.i64.wrap (p2 + 1))) rfl rfl rfl rfl hb251
     try dsimp only [putL, setL, evL, getL]
     refine HK_passP 11 rfl (by kernel_rfl) (fun c l s h => hQp c l s h) ?_ (fun _ => hR) ?_
     ·exact wantF (j := 4) (b := true) (t := 38) (c := p3 == (IntKind.i64.wrap (p2 + 1))) rfl rfl rfl rfl hb251
     try dsimp only [putL, setL, evL, getL]
     refine HK_passP 12 rfl (by kernel_rfl) (fun c l s h => hQp c l s h) ?_ (fun _ => hR) ?_
     ·exact wantF (j := 4) (b := true) (t := 38) (c := p3 == (IntKind.i64.wrap (p2 + 1))) rfl rfl rfl rfl hb251
     try dsimp only [putL, setL, evL, getL]
     refine HK_passP 13 rfl (by kernel_rfl) (fun c l s h => hQp c l s h) ?_ (fun _ => hR) ?_
     ·exact wantF (j := 4) (b := true) (t := 38) (c := p3 == (IntKind.i64.wrap (p2 + 1))) rfl rfl rfl rfl hb251
     try dsimp only [putL, setL, evL, getL]
     refine HK_passP 14 rfl (by kernel_rfl) (fun c l s h => hQp c l s h) ?_ (fun _ => hR) ?_
     ·exact wantF (j := 4) (b := true) (t := 38) (c := p3 == (IntKind.i64.wrap (p2 + 1))) rfl rfl rfl rfl hb251
     try dsimp only [putL, setL, evL, getL]
     refine HK_passP 15 rfl (by kernel_rfl) (fun c l s h => hQp c l s h) ?_ (fun _ => hR) ?_
     ·exact wantF (j := 4) (b := true) (t := 38) (c := p3 == (IntKind.i64.wrap (p2 + 1))) rfl rfl rfl rfl hb251
     try dsimp only [putL, setL, evL, getL]
     refine HK_passP 16 rfl (by kernel_rfl) (fun c l s h => hQp c l s h) ?_ (fun _ => hR) ?_
     ·exact wantF (j := 4) (b := true) (t := 38) (c := p3 == (IntKind.i64.wrap (p2 + 1))) rfl rfl rfl rfl hb251
     try dsimp only [putL, setL, evL, getL]
     refine HK_passP 17 rfl (by kernel_rfl) (fun c l s h => hQp c l s h) ?_ (fun _ => hR) ?_
     ·exact wantF (j := 4) (b := true) (t := 38) (c := p3 == (IntKind.i64.wrap (p2 + 1))) rfl rfl rfl rfl hb251
     try dsimp only [putL, setL, evL, getL]
     refine HK_passP 18 rfl (by kernel_rfl) (fun c l s h => hQp c l s h) ?_ (fun _ => hR) ?_
     ·exact wantF (j := 4) (b := true) (t := 38) (c := p3 == (IntKind.i64.wrap (p2 + 1))) rfl rfl rfl rfl hb251
     try dsimp only [putL, setL, evL, getL]
     refine HK_passP 19 rfl (by kernel_rfl) (fun c l s h => hQp c l s h) ?_ (fun _ => hR) ?_
     ·exact wantF (j := 4) (b := true) (t := 38) (c := p3 == (IntKind.i64.wrap (p2 + 1))) rfl rfl rfl rfl hb251
     try dsimp only [putL, setL, evL, getL]
     refine HK_passP 20 rfl (by kernel_rfl) (fun c l s h => hQp c l s h) ?_ (fun _ => hR) ?_
     ·exact wantF (j := 4) (b := true) (t := 38) (c := p3 == (IntKind.i64.wrap (p2 + 1))) rfl rfl rfl rfl hb251
     try dsimp only [putL, setL, evL, getL]
     refine HK_readP 21 (v := .bool false) rfl (by kernel_rfl) (fun c l s h => hQp c l s h) rfl (fun s' K hK => ?_) rfl rfl (fun _ => hR) ?_
     ·refine o_pickF rfl hb251 ?_
      exact hK
     try dsimp only [putL, setL, evL, getL]
     refine HK_more [22] (by kernel_rfl) rfl (fun _ => hR) ⟨⟨_, rfl, Or.inl ⟨rfl, ?_⟩⟩, trivial⟩
     skip
     refine o_assign ?_
     try dsimp only [putL, setL, evL, getL]
     refine HK_done (fun _ => hR) (by kernel_rfl) ?_
     refine hK250 _ _ ?_
     refine HT_ret ?_
     replace H := escH (fun z hz => hG9 _ hz) H
     exact hQr _ _ [.bool false] ⟨rfl, trivial⟩ (retH (fun r => impl_matcher_look.post sb s F0 bp0 A0_0p c0_0p p0_0 A0_1p c0_1p p0_1 A0_2p c0_2p p0_2 A0_3p c0_3p p0_3 r _ _) (show some _ = some r from H) ⟨rfl, hH⟩)
   ·replace H := iteF hb249 H
    refine HT_false (congrArg Value.bool hb249) ?_
    refine HT_seq_k ?_
    intro K256 hK256
    refine HT_region ?_
    refine HL_cons rfl ?_
    refine o_bin rfl rfl rfl ?_
    try dsimp only [putL, setL, evL, getL]
    refine HL_cons rfl ?_
    refine o_assign ?_
    try dsimp only [putL, setL, evL, getL]
    refine HL_nil ?_
    refine hK256 _ _ ?_
    rcases Bool.eq_false_or_eq_true (u7.1 == 4) with hb257 | hb257
    ·replace H := iteT hb257 H
     refine HT_true (congrArg Value.bool hb257) ?_
     refine HT_seq_k ?_
     intro K258 hK258
     refine HT_region ?_
     refine HL_cons rfl ?_
     refine o_move ?_
     try dsimp only [putL, setL, evL, getL]
     refine HL_cons rfl ?_
     refine o_move ?_
     try dsimp only [putL, setL, evL, getL]
     replace H := headE H
     obtain ⟨u259, hu259, H⟩ := H
     obtain ⟨b259, o259, cs259, hr259, hh259, hel259⟩ := Rd.elb D4 hu259
     obtain rfl := hr259
     refine HL_cons rfl ?_
     refine hel259 s rfl rfl Try.underlying24 tI3 ?_
     try dsimp only [putL, setL, evL, getL]
     refine HL_cons rfl ?_
     refine o_load' rfl Try.underlying3 rfl ((hh259 hH.bs.mono) 0 _ rfl) ?_
     try dsimp only [putL, setL, evL, getL]
     refine HL_cons rfl ?_
     refine o_move ?_
     try dsimp only [putL, setL, evL, getL]
     refine HL_cons rfl ?_
     refine o_move ?_
     try dsimp only [putL, setL, evL, getL]
     replace H := headE H
     obtain ⟨u260, hu260, H⟩ := H
     obtain ⟨F1, hA, hB⟩ := hH.take [0] (by decide)
     dsimp only [addC, setC, rmC, selC, getC] at hA
     refine HL_cons rfl ?_
     refine o_call (args := #[.pointer (some ⟨bp0, 0, none⟩), .int .i64 u259, .int .i64 p2, .int .i64 p3]) Try.func178 rfl rfl rfl (impl_matcher_has.ok sb s F1 bp0 A0_0p c0_0p p0_0 A0_1p c0_1p p0_1 A0_2p c0_2p p0_2 A0_3p c0_3p p0_3 u259 p2 p3 HRp0_0 HRp0_1 HRp0_2 HRp0_3 hA _ hu260) ?_
     rintro _ s260 ⟨rfl, hD⟩
     replace hH := hB _ _ _ (Up.refl _ _ _) hD
     clear hD hA hB
     dsimp only [addC, setC, rmC, selC, getC] at hH
     try dsimp only [putL, setL, evL, getL]
     refine HL_cons rfl ?_
     refine o_move ?_
     try dsimp only [putL, setL, evL, getL]
     rcases Bool.eq_false_or_eq_true u260 with hb261 | hb261
     ·replace H := iteT hb261 H
      refine HL_skip ?_ ?_
      ·exact wantF (j := 7) (b := false) (t := 65) (c := u260) rfl rfl rfl rfl hb261
      try dsimp only [putL, setL, evL, getL]
      refine HL_skip ?_ ?_
      ·exact wantF (j := 7) (b := false) (t := 65) (c := u260) rfl rfl rfl rfl hb261
      try dsimp only [putL, setL, evL, getL]
      refine HL_skip ?_ ?_
      ·exact wantF (j := 7) (b := false) (t := 65) (c := u260) rfl rfl rfl rfl hb261
      try dsimp only [putL, setL, evL, getL]
      refine HL_skip ?_ ?_
      ·exact wantF (j := 7) (b := false) (t := 65) (c := u260) rfl rfl rfl rfl hb261
      try dsimp only [putL, setL, evL, getL]
      refine HL_skip ?_ ?_
      ·exact wantF (j := 7) (b := false) (t := 65) (c := u260) rfl rfl rfl rfl hb261
      try dsimp only [putL, setL, evL, getL]
      refine HL_skip ?_ ?_
      ·exact wantF (j := 7) (b := false) (t := 65) (c := u260) rfl rfl rfl rfl hb261
      try dsimp only [putL, setL, evL, getL]
      refine HL_skip ?_ ?_
      ·exact wantF (j := 7) (b := false) (t := 65) (c := u260) rfl rfl rfl rfl hb261
      try dsimp only [putL, setL, evL, getL]
      refine HL_cons rfl ?_
      refine o_pickT rfl hb261 ?_
      try dsimp only [putL, setL, evL, getL]
      refine HL_cons rfl ?_
      refine o_assign ?_
      try dsimp only [putL, setL, evL, getL]
      refine HL_nil ?_
      refine hK258 _ _ ?_
      refine HT_ret ?_
      replace H := escH (fun z hz => hG9 _ hz) H
      exact hQr _ _ [.bool true] ⟨rfl, trivial⟩ (retH (fun r => impl_matcher_look.post sb s F0 bp0 A0_0p c0_0p p0_0 A0_1p c0_1p p0_1 A0_2p c0_2p p0_2 A0_3p c0_3p p0_3 r _ _) (show some _ = some r from H) ⟨rfl, hH.sel [1] (by decide)⟩)
     ·replace H := iteF hb261 H
      refine HL_want ?_ ?_
      ·exact wantT (j := 7) (b := false) (t := 65) (c := u260) rfl rfl rfl rfl hb261
      refine o_move ?_
      try dsimp only [putL, setL, evL, getL]
      refine HL_want ?_ ?_
      ·exact wantT (j := 7) (b := false) (t := 65) (c := u260) rfl rfl rfl rfl hb261
      refine o_move ?_
      try dsimp only [putL, setL, evL, getL]
      replace H := headE H
      obtain ⟨u262, hu262, H⟩ := H
      obtain ⟨b262, o262, cs262, hr262, hh262, hel262⟩ := Rd.elb D4 hu262
      obtain rfl := hr262
      refine HL_want ?_ ?_
      ·exact wantT (j := 7) (b := false) (t := 65) (c := u260) rfl rfl rfl rfl hb261
      refine hel262 s260 rfl rfl Try.underlying24 tI3 ?_
      try dsimp only [putL, setL, evL, getL]
      refine HL_want ?_ ?_
      ·exact wantT (j := 7) (b := false) (t := 65) (c := u260) rfl rfl rfl rfl hb261
      refine o_load' rfl Try.underlying3 rfl ((hh262 hH.bs.mono) 0 _ rfl) ?_
      try dsimp only [putL, setL, evL, getL]
      refine HL_want ?_ ?_
      ·exact wantT (j := 7) (b := false) (t := 65) (c := u260) rfl rfl rfl rfl hb261
      refine o_move ?_
      try dsimp only [putL, setL, evL, getL]
      refine HL_want ?_ ?_
      ·exact wantT (j := 7) (b := false) (t := 65) (c := u260) rfl rfl rfl rfl hb261
      refine o_move ?_
      try dsimp only [putL, setL, evL, getL]
      replace H := headE H
      obtain ⟨u263, hu263, H⟩ := H
      obtain ⟨F1, hA, hB⟩ := hH.take [1] (by decide)
      dsimp only [addC, setC, rmC, selC, getC] at hA
      refine HL_want ?_ ?_
      ·exact wantT (j := 7) (b := false) (t := 65) (c := u260) rfl rfl rfl rfl hb261
      refine o_call (args := #[.pointer (some ⟨bp0, 0, none⟩), .int .i64 u262, .int .i64 p2, .int .i64 p3]) Try.func178 rfl rfl rfl (impl_matcher_has.ok sb s260 F1 bp0 A0_0p c0_0p p0_0 A0_1p c0_1p p0_1 A0_2p c0_2p p0_2 A0_3p c0_3p p0_3 u262 p2 p3 HRp0_0 HRp0_1 HRp0_2 HRp0_3 hA _ hu263) ?_
      rintro _ s263 ⟨rfl, hD⟩
      replace hH := hB _ _ _ (Up.refl _ _ _) hD
      clear hD hA hB
      dsimp only [addC, setC, rmC, selC, getC] at hH
      try dsimp only [putL, setL, evL, getL]
      refine HL_cons rfl ?_
      refine o_pickF rfl hb261 ?_
      try dsimp only [putL, setL, evL, getL]
      refine HL_cons rfl ?_
      refine o_assign ?_
      try dsimp only [putL, setL, evL, getL]
      refine HL_nil ?_
      refine hK258 _ _ ?_
      refine HT_ret ?_
      replace H := escH (fun z hz => hG9 _ hz) H
      exact hQr _ _ [.bool u263] ⟨rfl, trivial⟩ (retH (fun r => impl_matcher_look.post sb s F0 bp0 A0_0p c0_0p p0_0 A0_1p c0_1p p0_1 A0_2p c0_2p p0_2 A0_3p c0_3p p0_3 r _ _) (show some _ = some r from H) ⟨rfl, hH.sel [2] (by decide)⟩)
    ·replace H := iteF hb257 H
     refine HT_false (congrArg Value.bool hb257) ?_
     refine HT_seq_k ?_
     intro K264 hK264
     refine HT_region ?_
     refine HL_cons rfl ?_
     refine o_bin rfl rfl rfl ?_
     try dsimp only [putL, setL, evL, getL]
     refine HL_cons rfl ?_
     refine o_assign ?_
     try dsimp only [putL, setL, evL, getL]
     refine HL_nil ?_
     refine hK264 _ _ ?_
     rcases Bool.eq_false_or_eq_true (u7.1 == 5) with hb265 | hb265
     ·replace H := iteT hb265 H
      refine HT_true (congrArg Value.bool hb265) ?_
      refine HT_seq_k ?_
      intro K266 hK266
      refine HT_region ?_
      refine HL_cons rfl ?_
      refine o_move ?_
      try dsimp only [putL, setL, evL, getL]
      refine HL_cons rfl ?_
      refine o_move ?_
      try dsimp only [putL, setL, evL, getL]
      replace H := headE H
      obtain ⟨u267, hu267, H⟩ := H
      obtain ⟨b267, o267, cs267, hr267, hh267, hel267⟩ := Rd.elb D4 hu267
      obtain rfl := hr267
      refine HL_cons rfl ?_
      refine hel267 s rfl rfl Try.underlying24 tI3 ?_
      try dsimp only [putL, setL, evL, getL]
      refine HL_cons rfl ?_
      refine o_load' rfl Try.underlying3 rfl ((hh267 hH.bs.mono) 0 _ rfl) ?_
      try dsimp only [putL, setL, evL, getL]
      refine HL_cons rfl ?_
      refine o_move ?_
      try dsimp only [putL, setL, evL, getL]
      refine HL_cons rfl ?_
      refine o_move ?_
      try dsimp only [putL, setL, evL, getL]
      replace H := headE H
      obtain ⟨u268, hu268, H⟩ := H
      obtain ⟨F1, hA, hB⟩ := hH.take [0] (by decide)
      dsimp only [addC, setC, rmC, selC, getC] at hA
      refine HL_cons rfl ?_
      refine o_call (args := #[.pointer (some ⟨bp0, 0, none⟩), .int .i64 u267, .int .i64 p2, .int .i64 p3]) Try.func178 rfl rfl rfl (impl_matcher_has.ok sb s F1 bp0 A0_0p c0_0p p0_0 A0_1p c0_1p p0_1 A0_2p c0_2p p0_2 A0_3p c0_3p p0_3 u267 p2 p3 HRp0_0 HRp0_1 HRp0_2 HRp0_3 hA _ hu268) ?_
      rintro _ s268 ⟨rfl, hD⟩
      replace hH := hB _ _ _ (Up.refl _ _ _) hD
      clear hD hA hB
      dsimp only [addC, setC, rmC, selC, getC] at hH
      try dsimp only [putL, setL, evL, getL]
      refine HL_cons rfl ?_
      refine o_move ?_
      try dsimp only [putL, setL, evL, getL]
      rcases Bool.eq_false_or_eq_true u268 with hb269 | hb269
      ·replace H := iteT hb269 H
       refine HL_want ?_ ?_
       ·exact wantT (j := 7) (b := true) (t := 83) (c := u268) rfl rfl rfl rfl hb269
       refine o_move ?_
       try dsimp only [putL, setL, evL, getL]
       refine HL_want ?_ ?_
       ·exact wantT (j := 7) (b := true) (t := 83) (c := u268) rfl rfl rfl rfl hb269
       refine o_move ?_
       try dsimp only [putL, setL, evL, getL]
       replace H := headE H
       obtain ⟨u270, hu270, H⟩ := H
       obtain ⟨b270, o270, cs270, hr270, hh270, hel270⟩ := Rd.elb D4 hu270
       obtain rfl := hr270
       refine HL_want ?_ ?_
       ·exact wantT (j := 7) (b := true) (t := 83) (c := u268) rfl rfl rfl rfl hb269
       refine hel270 s268 rfl rfl Try.underlying24 tI3 ?_
       try dsimp only [putL, setL, evL, getL]
       refine HL_want ?_ ?_
       ·exact wantT (j := 7) (b := true) (t := 83) (c := u268) rfl rfl rfl rfl hb269
       refine o_load' rfl Try.underlying3 rfl ((hh270 hH.bs.mono) 0 _ rfl) ?_
       try dsimp only [putL, setL, evL, getL]
       refine HL_want ?_ ?_
       ·exact wantT (j := 7) (b := true) (t := 83) (c := u268) rfl rfl rfl rfl hb269
       refine o_move ?_
       try dsimp only [putL, setL, evL, getL]
       refine HL_want ?_ ?_
       ·exact wantT (j := 7) (b := true) (t := 83) (c := u268) rfl rfl rfl rfl hb269
       refine o_move ?_
       try dsimp only [putL, setL, evL, getL]
       replace H := headE H
       obtain ⟨u271, hu271, H⟩ := H
       obtain ⟨F1, hA, hB⟩ := hH.take [1] (by decide)
       dsimp only [addC, setC, rmC, selC, getC] at hA
       refine HL_want ?_ ?_
       ·exact wantT (j := 7) (b := true) (t := 83) (c := u268) rfl rfl rfl rfl hb269
       refine o_call (args := #[.pointer (some ⟨bp0, 0, none⟩), .int .i64 u270, .int .i64 p2, .int .i64 p3]) Try.func178 rfl rfl rfl (impl_matcher_has.ok sb s268 F1 bp0 A0_0p c0_0p p0_0 A0_1p c0_1p p0_1 A0_2p c0_2p p0_2 A0_3p c0_3p p0_3 u270 p2 p3 HRp0_0 HRp0_1 HRp0_2 HRp0_3 hA _ hu271) ?_
       rintro _ s271 ⟨rfl, hD⟩
       replace hH := hB _ _ _ (Up.refl _ _ _) hD
       clear hD hA hB
       dsimp only [addC, setC, rmC, selC, getC] at hH
       try dsimp only [putL, setL, evL, getL]
       refine HL_cons rfl ?_
       refine o_pickT rfl hb269 ?_
       try dsimp only [putL, setL, evL, getL]
       refine HL_cons rfl ?_
       refine o_assign ?_
       try dsimp only [putL, setL, evL, getL]
       refine HL_nil ?_
       refine hK266 _ _ ?_
       refine HT_ret ?_
       replace H := escH (fun z hz => hG9 _ hz) H
       exact hQr _ _ [.bool u271] ⟨rfl, trivial⟩ (retH (fun r => impl_matcher_look.post sb s F0 bp0 A0_0p c0_0p p0_0 A0_1p c0_1p p0_1 A0_2p c0_2p p0_2 A0_3p c0_3p p0_3 r _ _) (show some _ = some r from H) ⟨rfl, hH.sel [2] (by decide)⟩)
      ·replace H := iteF hb269 H
       refine HL_skip ?_ ?_
       ·exact wantF (j := 7) (b := true) (t := 83) (c := u268) rfl rfl rfl rfl hb269
       try dsimp only [putL, setL, evL, getL]
       refine HL_skip ?_ ?_
       ·exact wantF (j := 7) (b := true) (t := 83) (c := u268) rfl rfl rfl rfl hb269
       try dsimp only [putL, setL, evL, getL]
       refine HL_skip ?_ ?_
       ·exact wantF (j := 7) (b := true) (t := 83) (c := u268) rfl rfl rfl rfl hb269
       try dsimp only [putL, setL, evL, getL]
       refine HL_skip ?_ ?_
       ·exact wantF (j := 7) (b := true) (t := 83) (c := u268) rfl rfl rfl rfl hb269
       try dsimp only [putL, setL, evL, getL]
       refine HL_skip ?_ ?_
       ·exact wantF (j := 7) (b := true) (t := 83) (c := u268) rfl rfl rfl rfl hb269
       try dsimp only [putL, setL, evL, getL]
       refine HL_skip ?_ ?_
       ·exact wantF (j := 7) (b := true) (t := 83) (c := u268) rfl rfl rfl rfl hb269
       try dsimp only [putL, setL, evL, getL]
       refine HL_skip ?_ ?_
       ·exact wantF (j := 7) (b := true) (t := 83) (c := u268) rfl rfl rfl rfl hb269
       try dsimp only [putL, setL, evL, getL]
       refine HL_cons rfl ?_
       refine o_pickF rfl hb269 ?_
       try dsimp only [putL, setL, evL, getL]
       refine HL_cons rfl ?_
       refine o_assign ?_
       try dsimp only [putL, setL, evL, getL]
       refine HL_nil ?_
       refine hK266 _ _ ?_
       refine HT_ret ?_
       replace H := escH (fun z hz => hG9 _ hz) H
       exact hQr _ _ [.bool false] ⟨rfl, trivial⟩ (retH (fun r => impl_matcher_look.post sb s F0 bp0 A0_0p c0_0p p0_0 A0_1p c0_1p p0_1 A0_2p c0_2p p0_2 A0_3p c0_3p p0_3 r _ _) (show some _ = some r from H) ⟨rfl, hH.sel [1] (by decide)⟩)
     ·replace H := iteF hb265 H
      refine HT_false (congrArg Value.bool hb265) ?_
      refine HT_seq_k ?_
      intro K272 hK272
      refine HT_region ?_
      refine HL_cons rfl ?_
      refine o_bin rfl rfl rfl ?_
      try dsimp only [putL, setL, evL, getL]
      refine HL_cons rfl ?_
      refine o_assign ?_
      try dsimp only [putL, setL, evL, getL]
      refine HL_nil ?_
      refine hK272 _ _ ?_
      rcases Bool.eq_false_or_eq_true (u7.1 == 7) with hb273 | hb273
      ·replace H := iteT hb273 H
       refine HT_true (congrArg Value.bool hb273) ?_
       refine HT_seq_k ?_
       intro K274 hK274
       refine HT_region ?_
       refine HL_cons rfl ?_
       refine o_move ?_
       try dsimp only [putL, setL, evL, getL]
       refine HL_cons rfl ?_
       refine o_move ?_
       try dsimp only [putL, setL, evL, getL]
       replace H := headE H
       obtain ⟨u275, hu275, H⟩ := H
       obtain ⟨b275, o275, cs275, hr275, hh275, hel275⟩ := Rd.elb D4 hu275
       obtain rfl := hr275
       refine HL_cons rfl ?_
       refine hel275 s rfl rfl Try.underlying24 tI3 ?_
       try dsimp only [putL, setL, evL, getL]
       refine HL_cons rfl ?_
       refine o_load' rfl Try.underlying3 rfl ((hh275 hH.bs.mono) 0 _ rfl) ?_
       try dsimp only [putL, setL, evL, getL]
       refine HL_cons rfl ?_
       refine o_move ?_
       try dsimp only [putL, setL, evL, getL]
       refine HL_cons rfl ?_
       refine o_move ?_
       try dsimp only [putL, setL, evL, getL]
       replace H := headE H
       obtain ⟨u276, hu276, H⟩ := H
       obtain ⟨F1, hA, hB⟩ := hH.take [0] (by decide)
       dsimp only [addC, setC, rmC, selC, getC] at hA
       refine HL_cons rfl ?_
       refine o_call (args := #[.pointer (some ⟨bp0, 0, none⟩), .int .i64 u275, .int .i64 p2, .int .i64 p3]) Try.func178 rfl rfl rfl (impl_matcher_has.ok sb s F1 bp0 A0_0p c0_0p p0_0 A0_1p c0_1p p0_1 A0_2p c0_2p p0_2 A0_3p c0_3p p0_3 u275 p2 p3 HRp0_0 HRp0_1 HRp0_2 HRp0_3 hA _ hu276) ?_
       rintro _ s276 ⟨rfl, hD⟩
       replace hH := hB _ _ _ (Up.refl _ _ _) hD
       clear hD hA hB
       dsimp only [addC, setC, rmC, selC, getC] at hH
       try dsimp only [putL, setL, evL, getL]
       refine HL_cons rfl ?_
       refine o_not rfl ?_
       try dsimp only [putL, setL, evL, getL]
       refine HL_cons rfl ?_
       refine o_assign ?_
       try dsimp only [putL, setL, evL, getL]
       refine HL_nil ?_
       refine hK274 _ _ ?_
       refine HT_ret ?_
       replace H := escH (fun z hz => hG9 _ hz) H
       exact hQr _ _ [.bool (!u276)] ⟨rfl, trivial⟩ (retH (fun r => impl_matcher_look.post sb s F0 bp0 A0_0p c0_0p p0_0 A0_1p c0_1p p0_1 A0_2p c0_2p p0_2 A0_3p c0_3p p0_3 r _ _) (show some _ = some r from H) ⟨rfl, hH.sel [1] (by decide)⟩)
      ·replace H := iteF hb273 H
       refine HT_false (congrArg Value.bool hb273) ?_
       refine HT_seq_k ?_
       intro K277 hK277
       refine HT_region ?_
       refine HL_cons rfl ?_
       refine o_bin rfl rfl rfl ?_
       try dsimp only [putL, setL, evL, getL]
       refine HL_cons rfl ?_
       refine o_assign ?_
       try dsimp only [putL, setL, evL, getL]
       refine HL_nil ?_
       refine hK277 _ _ ?_
       rcases Bool.eq_false_or_eq_true (u7.1 == 6) with hb278 | hb278
       ·replace H := iteT hb278 H
        refine HT_true (congrArg Value.bool hb278) ?_
        refine HT_seq_k ?_
        intro K279 hK279
        refine HT_seq_k ?_
        intro K280 hK280
        refine HT_region ?_
        refine HL_cons rfl ?_
        refine o_move ?_
        try dsimp only [putL, setL, evL, getL]
        refine HL_cons rfl ?_
        refine o_move ?_
        try dsimp only [putL, setL, evL, getL]
        refine HL_cons rfl ?_
        refine o_bin rfl rfl rfl ?_
        try dsimp only [putL, setL, evL, getL]
        refine HL_nil ?_
        refine hK280 _ _ ?_
        rcases Bool.eq_false_or_eq_true (p2 == p3) with hb281 | hb281
        ·replace H := iteT hb281 H
         refine HT_true (congrArg Value.bool hb281) ?_
         refine HT_seq_k ?_
         intro K282 hK282
         refine HT_region ?_
         refine HL_cons rfl ?_
         refine o_assign ?_
         try dsimp only [putL, setL, evL, getL]
         refine HL_nil ?_
         refine hK282 _ _ ?_
         refine HT_ret ?_
         replace H := escH (fun z hz => hG9 _ hz) H
         exact hQr _ _ [.bool true] ⟨rfl, trivial⟩ (retH (fun r => impl_matcher_look.post sb s F0 bp0 A0_0p c0_0p p0_0 A0_1p c0_1p p0_1 A0_2p c0_2p p0_2 A0_3p c0_3p p0_3 r _ _) (show some _ = some r from H) ⟨rfl, hH⟩)
        ·replace H := iteF hb281 H
         refine HT_false (congrArg Value.bool hb281) ?_
         refine HT_skip ?_
         refine hK279 _ _ ?_
         refine HT_seq_k ?_
         intro K283 hK283
         refine HT_seq_k ?_
         intro K284 hK284
         refine HT_region ?_
         refine HL_cons rfl ?_
         refine o_move ?_
         try dsimp only [putL, setL, evL, getL]
         refine HL_cons rfl ?_
         refine o_bin rfl rfl rfl ?_
         try dsimp only [putL, setL, evL, getL]
         refine HL_cons rfl ?_
         refine o_assign ?_
         try dsimp only [putL, setL, evL, getL]
         refine HL_nil ?_
         refine hK284 _ _ ?_
         refine joinH H fun G285 hG285 H => ?_
         refine HT_toK (fun l' s' => G285 (.go ()) = some r ∧ l' = [.pointer (some ⟨bp0, 0, none⟩), .int .i64 p1, .int .i64 p2, .int .i64 p3, undef, undef, undef, undef, getL l' 8, .slice A4 u3.length c4, getL l' 10, undef, .pointer (some ⟨bp0, 0, none⟩), .pointer (some ⟨bp0, 0, none⟩), .pointer (some ⟨bp0, 0 + 1, none⟩), .slice A0_1p p0_1.length c0_1p, .int .i64 p1, .pointer (some ⟨b3, o3, none⟩), .slice A4 u3.length c4, .pointer (some ⟨bp0, 0, none⟩), .pointer (some ⟨bp0, 0, none⟩), .pointer (some ⟨bp0, 0 + 0, none⟩), .slice A0_0p p0_0.length c0_0p, .int .i64 p1, .pointer (some ⟨b7, o7, none⟩), .pointer (some ⟨b7, o7 + 0, none⟩), .int .i64 u7.1, .bool (u7.1 == 1), .bool (u7.1 == 1), undef, undef, undef, .bool (u7.1 == 2), .bool (u7.1 == 2), undef, undef, undef, undef, undef, undef, undef, undef, undef, undef, undef, undef, undef, undef, undef, undef, undef, undef, undef, undef, undef, undef, .bool (u7.1 == 4), .bool (u7.1 == 4), undef, undef, undef, undef, undef, undef, undef, undef, undef, undef, undef, undef, undef, undef, undef, undef, .bool (u7.1 == 5), .bool (u7.1 == 5), undef, undef, undef, undef, undef, undef, undef, undef, undef, undef, undef, undef, undef, undef, undef, undef, .bool (u7.1 == 7), .bool (u7.1 == 7), undef, undef, undef, undef, undef, undef, undef, undef, .bool (u7.1 == 6), .bool (u7.1 == 6), .int .i64 p2, .int .i64 p3, .bool (p2 == p3), .int .i64 p2, .int .i64 (IntKind.i64.wrap (p2 + 1)), getL l' 109, getL l' 110, getL l' 111, getL l' 112, getL l' 113, getL l' 114, getL l' 115, getL l' 116, getL l' 117, getL l' 118, getL l' 119, getL l' 120, getL l' 121, getL l' 122, getL l' 123, getL l' 124, getL l' 125, getL l' 126, getL l' 127, undef, undef, undef, undef, undef, undef, undef, undef, undef, undef, undef, undef, undef, undef, undef, undef, undef, undef, undef, undef, undef, undef] ∧ Hp sb s F0 s' [Ck.ov bp0 [.slice A0_0p p0_0.length c0_0p, .slice A0_1p p0_1.length c0_1p, .slice A0_2p p0_2.length c0_2p, .slice A0_3p p0_3.length c0_3p] 165]) ?_ ?_
         ·intro K285 hK285
          refine HT_block ?_
          refine HT_loopK (fun kf l' s' => ∃ (x413 : Int), (impl_matcher_look.l1 p0_0 p0_1 p0_2 p0_3 p1 p2 p3 u3 kf x413).bind G285 = some r ∧ l' = [.pointer (some ⟨bp0, 0, none⟩), .int .i64 p1, .int .i64 p2, .int .i64 p3, undef, undef, undef, undef, getL l' 8, .slice A4 u3.length c4, .int .i64 x413, undef, .pointer (some ⟨bp0, 0, none⟩), .pointer (some ⟨bp0, 0, none⟩), .pointer (some ⟨bp0, 0 + 1, none⟩), .slice A0_1p p0_1.length c0_1p, .int .i64 p1, .pointer (some ⟨b3, o3, none⟩), .slice A4 u3.length c4, .pointer (some ⟨bp0, 0, none⟩), .pointer (some ⟨bp0, 0, none⟩), .pointer (some ⟨bp0, 0 + 0, none⟩), .slice A0_0p p0_0.length c0_0p, .int .i64 p1, .pointer (some ⟨b7, o7, none⟩), .pointer (some ⟨b7, o7 + 0, none⟩), .int .i64 u7.1, .bool (u7.1 == 1), .bool (u7.1 == 1), undef, undef, undef, .bool (u7.1 == 2), .bool (u7.1 == 2), undef, undef, undef, undef, undef, undef, undef, undef, undef, undef, undef, undef, undef, undef, undef, undef, undef, undef, undef, undef, undef, undef, .bool (u7.1 == 4), .bool (u7.1 == 4), undef, undef, undef, undef, undef, undef, undef, undef, undef, undef, undef, undef, undef, undef, undef, undef, .bool (u7.1 == 5), .bool (u7.1 == 5), undef, undef, undef, undef, undef, undef, undef, undef, undef, undef, undef, undef, undef, undef, undef, undef, .bool (u7.1 == 7), .bool (u7.1 == 7), undef, undef, undef, undef, undef, undef, undef, undef, .bool (u7.1 == 6), .bool (u7.1 == 6), .int .i64 p2, .int .i64 p3, .bool (p2 == p3), .int .i64 p2, .int .i64 (IntKind.i64.wrap (p2 + 1)), getL l' 109, getL l' 110, getL l' 111, getL l' 112, getL l' 113, getL l' 114, getL l' 115, getL l' 116, getL l' 117, getL l' 118, getL l' 119, getL l' 120, getL l' 121, getL l' 122, getL l' 123, getL l' 124, getL l' 125, getL l' 126, getL l' 127, undef, undef, undef, undef, undef, undef, undef, undef, undef, undef, undef, undef, undef, undef, undef, undef, undef, undef, undef, undef, undef, undef] ∧ Hp sb s F0 s' [Ck.ov bp0 [.slice A0_0p p0_0.length c0_0p, .slice A0_1p p0_1.length c0_1p, .slice A0_2p p0_2.length c0_2p, .slice A0_3p p0_3.length c0_3p] 165]) (((p3) - (IntKind.i64.wrap (p2 + 1))).toNat + 2) ⟨IntKind.i64.wrap (p2 + 1), H, rfl, hH⟩ ?_
          rintro kf l' s446 ⟨x413, H, hl, hH⟩ K446 hK446
          generalize getL l' 8 = j8, getL l' 109 = j109, getL l' 110 = j110, getL l' 111 = j111, getL l' 112 = j112, getL l' 113 = j113, getL l' 114 = j114, getL l' 115 = j115, getL l' 116 = j116, getL l' 117 = j117, getL l' 118 = j118, getL l' 119 = j119, getL l' 120 = j120, getL l' 121 = j121, getL l' 122 = j122, getL l' 123 = j123, getL l' 124 = j124, getL l' 125 = j125, getL l' 126 = j126, getL l' 127 = j127 at hl
          subst hl
          cases kf with
          | zero => simp [impl_matcher_look.l1] at H
          | succ kf =>
           rw [impl_matcher_look.l1] at H
           refine HT_seq_k ?_
           intro K447 hK447
           refine HT_seq_k ?_
           intro K448 hK448
           refine HT_region ?_
           refine HL_cons rfl ?_
           refine o_move ?_
           try dsimp only [putL, setL, evL, getL]
           refine HL_cons rfl ?_
           refine o_move ?_
           try dsimp only [putL, setL, evL, getL]
           refine HL_cons rfl ?_
           refine o_bin rfl rfl rfl ?_
           try dsimp only [putL, setL, evL, getL]
           refine HL_nil ?_
           refine hK448 _ _ ?_
           rcases Bool.eq_false_or_eq_true (decide (x413 ≤ p3)) with hb449 | hb449
           ·replace H := iteT hb449 H
            refine HT_true (congrArg Value.bool hb449) ?_
            refine HT_skip ?_
            refine hK447 _ _ ?_
            refine HT_seq_k ?_
            intro K464 hK464
            refine HT_block ?_
            refine joinH H fun G465 hG465 H => ?_
            refine HT_joinK (fun l' s' => ∃ (x470 : Bool), G465 x470 = some r ∧ l' = [.pointer (some ⟨bp0, 0, none⟩), .int .i64 p1, .int .i64 p2, .int .i64 p3, undef, undef, undef, undef, j8, .slice A4 u3.length c4, .int .i64 x413, undef, .pointer (some ⟨bp0, 0, none⟩), .pointer (some ⟨bp0, 0, none⟩), .pointer (some ⟨bp0, 0 + 1, none⟩), .slice A0_1p p0_1.length c0_1p, .int .i64 p1, .pointer (some ⟨b3, o3, none⟩), .slice A4 u3.length c4, .pointer (some ⟨bp0, 0, none⟩), .pointer (some ⟨bp0, 0, none⟩), .pointer (some ⟨bp0, 0 + 0, none⟩), .slice A0_0p p0_0.length c0_0p, .int .i64 p1, .pointer (some ⟨b7, o7, none⟩), .pointer (some ⟨b7, o7 + 0, none⟩), .int .i64 u7.1, .bool (u7.1 == 1), .bool (u7.1 == 1), undef, undef, undef, .bool (u7.1 == 2), .bool (u7.1 == 2), undef, undef, undef, undef, undef, undef, undef, undef, undef, undef, undef, undef, undef, undef, undef, undef, undef, undef, undef, undef, undef, undef, .bool (u7.1 == 4), .bool (u7.1 == 4), undef, undef, undef, undef, undef, undef, undef, undef, undef, undef, undef, undef, undef, undef, undef, undef, .bool (u7.1 == 5), .bool (u7.1 == 5), undef, undef, undef, undef, undef, undef, undef, undef, undef, undef, undef, undef, undef, undef, undef, undef, .bool (u7.1 == 7), .bool (u7.1 == 7), undef, undef, undef, undef, undef, undef, undef, undef, .bool (u7.1 == 6), .bool (u7.1 == 6), .int .i64 p2, .int .i64 p3, .bool (p2 == p3), .int .i64 p2, .int .i64 (IntKind.i64.wrap (p2 + 1)), .int .i64 x413, .int .i64 p3, .bool (decide (x413 ≤ p3)), j112, j113, getL l' 114, getL l' 115, getL l' 116, getL l' 117, getL l' 118, getL l' 119, getL l' 120, getL l' 121, getL l' 122, getL l' 123, getL l' 124, getL l' 125, getL l' 126, .bool x470, undef, undef, undef, undef, undef, undef, undef, undef, undef, undef, undef, undef, undef, undef, undef, undef, undef, undef, undef, undef, undef, undef] ∧ Hp sb s F0 s' [Ck.ov bp0 [.slice A0_0p p0_0.length c0_0p, .slice A0_1p p0_1.length c0_1p, .slice A0_2p p0_2.length c0_2p, .slice A0_3p p0_3.length c0_3p] 165]) ?_ ?_
            ·intro K465 hK465
             refine HT_region ?_
             refine HL_cons rfl ?_
             refine o_move ?_
             try dsimp only [putL, setL, evL, getL]
             refine HL_cons rfl ?_
             refine o_move ?_
             try dsimp only [putL, setL, evL, getL]
             replace H := headE H
             obtain ⟨u471, hu471, H⟩ := H
             obtain ⟨b471, o471, cs471, hr471, hh471, hel471⟩ := Rd.elb D4 hu471
             obtain rfl := hr471
             refine HL_cons rfl ?_
             refine hel471 s446 rfl rfl Try.underlying24 tI3 ?_
             try dsimp only [putL, setL, evL, getL]
             refine HL_cons rfl ?_
             refine o_load' rfl Try.underlying3 rfl ((hh471 hH.bs.mono) 0 _ rfl) ?_
             try dsimp only [putL, setL, evL, getL]
             refine HL_cons rfl ?_
             refine o_move ?_
             try dsimp only [putL, setL, evL, getL]
             refine HL_cons rfl ?_
             refine o_move ?_
             try dsimp only [putL, setL, evL, getL]
             replace H := headE H
             obtain ⟨u472, hu472, H⟩ := H
             obtain ⟨F1, hA, hB⟩ := hH.take [0] (by decide)
             dsimp only [addC, setC, rmC, selC, getC] at hA
             refine HL_cons rfl ?_
             refine o_call (args := #[.pointer (some ⟨bp0, 0, none⟩), .int .i64 u471, .int .i64 p2, .int .i64 x413]) Try.func178 rfl rfl rfl (impl_matcher_has.ok sb s446 F1 bp0 A0_0p c0_0p p0_0 A0_1p c0_1p p0_1 A0_2p c0_2p p0_2 A0_3p c0_3p p0_3 u471 p2 x413 HRp0_0 HRp0_1 HRp0_2 HRp0_3 hA _ hu472) ?_
             rintro _ s472 ⟨rfl, hD⟩
             replace hH := hB _ _ _ (Up.refl _ _ _) hD
             clear hD hA hB
             dsimp only [addC, setC, rmC, selC, getC] at hH
             try dsimp only [putL, setL, evL, getL]
             refine HL_cons rfl ?_
             refine o_move ?_
             try dsimp only [putL, setL, evL, getL]
             rcases Bool.eq_false_or_eq_true u472 with hb473 | hb473
             ·replace H := iteT hb473 H
              refine HL_want ?_ ?_
              ·exact wantT (j := 7) (b := true) (t := 121) (c := u472) rfl rfl rfl rfl hb473
              refine o_move ?_
              try dsimp only [putL, setL, evL, getL]
              refine HL_want ?_ ?_
              ·exact wantT (j := 7) (b := true) (t := 121) (c := u472) rfl rfl rfl rfl hb473
              refine o_move ?_
              try dsimp only [putL, setL, evL, getL]
              refine HL_want ?_ ?_
              ·exact wantT (j := 7) (b := true) (t := 121) (c := u472) rfl rfl rfl rfl hb473
              refine o_move ?_
              try dsimp only [putL, setL, evL, getL]
              refine HL_want ?_ ?_
              ·exact wantT (j := 7) (b := true) (t := 121) (c := u472) rfl rfl rfl rfl hb473
              refine o_move ?_
              try dsimp only [putL, setL, evL, getL]
              replace H := headE H
              obtain ⟨u474, hu474, H⟩ := H
              obtain ⟨F1, hA, hB⟩ := hH.take [1] (by decide)
              dsimp only [addC, setC, rmC, selC, getC] at hA
              refine HL_want ?_ ?_
              ·exact wantT (j := 7) (b := true) (t := 121) (c := u472) rfl rfl rfl rfl hb473
              refine o_call (args := #[.pointer (some ⟨bp0, 0, none⟩), .int .i64 p1, .int .i64 x413, .int .i64 p3]) Try.func178 rfl rfl rfl (impl_matcher_has.ok sb s472 F1 bp0 A0_0p c0_0p p0_0 A0_1p c0_1p p0_1 A0_2p c0_2p p0_2 A0_3p c0_3p p0_3 p1 x413 p3 HRp0_0 HRp0_1 HRp0_2 HRp0_3 hA _ hu474) ?_
              rintro _ s474 ⟨rfl, hD⟩
              replace hH := hB _ _ _ (Up.refl _ _ _) hD
              clear hD hA hB
              dsimp only [addC, setC, rmC, selC, getC] at hH
              try dsimp only [putL, setL, evL, getL]
              refine HL_cons rfl ?_
              refine o_pickT rfl hb473 ?_
              try dsimp only [putL, setL, evL, getL]
              refine HL_nil ?_
              exact hK465 _ _ ⟨u474, H, rfl, hH.sel [2] (by decide)⟩
             ·replace H := iteF hb473 H
              refine HL_skip ?_ ?_
              ·exact wantF (j := 7) (b := true) (t := 121) (c := u472) rfl rfl rfl rfl hb473
              try dsimp only [putL, setL, evL, getL]
              refine HL_skip ?_ ?_
              ·exact wantF (j := 7) (b := true) (t := 121) (c := u472) rfl rfl rfl rfl hb473
              try dsimp only [putL, setL, evL, getL]
              refine HL_skip ?_ ?_
              ·exact wantF (j := 7) (b := true) (t := 121) (c := u472) rfl rfl rfl rfl hb473
              try dsimp only [putL, setL, evL, getL]
              refine HL_skip ?_ ?_
              ·exact wantF (j := 7) (b := true) (t := 121) (c := u472) rfl rfl rfl rfl hb473
              try dsimp only [putL, setL, evL, getL]
              refine HL_skip ?_ ?_
              ·exact wantF (j := 7) (b := true) (t := 121) (c := u472) rfl rfl rfl rfl hb473
              try dsimp only [putL, setL, evL, getL]
              refine HL_cons rfl ?_
              refine o_pickF rfl hb473 ?_
              try dsimp only [putL, setL, evL, getL]
              refine HL_nil ?_
              exact hK465 _ _ ⟨false, H, rfl, hH.sel [1] (by decide)⟩
            ·rintro l' s475 ⟨x470, H, hl, hH⟩
             generalize getL l' 114 = j114, getL l' 115 = j115, getL l' 116 = j116, getL l' 117 = j117, getL l' 118 = j118, getL l' 119 = j119, getL l' 120 = j120, getL l' 121 = j121, getL l' 122 = j122, getL l' 123 = j123, getL l' 124 = j124, getL l' 125 = j125, getL l' 126 = j126 at hl
             subst hl
             replace H := hG465 _ H
             try dsimp only at H
             rcases Bool.eq_false_or_eq_true x470 with hb476 | hb476
             ·replace H := iteT hb476 H
              refine HT_true (congrArg Value.bool hb476) ?_
              refine HT_seq_k ?_
              intro K477 hK477
              refine HT_region ?_
              refine HL_cons rfl ?_
              refine o_assign ?_
              try dsimp only [putL, setL, evL, getL]
              refine HL_nil ?_
              refine hK477 _ _ ?_
              refine HT_ret ?_
              replace H := escH (fun z hz => hG285 _ hz) H
              replace H := escH (fun z hz => hG9 _ hz) H
              exact hQr _ _ [.bool true] ⟨rfl, trivial⟩ (retH (fun r => impl_matcher_look.post sb s F0 bp0 A0_0p c0_0p p0_0 A0_1p c0_1p p0_1 A0_2p c0_2p p0_2 A0_3p c0_3p p0_3 r _ _) (show some _ = some r from H) ⟨rfl, hH⟩)
             ·replace H := iteF hb476 H
              refine HT_false (congrArg Value.bool hb476) ?_
              refine HT_skip ?_
              refine hK464 _ _ ?_
              refine HT_region ?_
              refine HL_cons rfl ?_
              refine o_move ?_
              try dsimp only [putL, setL, evL, getL]
              refine HL_cons rfl ?_
              refine o_bin rfl rfl rfl ?_
              try dsimp only [putL, setL, evL, getL]
              refine HL_cons rfl ?_
              refine o_assign ?_
              try dsimp only [putL, setL, evL, getL]
              refine HL_nil ?_
              exact hK446 _ _ ⟨kf, Nat.lt_succ_self kf, IntKind.i64.wrap (x413 + 1), H, rfl, hH⟩
           ·replace H := iteF hb449 H
            refine HT_false (congrArg Value.bool hb449) ?_
            refine HT_exit ?_
            exact hK285 _ _ ⟨H, rfl, hH⟩
         ·rintro l' s478 ⟨H, hl, hH⟩
          generalize getL l' 8 = j8, getL l' 10 = j10, getL l' 109 = j109, getL l' 110 = j110, getL l' 111 = j111, getL l' 112 = j112, getL l' 113 = j113, getL l' 114 = j114, getL l' 115 = j115, getL l' 116 = j116, getL l' 117 = j117, getL l' 118 = j118, getL l' 119 = j119, getL l' 120 = j120, getL l' 121 = j121, getL l' 122 = j122, getL l' 123 = j123, getL l' 124 = j124, getL l' 125 = j125, getL l' 126 = j126, getL l' 127 = j127 at hl
          subst hl
          replace H := hG285 _ H
          try dsimp only at H
          refine hK283 _ _ ?_
          refine HT_seq_k ?_
          intro K479 hK479
          refine HT_region ?_
          refine HL_cons rfl ?_
          refine o_assign ?_
          try dsimp only [putL, setL, evL, getL]
          refine HL_nil ?_
          refine hK479 _ _ ?_
          refine HT_ret ?_
          replace H := escH (fun z hz => hG9 _ hz) H
          exact hQr _ _ [.bool false] ⟨rfl, trivial⟩ (retH (fun r => impl_matcher_look.post sb s F0 bp0 A0_0p c0_0p p0_0 A0_1p c0_1p p0_1 A0_2p c0_2p p0_2 A0_3p c0_3p p0_3 r _ _) (show some _ = some r from H) ⟨rfl, hH⟩)
       ·replace H := iteF hb278 H
        refine HT_false (congrArg Value.bool hb278) ?_
        refine HT_skip ?_
        exact hK9 _ _ ⟨H, rfl, hH⟩
 ·rintro l' s480 ⟨H, hl, hH⟩
  generalize getL l' 8 = j8, getL l' 10 = j10, getL l' 27 = j27, getL l' 28 = j28, getL l' 29 = j29, getL l' 30 = j30, getL l' 31 = j31, getL l' 32 = j32, getL l' 33 = j33, getL l' 34 = j34, getL l' 35 = j35, getL l' 36 = j36, getL l' 37 = j37, getL l' 38 = j38, getL l' 39 = j39, getL l' 40 = j40, getL l' 41 = j41, getL l' 42 = j42, getL l' 43 = j43, getL l' 44 = j44, getL l' 45 = j45, getL l' 46 = j46, getL l' 47 = j47, getL l' 48 = j48, getL l' 49 = j49, getL l' 50 = j50, getL l' 51 = j51, getL l' 52 = j52, getL l' 53 = j53, getL l' 54 = j54, getL l' 55 = j55, getL l' 56 = j56, getL l' 57 = j57, getL l' 58 = j58, getL l' 59 = j59, getL l' 60 = j60, getL l' 61 = j61, getL l' 62 = j62, getL l' 63 = j63, getL l' 64 = j64, getL l' 65 = j65, getL l' 66 = j66, getL l' 67 = j67, getL l' 68 = j68, getL l' 69 = j69, getL l' 70 = j70, getL l' 71 = j71, getL l' 72 = j72, getL l' 73 = j73, getL l' 74 = j74, getL l' 75 = j75, getL l' 76 = j76, getL l' 77 = j77, getL l' 78 = j78, getL l' 79 = j79, getL l' 80 = j80, getL l' 81 = j81, getL l' 82 = j82, getL l' 83 = j83, getL l' 84 = j84, getL l' 85 = j85, getL l' 86 = j86, getL l' 87 = j87, getL l' 88 = j88, getL l' 89 = j89, getL l' 90 = j90, getL l' 91 = j91, getL l' 92 = j92, getL l' 93 = j93, getL l' 94 = j94, getL l' 95 = j95, getL l' 96 = j96, getL l' 97 = j97, getL l' 98 = j98, getL l' 99 = j99, getL l' 100 = j100, getL l' 101 = j101, getL l' 102 = j102, getL l' 103 = j103, getL l' 104 = j104, getL l' 105 = j105, getL l' 106 = j106, getL l' 107 = j107, getL l' 108 = j108, getL l' 109 = j109, getL l' 110 = j110, getL l' 111 = j111, getL l' 112 = j112, getL l' 113 = j113, getL l' 114 = j114, getL l' 115 = j115, getL l' 116 = j116, getL l' 117 = j117, getL l' 118 = j118, getL l' 119 = j119, getL l' 120 = j120, getL l' 121 = j121, getL l' 122 = j122, getL l' 123 = j123, getL l' 124 = j124, getL l' 125 = j125, getL l' 126 = j126, getL l' 127 = j127 at hl
  subst hl
  replace H := hG9 _ H
  try dsimp only at H
  refine hK5 _ _ ?_
  refine HT_seq_k ?_
  intro K481 hK481
  refine HT_seq_k ?_
  intro K482 hK482
  refine HT_region ?_
  refine HL_cons rfl ?_
  refine o_move ?_
  try dsimp only [putL, setL, evL, getL]
  refine HL_cons rfl ?_
  refine o_assign ?_
  try dsimp only [putL, setL, evL, getL]
  refine HL_nil ?_
  refine hK482 _ _ ?_
  refine joinH H fun G483 hG483 H => ?_
  refine HT_toK (fun l' s' => G483 (.go ()) = some r ∧ l' = [.pointer (some ⟨bp0, 0, none⟩), .int .i64 p1, .int .i64 p2, .int .i64 p3, undef, undef, undef, undef, getL l' 8, .slice A4 u3.length c4, j10, getL l' 11, .pointer (some ⟨bp0, 0, none⟩), .pointer (some ⟨bp0, 0, none⟩), .pointer (some ⟨bp0, 0 + 1, none⟩), .slice A0_1p p0_1.length c0_1p, .int .i64 p1, .pointer (some ⟨b3, o3, none⟩), .slice A4 u3.length c4, .pointer (some ⟨bp0, 0, none⟩), .pointer (some ⟨bp0, 0, none⟩), .pointer (some ⟨bp0, 0 + 0, none⟩), .slice A0_0p p0_0.length c0_0p, .int .i64 p1, .pointer (some ⟨b7, o7, none⟩), .pointer (some ⟨b7, o7 + 0, none⟩), .int .i64 u7.1, j27, j28, j29, j30, j31, j32, j33, j34, j35, j36, j37, j38, j39, j40, j41, j42, j43, j44, j45, j46, j47, j48, j49, j50, j51, j52, j53, j54, j55, j56, j57, j58, j59, j60, j61, j62, j63, j64, j65, j66, j67, j68, j69, j70, j71, j72, j73, j74, j75, j76, j77, j78, j79, j80, j81, j82, j83, j84, j85, j86, j87, j88, j89, j90, j91, j92, j93, j94, j95, j96, j97, j98, j99, j100, j101, j102, j103, j104, j105, j106, j107, j108, j109, j110, j111, j112, j113, j114, j115, j116, j117, j118, j119, j120, j121, j122, j123, j124, j125, j126, j127, .int .i64 p2, getL l' 129, getL l' 130, getL l' 131, getL l' 132, getL l' 133, getL l' 134, getL l' 135, getL l' 136, getL l' 137, getL l' 138, getL l' 139, getL l' 140, getL l' 141, getL l' 142, getL l' 143, getL l' 144, getL l' 145, getL l' 146, getL l' 147, getL l' 148, getL l' 149] ∧ Hp sb s F0 s' [Ck.ov bp0 [.slice A0_0p p0_0.length c0_0p, .slice A0_1p p0_1.length c0_1p, .slice A0_2p p0_2.length c0_2p, .slice A0_3p p0_3.length c0_3p] 165]) ?_ ?_
  ·intro K483 hK483
   refine HT_block ?_
   refine HT_loopK (fun kf l' s' => ∃ (x627 : Int), (impl_matcher_look.l2 p0_0 p0_1 p0_2 p0_3 p2 p3 u3 kf x627).bind G483 = some r ∧ l' = [.pointer (some ⟨bp0, 0, none⟩), .int .i64 p1, .int .i64 p2, .int .i64 p3, undef, undef, undef, undef, getL l' 8, .slice A4 u3.length c4, j10, .int .i64 x627, .pointer (some ⟨bp0, 0, none⟩), .pointer (some ⟨bp0, 0, none⟩), .pointer (some ⟨bp0, 0 + 1, none⟩), .slice A0_1p p0_1.length c0_1p, .int .i64 p1, .pointer (some ⟨b3, o3, none⟩), .slice A4 u3.length c4, .pointer (some ⟨bp0, 0, none⟩), .pointer (some ⟨bp0, 0, none⟩), .pointer (some ⟨bp0, 0 + 0, none⟩), .slice A0_0p p0_0.length c0_0p, .int .i64 p1, .pointer (some ⟨b7, o7, none⟩), .pointer (some ⟨b7, o7 + 0, none⟩), .int .i64 u7.1, j27, j28, j29, j30, j31, j32, j33, j34, j35, j36, j37, j38, j39, j40, j41, j42, j43, j44, j45, j46, j47, j48, j49, j50, j51, j52, j53, j54, j55, j56, j57, j58, j59, j60, j61, j62, j63, j64, j65, j66, j67, j68, j69, j70, j71, j72, j73, j74, j75, j76, j77, j78, j79, j80, j81, j82, j83, j84, j85, j86, j87, j88, j89, j90, j91, j92, j93, j94, j95, j96, j97, j98, j99, j100, j101, j102, j103, j104, j105, j106, j107, j108, j109, j110, j111, j112, j113, j114, j115, j116, j117, j118, j119, j120, j121, j122, j123, j124, j125, j126, j127, .int .i64 p2, getL l' 129, getL l' 130, getL l' 131, getL l' 132, getL l' 133, getL l' 134, getL l' 135, getL l' 136, getL l' 137, getL l' 138, getL l' 139, getL l' 140, getL l' 141, getL l' 142, getL l' 143, getL l' 144, getL l' 145, getL l' 146, getL l' 147, getL l' 148, getL l' 149] ∧ Hp sb s F0 s' [Ck.ov bp0 [.slice A0_0p p0_0.length c0_0p, .slice A0_1p p0_1.length c0_1p, .slice A0_2p p0_2.length c0_2p, .slice A0_3p p0_3.length c0_3p] 165]) (((p3) - (p2)).toNat + 2) ⟨p2, H, rfl, hH⟩ ?_
   rintro kf l' s664 ⟨x627, H, hl, hH⟩ K664 hK664
   generalize getL l' 8 = j8, getL l' 129 = j129, getL l' 130 = j130, getL l' 131 = j131, getL l' 132 = j132, getL l' 133 = j133, getL l' 134 = j134, getL l' 135 = j135, getL l' 136 = j136, getL l' 137 = j137, getL l' 138 = j138, getL l' 139 = j139, getL l' 140 = j140, getL l' 141 = j141, getL l' 142 = j142, getL l' 143 = j143, getL l' 144 = j144, getL l' 145 = j145, getL l' 146 = j146, getL l' 147 = j147, getL l' 148 = j148, getL l' 149 = j149 at hl
   subst hl
   cases kf with
   | zero => simp [impl_matcher_look.l2] at H
   | succ kf =>
    rw [impl_matcher_look.l2] at H
    refine HT_seq_k ?_
    intro K665 hK665
    refine HT_seq_k ?_
    intro K666 hK666
    refine HT_region ?_
    refine HL_cons rfl ?_
    refine o_move ?_
    try dsimp only [putL, setL, evL, getL]
    refine HL_cons rfl ?_
    refine o_move ?_
    try dsimp only [putL, setL, evL, getL]
    refine HL_cons rfl ?_
    refine o_bin rfl rfl rfl ?_
    try dsimp only [putL, setL, evL, getL]
    refine HL_nil ?_
    refine hK666 _ _ ?_
    rcases Bool.eq_false_or_eq_true (decide (x627 ≤ p3)) with hb667 | hb667
    ·replace H := iteT hb667 H
     refine HT_true (congrArg Value.bool hb667) ?_
     refine HT_skip ?_
     refine hK665 _ _ ?_
     refine HT_seq_k ?_
     intro K684 hK684
     refine HT_block ?_
     refine joinH H fun G685 hG685 H => ?_
     refine HT_joinK (fun l' s' => ∃ (x691 : Bool), G685 x691 = some r ∧ l' = [.pointer (some ⟨bp0, 0, none⟩), .int .i64 p1, .int .i64 p2, .int .i64 p3, undef, undef, undef, undef, j8, .slice A4 u3.length c4, j10, .int .i64 x627, .pointer (some ⟨bp0, 0, none⟩), .pointer (some ⟨bp0, 0, none⟩), .pointer (some ⟨bp0, 0 + 1, none⟩), .slice A0_1p p0_1.length c0_1p, .int .i64 p1, .pointer (some ⟨b3, o3, none⟩), .slice A4 u3.length c4, .pointer (some ⟨bp0, 0, none⟩), .pointer (some ⟨bp0, 0, none⟩), .pointer (some ⟨bp0, 0 + 0, none⟩), .slice A0_0p p0_0.length c0_0p, .int .i64 p1, .pointer (some ⟨b7, o7, none⟩), .pointer (some ⟨b7, o7 + 0, none⟩), .int .i64 u7.1, j27, j28, j29, j30, j31, j32, j33, j34, j35, j36, j37, j38, j39, j40, j41, j42, j43, j44, j45, j46, j47, j48, j49, j50, j51, j52, j53, j54, j55, j56, j57, j58, j59, j60, j61, j62, j63, j64, j65, j66, j67, j68, j69, j70, j71, j72, j73, j74, j75, j76, j77, j78, j79, j80, j81, j82, j83, j84, j85, j86, j87, j88, j89, j90, j91, j92, j93, j94, j95, j96, j97, j98, j99, j100, j101, j102, j103, j104, j105, j106, j107, j108, j109, j110, j111, j112, j113, j114, j115, j116, j117, j118, j119, j120, j121, j122, j123, j124, j125, j126, j127, .int .i64 p2, .int .i64 x627, .int .i64 p3, .bool (decide (x627 ≤ p3)), j132, j133, getL l' 134, getL l' 135, getL l' 136, getL l' 137, getL l' 138, getL l' 139, getL l' 140, getL l' 141, getL l' 142, getL l' 143, getL l' 144, getL l' 145, getL l' 146, getL l' 147, getL l' 148, .bool x691] ∧ Hp sb s F0 s' [Ck.ov bp0 [.slice A0_0p p0_0.length c0_0p, .slice A0_1p p0_1.length c0_1p, .slice A0_2p p0_2.length c0_2p, .slice A0_3p p0_3.length c0_3p] 165]) ?_ ?_
     ·intro K685 hK685
      refine HT_region ?_
      refine HL_cons rfl ?_
      refine o_move ?_
      try dsimp only [putL, setL, evL, getL]
      refine HL_cons rfl ?_
      refine o_move ?_
      try dsimp only [putL, setL, evL, getL]
      replace H := headE H
      obtain ⟨u692, hu692, H⟩ := H
      obtain ⟨b692, o692, cs692, hr692, hh692, hel692⟩ := Rd.elb D4 hu692
      obtain rfl := hr692
      refine HL_cons rfl ?_
      refine hel692 s664 rfl rfl Try.underlying24 tI3 ?_
      try dsimp only [putL, setL, evL, getL]
      refine HL_cons rfl ?_
      refine o_load' rfl Try.underlying3 rfl ((hh692 hH.bs.mono) 0 _ rfl) ?_
      try dsimp only [putL, setL, evL, getL]
      refine HL_cons rfl ?_
      refine o_move ?_
      try dsimp only [putL, setL, evL, getL]
      refine HL_cons rfl ?_
      refine o_move ?_
      try dsimp only [putL, setL, evL, getL]
      replace H := headE H
      obtain ⟨u693, hu693, H⟩ := H
      obtain ⟨F1, hA, hB⟩ := hH.take [0] (by decide)
      dsimp only [addC, setC, rmC, selC, getC] at hA
      refine HL_cons rfl ?_
      refine o_call (args := #[.pointer (some ⟨bp0, 0, none⟩), .int .i64 u692, .int .i64 p2, .int .i64 x627]) Try.func178 rfl rfl rfl (impl_matcher_has.ok sb s664 F1 bp0 A0_0p c0_0p p0_0 A0_1p c0_1p p0_1 A0_2p c0_2p p0_2 A0_3p c0_3p p0_3 u692 p2 x627 HRp0_0 HRp0_1 HRp0_2 HRp0_3 hA _ hu693) ?_
      rintro _ s693 ⟨rfl, hD⟩
      replace hH := hB _ _ _ (Up.refl _ _ _) hD
      clear hD hA hB
      dsimp only [addC, setC, rmC, selC, getC] at hH
      try dsimp only [putL, setL, evL, getL]
      refine HL_cons rfl ?_
      refine o_move ?_
      try dsimp only [putL, setL, evL, getL]
      rcases Bool.eq_false_or_eq_true u693 with hb694 | hb694
      ·replace H := iteT hb694 H
       refine HL_want ?_ ?_
       ·exact wantT (j := 7) (b := true) (t := 141) (c := u693) rfl rfl rfl rfl hb694
       refine o_move ?_
       try dsimp only [putL, setL, evL, getL]
       refine HL_want ?_ ?_
       ·exact wantT (j := 7) (b := true) (t := 141) (c := u693) rfl rfl rfl rfl hb694
       refine o_move ?_
       try dsimp only [putL, setL, evL, getL]
       replace H := headE H
       obtain ⟨u695, hu695, H⟩ := H
       obtain ⟨b695, o695, cs695, hr695, hh695, hel695⟩ := Rd.elb D4 hu695
       obtain rfl := hr695
       refine HL_want ?_ ?_
       ·exact wantT (j := 7) (b := true) (t := 141) (c := u693) rfl rfl rfl rfl hb694
       refine hel695 s693 rfl rfl Try.underlying24 tI3 ?_
       try dsimp only [putL, setL, evL, getL]
       refine HL_want ?_ ?_
       ·exact wantT (j := 7) (b := true) (t := 141) (c := u693) rfl rfl rfl rfl hb694
       refine o_load' rfl Try.underlying3 rfl ((hh695 hH.bs.mono) 0 _ rfl) ?_
       try dsimp only [putL, setL, evL, getL]
       refine HL_want ?_ ?_
       ·exact wantT (j := 7) (b := true) (t := 141) (c := u693) rfl rfl rfl rfl hb694
       refine o_move ?_
       try dsimp only [putL, setL, evL, getL]
       refine HL_want ?_ ?_
       ·exact wantT (j := 7) (b := true) (t := 141) (c := u693) rfl rfl rfl rfl hb694
       refine o_move ?_
       try dsimp only [putL, setL, evL, getL]
       replace H := headE H
       obtain ⟨u696, hu696, H⟩ := H
       obtain ⟨F1, hA, hB⟩ := hH.take [1] (by decide)
       dsimp only [addC, setC, rmC, selC, getC] at hA
       refine HL_want ?_ ?_
       ·exact wantT (j := 7) (b := true) (t := 141) (c := u693) rfl rfl rfl rfl hb694
       refine o_call (args := #[.pointer (some ⟨bp0, 0, none⟩), .int .i64 u695, .int .i64 x627, .int .i64 p3]) Try.func178 rfl rfl rfl (impl_matcher_has.ok sb s693 F1 bp0 A0_0p c0_0p p0_0 A0_1p c0_1p p0_1 A0_2p c0_2p p0_2 A0_3p c0_3p p0_3 u695 x627 p3 HRp0_0 HRp0_1 HRp0_2 HRp0_3 hA _ hu696) ?_
       rintro _ s696 ⟨rfl, hD⟩
       replace hH := hB _ _ _ (Up.refl _ _ _) hD
       clear hD hA hB
       dsimp only [addC, setC, rmC, selC, getC] at hH
       try dsimp only [putL, setL, evL, getL]
       refine HL_cons rfl ?_
       refine o_pickT rfl hb694 ?_
       try dsimp only [putL, setL, evL, getL]
       refine HL_nil ?_
       exact hK685 _ _ ⟨u696, H, rfl, hH.sel [2] (by decide)⟩
      ·replace H := iteF hb694 H
       refine HL_skip ?_ ?_
       ·exact wantF (j := 7) (b := true) (t := 141) (c := u693) rfl rfl rfl rfl hb694
       try dsimp only [putL, setL, evL, getL]
       refine HL_skip ?_ ?_
       ·exact wantF (j := 7) (b := true) (t := 141) (c := u693) rfl rfl rfl rfl hb694
       try dsimp only [putL, setL, evL, getL]
       refine HL_skip ?_ ?_
       ·exact wantF (j := 7) (b := true) (t := 141) (c := u693) rfl rfl rfl rfl hb694
       try dsimp only [putL, setL, evL, getL]
       refine HL_skip ?_ ?_
       ·exact wantF (j := 7) (b := true) (t := 141) (c := u693) rfl rfl rfl rfl hb694
       try dsimp only [putL, setL, evL, getL]
       refine HL_skip ?_ ?_
       ·exact wantF (j := 7) (b := true) (t := 141) (c := u693) rfl rfl rfl rfl hb694
       try dsimp only [putL, setL, evL, getL]
       refine HL_skip ?_ ?_
       ·exact wantF (j := 7) (b := true) (t := 141) (c := u693) rfl rfl rfl rfl hb694
       try dsimp only [putL, setL, evL, getL]
       refine HL_skip ?_ ?_
       ·exact wantF (j := 7) (b := true) (t := 141) (c := u693) rfl rfl rfl rfl hb694
       try dsimp only [putL, setL, evL, getL]
       refine HL_cons rfl ?_
       refine o_pickF rfl hb694 ?_
       try dsimp only [putL, setL, evL, getL]
       refine HL_nil ?_
       exact hK685 _ _ ⟨false, H, rfl, hH.sel [1] (by decide)⟩
     ·rintro l' s697 ⟨x691, H, hl, hH⟩
      generalize getL l' 134 = j134, getL l' 135 = j135, getL l' 136 = j136, getL l' 137 = j137, getL l' 138 = j138, getL l' 139 = j139, getL l' 140 = j140, getL l' 141 = j141, getL l' 142 = j142, getL l' 143 = j143, getL l' 144 = j144, getL l' 145 = j145, getL l' 146 = j146, getL l' 147 = j147, getL l' 148 = j148 at hl
      subst hl
      replace H := hG685 _ H
      try dsimp only at H
      rcases Bool.eq_false_or_eq_true x691 with hb698 | hb698
      ·replace H := iteT hb698 H
       refine HT_true (congrArg Value.bool hb698) ?_
       refine HT_seq_k ?_
       intro K699 hK699
       refine HT_region ?_
       refine HL_cons rfl ?_
       refine o_assign ?_
       try dsimp only [putL, setL, evL, getL]
       refine HL_nil ?_
       refine hK699 _ _ ?_
       refine HT_ret ?_
       replace H := escH (fun z hz => hG483 _ hz) H
       exact hQr _ _ [.bool true] ⟨rfl, trivial⟩ (retH (fun r => impl_matcher_look.post sb s F0 bp0 A0_0p c0_0p p0_0 A0_1p c0_1p p0_1 A0_2p c0_2p p0_2 A0_3p c0_3p p0_3 r _ _) (show some _ = some r from H) ⟨rfl, hH⟩)
      ·replace H := iteF hb698 H
       refine HT_false (congrArg Value.bool hb698) ?_
       refine HT_skip ?_
       refine hK684 _ _ ?_
       refine HT_region ?_
       refine HL_cons rfl ?_
       refine o_move ?_
       try dsimp only [putL, setL, evL, getL]
       refine HL_cons rfl ?_
       refine o_bin rfl rfl rfl ?_
       try dsimp only [putL, setL, evL, getL]
       refine HL_cons rfl ?_
       refine o_assign ?_
       try dsimp only [putL, setL, evL, getL]
       refine HL_nil ?_
       exact hK664 _ _ ⟨kf, Nat.lt_succ_self kf, IntKind.i64.wrap (x627 + 1), H, rfl, hH⟩
    ·replace H := iteF hb667 H
     refine HT_false (congrArg Value.bool hb667) ?_
     refine HT_exit ?_
     exact hK483 _ _ ⟨H, rfl, hH⟩
  ·rintro l' s700 ⟨H, hl, hH⟩
   generalize getL l' 8 = j8, getL l' 11 = j11, getL l' 129 = j129, getL l' 130 = j130, getL l' 131 = j131, getL l' 132 = j132, getL l' 133 = j133, getL l' 134 = j134, getL l' 135 = j135, getL l' 136 = j136, getL l' 137 = j137, getL l' 138 = j138, getL l' 139 = j139, getL l' 140 = j140, getL l' 141 = j141, getL l' 142 = j142, getL l' 143 = j143, getL l' 144 = j144, getL l' 145 = j145, getL l' 146 = j146, getL l' 147 = j147, getL l' 148 = j148, getL l' 149 = j149 at hl
   subst hl
   replace H := hG483 _ H
   try dsimp only at H
   refine hK481 _ _ ?_
   refine HT_seq_k ?_
   intro K701 hK701
   refine HT_region ?_
   refine HL_cons rfl ?_
   refine o_assign ?_
   try dsimp only [putL, setL, evL, getL]
   refine HL_nil ?_
   refine hK701 _ _ ?_
   refine HT_ret ?_
   exact hQr _ _ [.bool false] ⟨rfl, trivial⟩ (retH (fun r => impl_matcher_look.post sb s F0 bp0 A0_0p c0_0p p0_0 A0_1p c0_1p p0_1 A0_2p c0_2p p0_2 A0_3p c0_3p p0_3 r _ _) (show some _ = some r from H) ⟨rfl, hH⟩)
def impl_match.l2 (p1 : List (Int)) (x26748 : List (List (Bool))) : Nat → (List (List (Bool))) → Int → Option (List (List (Bool)))
 | 0, _, _ => none
 | kf + 1, x26794, x26795 => if (decide (x26795 < (x26748.length : Int))) = true then ((mk? 140737488355328 false (IntKind.i64.wrap ((p1.length : Int) + 1))).bind fun x26813 => (rd? x26794 x26795).bind fun u26814 => (st? x26794 x26795 x26813).bind fun x26816 => impl_match.l2 p1 x26748 kf x26816 (IntKind.i64.wrap (x26795 + 1))) else (some x26794)
def impl_match.l4 (p0 : List ((Int) × (List (Int)))) (p1 : List (Int)) (u3 : (List (List (Int))) × Bool) (x19452 : Int) (x19453 : List (List (List (Bool)))) (x26820 : List (List (List (Bool)))) (x28377 : Int) : Nat → (List (List (Bool))) → Int → Option (List (List (Bool)))
 | 0, _, _ => none
 | kf + 1, x29103, x29104 => if (decide (x29104 ≤ (p1.length : Int))) = true then (((rd? x29103 x28377).bind fun u29155 => (st? x26820 (x19453.length : Int) x29103).bind fun x29158 => (impl_matcher_look.f p0 u3.1 p1 x29158 x19452 x28377 x29104).bind fun u29157 => (rd? u29155 x29104).bind fun u29159 => (st? u29155 x29104 u29157).bind fun x29160 => (st? x29103 x28377 x29160).bind fun x29161 => some x29161).bind fun (o : (List (List (Bool)))) => match o with | x29154 => (impl_match.l4 p0 p1 u3 x19452 x19453 x26820 x28377 kf x29154 (IntKind.i64.wrap (x29104 + 1)))) else (some x29103)
def impl_match.l3 (p0 : List ((Int) × (List (Int)))) (p1 : List (Int)) (u3 : (List (List (Int))) × Bool) (x19452 : Int) (x19453 : List (List (List (Bool)))) (x26820 : List (List (List (Bool)))) : Nat → (List (List (Bool))) → Int → Option (List (List (List (Bool))))
 | 0, _, _ => none
 | kf + 1, x28376, x28377 => if (decide (x28377 ≥ 0)) = true then (((impl_match.l4 p0 p1 u3 x19452 x19453 x26820 x28377 ((((p1.length : Int)) - (x28377)).toNat + 2) x28376 x28377).bind fun (o : (List (List (Bool)))) => match o with | x29072 => (some x29072)).bind fun (o : (List (List (Bool)))) => match o with | x28974 => (impl_match.l3 p0 p1 u3 x19452 x19453 x26820 kf x28974 (IntKind.i64.wrap (x28377 - 1)))) else ((st? x26820 (x19453.length : Int) x28376).bind fun x29170 => some x29170)
def impl_match.l1 (p0 : List ((Int) × (List (Int)))) (p1 : List (Int)) (u3 : (List (List (Int))) × Bool) : Nat → Int → (List (List (List (Bool)))) → Option (List (List (List (Bool))))
 | 0, _, _ => none
 | kf + 1, x19452, x19453 => if (decide (x19452 < (p0.length : Int))) = true then (((mk? 5864062014805 [] (IntKind.i64.wrap ((p1.length : Int) + 1))).bind fun x26748 => (impl_match.l2 p1 x26748 ((((x26748.length : Int)) - (0)).toNat + 2) x26748 0).bind fun (o : (List (List (Bool)))) => match o with | x26784 => ((app? 5864062014805 x19453 [x26784]).bind fun x26820 => (impl_match.l3 p0 p1 u3 x19452 x19453 x26820 ((((p1.length : Int)) - (0)).toNat + 2) x26784 (p1.length : Int)).bind fun (o : (List (List (List (Bool))))) => match o with | x27997 => (some x27997))).bind fun (o : (List (List (List (Bool))))) => match o with | x26745 => (impl_match.l1 p0 p1 u3 kf (IntKind.i64.wrap (x19452 + 1)) x26745)) else (some x19453)
def impl_match.f (p0 : List ((Int) × (List (Int)))) (p1 : List (Int)) : Option ((List ((Int) × (List (Int)))) × (List (List (Int))) × (List (Int)) × (List (List (List (Bool))))) := (impl_parts.f p0).bind fun u3 => (impl_match.l1 p0 p1 u3 ((((p0.length : Int)) - (0)).toNat + 2) 0 []).bind fun (o : (List (List (List (Bool))))) => match o with | x14591 => (some (p0, u3.1, p1, x14591))
def impl_match.post (sb s : St) (F0 : Fp) (r : (List ((Int) × (List (Int)))) × (List (List (Int))) × (List (Int)) × (List (List (List (Bool))))) : Value → St → Prop := fun v s' => ∃ (bq0 : Nat) (A0 : Option Addr) (c0 : Nat) (A1 : Option Addr) (c1 : Nat) (A2 : Option Addr) (c2 : Nat) (A3 : Option Addr) (c3 : Nat), v = .pointer (some ⟨bq0, 0, none⟩) ∧ Hp sb s F0 s' [Ck.ol (Ow.sl OI 3) 24 A1 c1 r.2.1, Ck.ol (Ow.sl (Ow.sl (Ow.flat Kd.bool_flat) 4) 209) 178 A3 c3 r.2.2.2, Ck.ov bq0 [.slice A0 r.1.length c0, .slice A1 r.2.1.length c1, .slice A2 r.2.2.1.length c2, .slice A3 r.2.2.2.length c3] 165] ∧ Rd KS139 sb A0 c0 r.1 ∧ Rd KI sb A2 c2 r.2.2.1
set_option maxRecDepth 100000 in
set_option maxHeartbeats 4000000 in
theorem impl_match.ok (sb s : St) (F0 : Fp) (A0p : Option Addr) (c0p : Nat) (p0 : List ((Int) × (List (Int)))) (A1p : Option Addr) (c1p : Nat) (p1 : List (Int)) (HRp0 : Rd KS139 sb A0p c0p p0) (HRp1 : Rd KI sb A1p c1p p1) (hH : Hp sb s F0 s []) (r : (List ((Int) × (List (Int)))) × (List (List (Int))) × (List (Int)) × (List (List (List (Bool))))) (H : impl_match.f p0 p1 = some r) : GCall Try.prog 177 #[.slice A0p p0.length c0p, .slice A1p p1.length c1p] s (impl_match.post sb s F0 r) := by
 refine GCall_ofk [.tmp 4] [.slice A0p p0.length c0p, .slice A1p p1.length c1p, undef, undef, undef, undef, undef, undef, undef, undef, undef, undef, undef, undef, undef, undef, undef, undef, undef, undef, undef, undef, undef, undef, undef, undef, undef, undef, undef, undef, undef, undef, undef, undef, undef, undef, undef, undef, undef, undef, undef, undef, undef, undef, undef, undef, undef, undef, undef, undef, undef, undef, undef, undef, undef, undef, undef, undef, undef, undef, undef, undef, undef, undef, undef, undef, undef, undef, undef, undef, undef, undef, undef, undef, undef, undef, undef, undef, undef, undef, undef] Try.func177 rfl rfl rfl ?_
 intro w Q hQr hQn hQp
 replace H := topE H
 unfold impl_match.f at H
 refine HT_seq_k ?_
 intro K1 hK1
 refine HT_region ?_
 refine HL_cons rfl ?_
 refine o_assign ?_
 try dsimp only [putL, setL, evL, getL]
 refine HL_nil ?_
 refine hK1 _ _ ?_
 refine HT_seq_k ?_
 intro K2 hK2
 refine HT_region ?_
 refine HL_cons rfl ?_
 refine o_move ?_
 try dsimp only [putL, setL, evL, getL]
 replace H := headE H
 obtain ⟨u3, hu3, H⟩ := H
 refine HL_cons rfl ?_
 refine o_call (args := #[.slice A0p p0.length c0p]) Try.func155 rfl rfl rfl (impl_parts.ok sb s no A0p c0p p0 HRp0 (Hp.own hH.bs) _ hu3) ?_
 rintro _ s3 ⟨A4, c4, rfl, hD⟩
 replace hH := hH.back0 hD (Up.refl _ _ _)
 clear hD
 dsimp only [addC, setC, rmC, selC, getC] at hH
 try dsimp only [putL, setL, evL, getL]
 refine HL_cons rfl ?_
 refine o_move ?_
 try dsimp only [putL, setL, evL, getL]
 refine HL_cons rfl ?_
 refine o_extract rfl rfl ?_
 try dsimp only [putL, setL, evL, getL]
 refine HL_cons rfl ?_
 refine o_extract rfl rfl ?_
 try dsimp only [putL, setL, evL, getL]
 refine HL_cons rfl ?_
 refine o_assign ?_
 try dsimp only [putL, setL, evL, getL]
 refine HL_cons rfl ?_
 refine o_assign ?_
 try dsimp only [putL, setL, evL, getL]
 refine HL_nil ?_
 refine hK2 _ _ ?_
 refine HT_seq_k ?_
 intro K5 hK5
 refine HT_region ?_
 refine HL_cons rfl ?_
 refine o_move ?_
 try dsimp only [putL, setL, evL, getL]
 refine HL_cons rfl ?_
 refine o_move ?_
 try dsimp only [putL, setL, evL, getL]
 refine HL_cons rfl ?_
 refine o_move ?_
 try dsimp only [putL, setL, evL, getL]
 refine HL_cons rfl ?_
 refine o_build (pl := [(0, 1), (1, 1), (2, 1), (3, 1)]) (cs := #[.slice A0p p0.length c0p, .slice A4 u3.1.length c4, .slice A1p p1.length c1p, .slice none 0 0]) Try.underlying165 tI165 (by kernel_rfl) (by kernel_rfl) rfl ?_
 try dsimp only [putL, setL, evL, getL]
 refine HL_cons rfl ?_
 refine o_boxH hH rfl ?_
 intro b6 s6 hH' hG
 replace hH : Hp sb s F0 s6 [Ck.ol (Ow.sl OI 3) 24 A4 c4 u3.1, Ck.ov b6 [.slice A0p p0.length c0p, .slice A4 u3.1.length c4, .slice A1p p1.length c1p, .slice none 0 0] 165] := hH'
 clear hH' hG
 try dsimp only [putL, setL, evL, getL]
 refine HL_cons rfl ?_
 refine o_assign ?_
 try dsimp only [putL, setL, evL, getL]
 refine HL_nil ?_
 refine hK5 _ _ ?_
 refine HT_seq_k ?_
 intro K7 hK7
 refine HT_seq_k ?_
 intro K8 hK8
 refine HT_region ?_
 refine HL_cons rfl ?_
 refine o_move ?_
 try dsimp only [putL, setL, evL, getL]
 refine HL_cons rfl ?_
 refine o_len rfl Try.underlying57 ?_
 try dsimp only [putL, setL, evL, getL]
 refine HL_cons rfl ?_
 refine o_move ?_
 try dsimp only [putL, setL, evL, getL]
 refine HL_nil ?_
 refine hK8 _ _ ?_
 refine joinH H fun G9 hG9 H => ?_
 refine HT_toK (fun l' s' => ∃ (x14591 : List (List (List (Bool)))) (A14591 : Option Addr) (c14591 : Nat), G9 x14591 = some r ∧ l' = [.slice A0p p0.length c0p, .slice A1p p1.length c1p, undef, undef, .pointer none, .slice A4 u3.1.length c4, .bool u3.2, .pointer (some ⟨b6, 0, none⟩), getL l' 8, getL l' 9, getL l' 10, getL l' 11, getL l' 12, .tuple #[.slice A4 u3.1.length c4, .bool u3.2], .slice A0p p0.length c0p, .tuple #[.slice A4 u3.1.length c4, .bool u3.2], .slice A4 u3.1.length c4, .bool u3.2, .slice A0p p0.length c0p, .slice A4 u3.1.length c4, .slice A1p p1.length c1p, .agg #[.slice A0p p0.length c0p, .slice A4 u3.1.length c4, .slice A1p p1.length c1p, .slice none 0 0], .pointer (some ⟨b6, 0, none⟩), .slice A0p p0.length c0p, .int .i64 (p0.length : Int), getL l' 25, getL l' 26, getL l' 27, getL l' 28, getL l' 29, getL l' 30, getL l' 31, getL l' 32, getL l' 33, getL l' 34, getL l' 35, getL l' 36, getL l' 37, getL l' 38, getL l' 39, getL l' 40, getL l' 41, getL l' 42, getL l' 43, getL l' 44, getL l' 45, getL l' 46, getL l' 47, getL l' 48, getL l' 49, getL l' 50, getL l' 51, getL l' 52, getL l' 53, getL l' 54, getL l' 55, getL l' 56, getL l' 57, getL l' 58, getL l' 59, getL l' 60, getL l' 61, getL l' 62, getL l' 63, getL l' 64, getL l' 65, getL l' 66, getL l' 67, getL l' 68, getL l' 69, getL l' 70, getL l' 71, getL l' 72, getL l' 73, getL l' 74, getL l' 75, getL l' 76, getL l' 77, getL l' 78, getL l' 79, undef] ∧ Hp sb s F0 s' [Ck.ol (Ow.sl (Ow.sl (Ow.flat Kd.bool_flat) 4) 209) 178 A14591 c14591 x14591, Ck.ol (Ow.sl OI 3) 24 A4 c4 u3.1, Ck.ov b6 [.slice A0p p0.length c0p, .slice A4 u3.1.length c4, .slice A1p p1.length c1p, .slice A14591 x14591.length c14591] 165]) ?_ ?_
 ·intro K9 hK9
  refine HT_block ?_
  refine HT_loopK (fun kf l' s' => ∃ (x19452 : Int) (x19453 : List (List (List (Bool)))) (A19453 : Option Addr) (c19453 : Nat), (impl_match.l1 p0 p1 u3 kf x19452 x19453).bind G9 = some r ∧ l' = [.slice A0p p0.length c0p, .slice A1p p1.length c1p, undef, undef, .pointer none, .slice A4 u3.1.length c4, .bool u3.2, .pointer (some ⟨b6, 0, none⟩), getL l' 8, getL l' 9, getL l' 10, getL l' 11, getL l' 12, .tuple #[.slice A4 u3.1.length c4, .bool u3.2], .slice A0p p0.length c0p, .tuple #[.slice A4 u3.1.length c4, .bool u3.2], .slice A4 u3.1.length c4, .bool u3.2, .slice A0p p0.length c0p, .slice A4 u3.1.length c4, .slice A1p p1.length c1p, .agg #[.slice A0p p0.length c0p, .slice A4 u3.1.length c4, .slice A1p p1.length c1p, .slice none 0 0], .pointer (some ⟨b6, 0, none⟩), .slice A0p p0.length c0p, .int .i64 (p0.length : Int), .int .i64 x19452, getL l' 26, getL l' 27, getL l' 28, getL l' 29, getL l' 30, getL l' 31, getL l' 32, getL l' 33, getL l' 34, getL l' 35, getL l' 36, getL l' 37, getL l' 38, getL l' 39, getL l' 40, getL l' 41, getL l' 42, getL l' 43, getL l' 44, getL l' 45, getL l' 46, getL l' 47, getL l' 48, getL l' 49, getL l' 50, getL l' 51, getL l' 52, getL l' 53, getL l' 54, getL l' 55, getL l' 56, getL l' 57, getL l' 58, getL l' 59, getL l' 60, getL l' 61, getL l' 62, getL l' 63, getL l' 64, getL l' 65, getL l' 66, getL l' 67, getL l' 68, getL l' 69, getL l' 70, getL l' 71, getL l' 72, getL l' 73, getL l' 74, getL l' 75, getL l' 76, getL l' 77, getL l' 78, getL l' 79, undef] ∧ Hp sb s F0 s' [Ck.ol (Ow.sl (Ow.sl (Ow.flat Kd.bool_flat) 4) 209) 178 A19453 c19453 x19453, Ck.ol (Ow.sl OI 3) 24 A4 c4 u3.1, Ck.ov b6 [.slice A0p p0.length c0p, .slice A4 u3.1.length c4, .slice A1p p1.length c1p, .slice A19453 x19453.length c19453] 165]) ((((p0.length : Int)) - (0)).toNat + 2) ⟨0, [], none, 0, H, rfl, (hH.nil (K := (Kd.sl (Kd.sl Kd.bool))) (Ow.sl (Ow.sl (Ow.flat Kd.bool_flat) 4) 209) 178).sel [2, 0, 1] (by decide)⟩ ?_
  rintro kf l' s24314 ⟨x19452, x19453, A19453, c19453, H, hl, hH⟩ K24314 hK24314
  generalize getL l' 8 = j8, getL l' 9 = j9, getL l' 10 = j10, getL l' 11 = j11, getL l' 12 = j12, getL l' 26 = j26, getL l' 27 = j27, getL l' 28 = j28, getL l' 29 = j29, getL l' 30 = j30, getL l' 31 = j31, getL l' 32 = j32, getL l' 33 = j33, getL l' 34 = j34, getL l' 35 = j35, getL l' 36 = j36, getL l' 37 = j37, getL l' 38 = j38, getL l' 39 = j39, getL l' 40 = j40, getL l' 41 = j41, getL l' 42 = j42, getL l' 43 = j43, getL l' 44 = j44, getL l' 45 = j45, getL l' 46 = j46, getL l' 47 = j47, getL l' 48 = j48, getL l' 49 = j49, getL l' 50 = j50, getL l' 51 = j51, getL l' 52 = j52, getL l' 53 = j53, getL l' 54 = j54, getL l' 55 = j55, getL l' 56 = j56, getL l' 57 = j57, getL l' 58 = j58, getL l' 59 = j59, getL l' 60 = j60, getL l' 61 = j61, getL l' 62 = j62, getL l' 63 = j63, getL l' 64 = j64, getL l' 65 = j65, getL l' 66 = j66, getL l' 67 = j67, getL l' 68 = j68, getL l' 69 = j69, getL l' 70 = j70, getL l' 71 = j71, getL l' 72 = j72, getL l' 73 = j73, getL l' 74 = j74, getL l' 75 = j75, getL l' 76 = j76, getL l' 77 = j77, getL l' 78 = j78, getL l' 79 = j79 at hl
  subst hl
  cases kf with
  | zero => simp [impl_match.l1] at H
  | succ kf =>
   rw [impl_match.l1] at H
   refine HT_seq_k ?_
   intro K24315 hK24315
   refine HT_region ?_
   refine HL_cons rfl ?_
   refine o_bin rfl rfl rfl ?_
   try dsimp only [putL, setL, evL, getL]
   refine HL_nil ?_
   refine hK24315 _ _ ?_
   refine HT_seq_k ?_
   intro K24316 hK24316
   rcases Bool.eq_false_or_eq_true (decide (x19452 < (p0.length : Int))) with hb24317 | hb24317
   ·replace H := iteT hb24317 H
    refine HT_true (congrArg Value.bool hb24317) ?_
    refine HT_skip ?_
    refine hK24316 _ _ ?_
    refine joinH H fun G24318 hG24318 H => ?_
    refine HT_joinK (fun l' s' => ∃ (x26745 : List (List (List (Bool)))) (A26745 : Option Addr) (c26745 : Nat), G24318 x26745 = some r ∧ l' = [.slice A0p p0.length c0p, .slice A1p p1.length c1p, undef, undef, .pointer none, .slice A4 u3.1.length c4, .bool u3.2, .pointer (some ⟨b6, 0, none⟩), getL l' 8, getL l' 9, getL l' 10, getL l' 11, getL l' 12, .tuple #[.slice A4 u3.1.length c4, .bool u3.2], .slice A0p p0.length c0p, .tuple #[.slice A4 u3.1.length c4, .bool u3.2], .slice A4 u3.1.length c4, .bool u3.2, .slice A0p p0.length c0p, .slice A4 u3.1.length c4, .slice A1p p1.length c1p, .agg #[.slice A0p p0.length c0p, .slice A4 u3.1.length c4, .slice A1p p1.length c1p, .slice none 0 0], .pointer (some ⟨b6, 0, none⟩), .slice A0p p0.length c0p, .int .i64 (p0.length : Int), .int .i64 x19452, .bool (decide (x19452 < (p0.length : Int))), getL l' 27, getL l' 28, getL l' 29, getL l' 30, getL l' 31, getL l' 32, getL l' 33, getL l' 34, getL l' 35, getL l' 36, getL l' 37, getL l' 38, getL l' 39, getL l' 40, getL l' 41, getL l' 42, getL l' 43, getL l' 44, getL l' 45, getL l' 46, getL l' 47, getL l' 48, getL l' 49, getL l' 50, getL l' 51, getL l' 52, getL l' 53, getL l' 54, getL l' 55, getL l' 56, getL l' 57, getL l' 58, getL l' 59, getL l' 60, getL l' 61, getL l' 62, getL l' 63, getL l' 64, getL l' 65, getL l' 66, getL l' 67, getL l' 68, getL l' 69, getL l' 70, getL l' 71, getL l' 72, getL l' 73, getL l' 74, getL l' 75, getL l' 76, getL l' 77, getL l' 78, j79, undef] ∧ Hp sb s F0 s' [Ck.ol (Ow.sl (Ow.sl (Ow.flat Kd.bool_flat) 4) 209) 178 A26745 c26745 x26745, Ck.ol (Ow.sl OI 3) 24 A4 c4 u3.1, Ck.ov b6 [.slice A0p p0.length c0p, .slice A4 u3.1.length c4, .slice A1p p1.length c1p, .slice A26745 x26745.length c26745] 165]) ?_ ?_
    ·intro K24318 hK24318
     refine HT_block ?_
     refine HT_seq_k ?_
     intro K26746 hK26746
     refine HT_region ?_
     refine HL_cons rfl ?_
     refine o_move ?_
     try dsimp only [putL, setL, evL, getL]
     refine HL_cons rfl ?_
     refine o_assign ?_
     try dsimp only [putL, setL, evL, getL]
     refine HL_nil ?_
     refine hK26746 _ _ ?_
     refine HT_seq_k ?_
     intro K26747 hK26747
     refine HT_region ?_
     refine HL_cons rfl ?_
     refine o_move ?_
     try dsimp only [putL, setL, evL, getL]
     refine HL_cons rfl ?_
     refine o_len rfl Try.underlying24 ?_
     try dsimp only [putL, setL, evL, getL]
     refine HL_cons rfl ?_
     refine o_bin rfl rfl rfl ?_
     try dsimp only [putL, setL, evL, getL]
     replace H := headE H
     obtain ⟨x26748, hx26748, H⟩ := H
     refine HL_cons rfl ?_
     refine o_makeH (K := (Kd.sl Kd.bool)) (O := (Ow.sl (Ow.flat Kd.bool_flat) 4)) (x0 := []) hH rfl Try.underlying178 tI209 rfl (by decide) (by decide) (by decide) Own0.nil hx26748 ?_
     intro A26748 c26748 s26748 hH' hG
     replace hH : Hp sb s F0 s26748 [Ck.ol (Ow.sl (Ow.sl (Ow.flat Kd.bool_flat) 4) 209) 178 A19453 c19453 x19453, Ck.ol (Ow.sl OI 3) 24 A4 c4 u3.1, Ck.ov b6 [.slice A0p p0.length c0p, .slice A4 u3.1.length c4, .slice A1p p1.length c1p, .slice A19453 x19453.length c19453] 165, Ck.ol (Ow.sl (Ow.flat Kd.bool_flat) 4) 209 A26748 c26748 x26748] := hH'
     clear hH' hG
     try dsimp only [putL, setL, evL, getL]
     refine HL_cons rfl ?_
     refine o_assign ?_
     try dsimp only [putL, setL, evL, getL]
     refine HL_nil ?_
     refine hK26747 _ _ ?_
     refine HT_seq_k ?_
     intro K26749 hK26749
     refine HT_seq_k ?_
     intro K26750 hK26750
     refine HT_region ?_
     refine HL_cons rfl ?_
     refine o_move ?_
     try dsimp only [putL, setL, evL, getL]
     refine HL_cons rfl ?_
     refine o_len rfl Try.underlying178 ?_
     try dsimp only [putL, setL, evL, getL]
     refine HL_cons rfl ?_
     refine o_move ?_
     try dsimp only [putL, setL, evL, getL]
     refine HL_nil ?_
     refine hK26750 _ _ ?_
     refine joinH H fun G26751 hG26751 H => ?_
     refine HT_toK (fun l' s' => ∃ (x26784 : List (List (Bool))), G26751 x26784 = some r ∧ l' = [.slice A0p p0.length c0p, .slice A1p p1.length c1p, undef, undef, .pointer none, .slice A4 u3.1.length c4, .bool u3.2, .pointer (some ⟨b6, 0, none⟩), .int .i64 x19452, .slice A26748 x26748.length c26748, getL l' 10, j11, j12, .tuple #[.slice A4 u3.1.length c4, .bool u3.2], .slice A0p p0.length c0p, .tuple #[.slice A4 u3.1.length c4, .bool u3.2], .slice A4 u3.1.length c4, .bool u3.2, .slice A0p p0.length c0p, .slice A4 u3.1.length c4, .slice A1p p1.length c1p, .agg #[.slice A0p p0.length c0p, .slice A4 u3.1.length c4, .slice A1p p1.length c1p, .slice none 0 0], .pointer (some ⟨b6, 0, none⟩), .slice A0p p0.length c0p, .int .i64 (p0.length : Int), .int .i64 x19452, .bool (decide (x19452 < (p0.length : Int))), .int .i64 x19452, .slice A1p p1.length c1p, .int .i64 (p1.length : Int), .int .i64 (IntKind.i64.wrap ((p1.length : Int) + 1)), .slice A26748 x26748.length c26748, .slice A26748 x26748.length c26748, .int .i64 (x26748.length : Int), getL l' 34, getL l' 35, getL l' 36, getL l' 37, getL l' 38, getL l' 39, getL l' 40, getL l' 41, getL l' 42, getL l' 43, getL l' 44, j45, j46, j47, j48, j49, j50, j51, j52, j53, j54, j55, j56, j57, j58, j59, j60, j61, j62, j63, j64, j65, j66, j67, j68, j69, j70, j71, j72, j73, j74, j75, j76, j77, j78, j79, undef] ∧ Hp sb s F0 s' [Ck.ol (Ow.sl (Ow.flat Kd.bool_flat) 4) 209 A26748 c26748 x26784, Ck.ol (Ow.sl OI 3) 24 A4 c4 u3.1, Ck.ol (Ow.sl (Ow.sl (Ow.flat Kd.bool_flat) 4) 209) 178 A19453 c19453 x19453, Ck.ov b6 [.slice A0p p0.length c0p, .slice A4 u3.1.length c4, .slice A1p p1.length c1p, .slice A19453 x19453.length c19453] 165] ∧ x26784.length = x26748.length) ?_ ?_
     ·intro K26751 hK26751
      refine HT_block ?_
      refine HT_loopK (fun kf l' s' => ∃ (x26794 : List (List (Bool))) (x26795 : Int), (impl_match.l2 p1 x26748 kf x26794 x26795).bind G26751 = some r ∧ l' = [.slice A0p p0.length c0p, .slice A1p p1.length c1p, undef, undef, .pointer none, .slice A4 u3.1.length c4, .bool u3.2, .pointer (some ⟨b6, 0, none⟩), .int .i64 x19452, .slice A26748 x26748.length c26748, getL l' 10, j11, j12, .tuple #[.slice A4 u3.1.length c4, .bool u3.2], .slice A0p p0.length c0p, .tuple #[.slice A4 u3.1.length c4, .bool u3.2], .slice A4 u3.1.length c4, .bool u3.2, .slice A0p p0.length c0p, .slice A4 u3.1.length c4, .slice A1p p1.length c1p, .agg #[.slice A0p p0.length c0p, .slice A4 u3.1.length c4, .slice A1p p1.length c1p, .slice none 0 0], .pointer (some ⟨b6, 0, none⟩), .slice A0p p0.length c0p, .int .i64 (p0.length : Int), .int .i64 x19452, .bool (decide (x19452 < (p0.length : Int))), .int .i64 x19452, .slice A1p p1.length c1p, .int .i64 (p1.length : Int), .int .i64 (IntKind.i64.wrap ((p1.length : Int) + 1)), .slice A26748 x26748.length c26748, .slice A26748 x26748.length c26748, .int .i64 (x26748.length : Int), .int .i64 x26795, getL l' 35, getL l' 36, getL l' 37, getL l' 38, getL l' 39, getL l' 40, getL l' 41, getL l' 42, getL l' 43, getL l' 44, j45, j46, j47, j48, j49, j50, j51, j52, j53, j54, j55, j56, j57, j58, j59, j60, j61, j62, j63, j64, j65, j66, j67, j68, j69, j70, j71, j72, j73, j74, j75, j76, j77, j78, j79, undef] ∧ Hp sb s F0 s' [Ck.ol (Ow.sl (Ow.flat Kd.bool_flat) 4) 209 A26748 c26748 x26794, Ck.ol (Ow.sl OI 3) 24 A4 c4 u3.1, Ck.ol (Ow.sl (Ow.sl (Ow.flat Kd.bool_flat) 4) 209) 178 A19453 c19453 x19453, Ck.ov b6 [.slice A0p p0.length c0p, .slice A4 u3.1.length c4, .slice A1p p1.length c1p, .slice A19453 x19453.length c19453] 165] ∧ x26794.length = x26748.length) ((((x26748.length : Int)) - (0)).toNat + 2) ⟨x26748, 0, H, rfl, hH.sel [3, 1, 0, 2] (by decide), rfl⟩ ?_
      rintro kf l' s26807 ⟨x26794, x26795, H, hl, hH, hl26794⟩ K26807 hK26807
      generalize getL l' 10 = j10, getL l' 35 = j35, getL l' 36 = j36, getL l' 37 = j37, getL l' 38 = j38, getL l' 39 = j39, getL l' 40 = j40, getL l' 41 = j41, getL l' 42 = j42, getL l' 43 = j43, getL l' 44 = j44 at hl
      subst hl
      cases kf with
      | zero => simp [impl_match.l2] at H
      | succ kf =>
       rw [impl_match.l2] at H
       refine HT_seq_k ?_
       intro K26808 hK26808
       refine HT_region ?_
       refine HL_cons rfl ?_
       refine o_bin rfl rfl rfl ?_
       try dsimp only [putL, setL, evL, getL]
       refine HL_nil ?_
       refine hK26808 _ _ ?_
       refine HT_seq_k ?_
       intro K26809 hK26809
       rcases Bool.eq_false_or_eq_true (decide (x26795 < (x26748.length : Int))) with hb26810 | hb26810
       ·replace H := iteT hb26810 H
        refine HT_true (congrArg Value.bool hb26810) ?_
        refine HT_skip ?_
        refine hK26809 _ _ ?_
        refine HT_seq_k ?_
        intro K26811 hK26811
        refine HT_block ?_
        refine HT_seq_k ?_
        intro K26812 hK26812
        refine HT_region ?_
        refine HL_cons rfl ?_
        refine o_move ?_
        try dsimp only [putL, setL, evL, getL]
        refine HL_cons rfl ?_
        refine o_assign ?_
        try dsimp only [putL, setL, evL, getL]
        refine HL_nil ?_
        refine hK26812 _ _ ?_
        refine HT_region ?_
        refine HL_cons rfl ?_
        refine o_move ?_
        try dsimp only [putL, setL, evL, getL]
        refine HL_cons rfl ?_
        refine o_move ?_
        try dsimp only [putL, setL, evL, getL]
        refine HL_cons rfl ?_
        refine o_move ?_
        try dsimp only [putL, setL, evL, getL]
        refine HL_cons rfl ?_
        refine o_len rfl Try.underlying24 ?_
        try dsimp only [putL, setL, evL, getL]
        refine HL_cons rfl ?_
        refine o_bin rfl rfl rfl ?_
        try dsimp only [putL, setL, evL, getL]
        replace H := headE H
        obtain ⟨x26813, hx26813, H⟩ := H
        refine HL_cons rfl ?_
        refine o_makeH (K := Kd.bool) (O := (Ow.flat Kd.bool_flat)) (x0 := false) hH rfl Try.underlying209 tI4 rfl (by decide) (by decide) (by decide) (Own0.fl fun _ => rfl) hx26813 ?_
        intro A26813 c26813 s26813 hH' hG
        replace hH : Hp sb s F0 s26813 [Ck.ol (Ow.sl (Ow.flat Kd.bool_flat) 4) 209 A26748 c26748 x26794, Ck.ol (Ow.sl OI 3) 24 A4 c4 u3.1, Ck.ol (Ow.sl (Ow.sl (Ow.flat Kd.bool_flat) 4) 209) 178 A19453 c19453 x19453, Ck.ov b6 [.slice A0p p0.length c0p, .slice A4 u3.1.length c4, .slice A1p p1.length c1p, .slice A19453 x19453.length c19453] 165, Ck.ol (Ow.flat Kd.bool_flat) 4 A26813 c26813 x26813] := hH'
        clear hH' hG
        try dsimp only [putL, setL, evL, getL]
        replace H := headE H
        obtain ⟨u26814, hu26814, H⟩ := H
        obtain ⟨b26814, o26814, cs26814, hA26814, hr26814, hh26814, hel26814⟩ := hH.elo 0 rfl hu26814
        obtain ⟨A26815, c26815, rfl, D26815⟩ := hr26814
        refine HL_cons rfl ?_
        refine hel26814 s26813 (sliceLen hl26794) rfl Try.underlying178 tI209 ?_
        try dsimp only [putL, setL, evL, getL]
        replace hH := hH.conv [4] (by decide) (d := Ck.el (Ow.sl (Ow.flat Kd.bool_flat) 4) [.slice A26813 x26813.length c26813] x26813) Ent.sl
        dsimp only [addC, setC, rmC, selC, getC] at hH
        replace H := headE H
        obtain ⟨x26816, hx26816, H⟩ := H
        refine HL_cons rfl ?_
        refine o_setD (u := x26813) hH 0 5 (by decide) rfl rfl rfl rfl rfl rfl tI209 hA26814 hx26816 ?_
        intro s26816 hH'
        have hl26816 := (st?_len hx26816).trans hl26794
        replace hH : Hp sb s F0 s26816 [Ck.ol (Ow.sl (Ow.flat Kd.bool_flat) 4) 209 A26748 c26748 x26816, Ck.ol (Ow.sl OI 3) 24 A4 c4 u3.1, Ck.ol (Ow.sl (Ow.sl (Ow.flat Kd.bool_flat) 4) 209) 178 A19453 c19453 x19453, Ck.ov b6 [.slice A0p p0.length c0p, .slice A4 u3.1.length c4, .slice A1p p1.length c1p, .slice A19453 x19453.length c19453] 165, Ck.emp, Ck.emp] := hH'
        clear hH'
        try dsimp only [putL, setL, evL, getL]
        refine HL_nil ?_
        refine hK26811 _ _ ?_
        refine HT_region ?_
        refine HL_cons rfl ?_
        refine o_bin rfl rfl rfl ?_
        try dsimp only [putL, setL, evL, getL]
        refine HL_cons rfl ?_
        refine o_move ?_
        try dsimp only [putL, setL, evL, getL]
        refine HL_nil ?_
        exact hK26807 _ _ ⟨kf, Nat.lt_succ_self kf, x26816, IntKind.i64.wrap (x26795 + 1), H, rfl, hH.sel [0, 1, 2, 3] (by decide), hl26816⟩
       ·replace H := iteF hb26810 H
        refine HT_false (congrArg Value.bool hb26810) ?_
        refine HT_exit ?_
        exact hK26751 _ _ ⟨x26794, H, rfl, hH, hl26794⟩
     ·rintro l' s26817 ⟨x26784, H, hl, hH, hl26784⟩
      generalize getL l' 10 = j10, getL l' 34 = j34, getL l' 35 = j35, getL l' 36 = j36, getL l' 37 = j37, getL l' 38 = j38, getL l' 39 = j39, getL l' 40 = j40, getL l' 41 = j41, getL l' 42 = j42, getL l' 43 = j43, getL l' 44 = j44 at hl
      subst hl
      replace H := hG26751 _ H
      try dsimp only at H
      refine hK26749 _ _ ?_
      refine HT_seq_k ?_
      intro K26818 hK26818
      refine HT_region ?_
      refine HL_cons rfl ?_
      refine o_move ?_
      try dsimp only [putL, setL, evL, getL]
      refine HL_cons rfl ?_
      refine o_move ?_
      try dsimp only [putL, setL, evL, getL]
      refine HL_cons rfl ?_
      refine o_nilck rfl ?_
      try dsimp only [putL, setL, evL, getL]
      refine HL_cons rfl ?_
      refine o_faddr' (ft := 163) (off := 3) rfl Try.underlying165 rfl tI163 (by decide) ?_
      try dsimp only [putL, setL, evL, getL]
      refine HL_cons rfl ?_
      refine o_load' rfl Try.underlying163 rfl (hH.hasv 3 rfl rfl) ?_
      try dsimp only [putL, setL, evL, getL]
      refine HL_cons rfl ?_
      refine o_move ?_
      try dsimp only [putL, setL, evL, getL]
      refine HL_cons rfl ?_
      refine o_litF (K := Kd.raw 1) (O := OR 1) (ca := #[.slice A26748 x26748.length c26748]) [[.slice A26748 x26748.length c26748]] [[.slice A26748 x26748.length c26748]] hH Try.underlying163 tI178 rfl (by decide) rfl rfl (by kernel_rfl) rfl ⟨rfl, ⟨rfl, rfl, by simp [isCell]⟩, trivial⟩ ?_
      intro A26819 s26819 hH' hG
      replace hH : Hp sb s F0 s26819 [Ck.ol (Ow.sl (Ow.flat Kd.bool_flat) 4) 209 A26748 c26748 x26784, Ck.ol (Ow.sl OI 3) 24 A4 c4 u3.1, Ck.ol (Ow.sl (Ow.sl (Ow.flat Kd.bool_flat) 4) 209) 178 A19453 c19453 x19453, Ck.ov b6 [.slice A0p p0.length c0p, .slice A4 u3.1.length c4, .slice A1p p1.length c1p, .slice A19453 x19453.length c19453] 165, Ck.ol (OR 1) 178 A26819 1 [[.slice A26748 x26748.length c26748]]] := hH'
      clear hH' hG
      try dsimp only [putL, setL, evL, getL]
      replace H := headE H
      obtain ⟨x26820, hx26820, H⟩ := H
      refine HL_cons rfl ?_
      refine o_appO (K := (Kd.sl (Kd.sl Kd.bool))) (O := (Ow.sl (Ow.sl (Ow.flat Kd.bool_flat) 4) 209)) (n := 5864062014805) (A := A19453) (c := c19453) (xs := x19453) (u := x26784) (vs := [.slice A26748 x26748.length c26748]) (B := A26819) (c2 := 1) hH 2 4 (by decide) rfl rfl rfl rfl rfl Try.underlying163 tI178 rfl (by decide) (by decide) (by decide) hx26820 ?_
      intro A26820 c26820 s26820 hH'
      replace hH : Hp sb s F0 s26820 [Ck.ol (Ow.sl (Ow.flat Kd.bool_flat) 4) 209 A26748 c26748 x26784, Ck.ol (Ow.sl OI 3) 24 A4 c4 u3.1, Ck.oh (Ow.sl (Ow.sl (Ow.flat Kd.bool_flat) 4) 209) 178 A26820 c26820 x26820 (Int.toNat (x19453.length : Int)) [.slice A26748 x26748.length c26748], Ck.ov b6 [.slice A0p p0.length c0p, .slice A4 u3.1.length c4, .slice A1p p1.length c1p, .slice A19453 x19453.length c19453] 165, Ck.emp] := hH'
      clear hH'
      have hlu26820 := app?_last hx26820
      try dsimp only [putL, setL, evL, getL]
      refine HL_cons rfl ?_
      refine o_nilck rfl ?_
      try dsimp only [putL, setL, evL, getL]
      refine HL_cons rfl ?_
      refine o_faddr' (ft := 163) (off := 3) rfl Try.underlying165 rfl tI163 (by decide) ?_
      try dsimp only [putL, setL, evL, getL]
      refine HL_cons rfl ?_
      refine o_stvH (vs := [.slice A26820 x26820.length c26820]) (us' := [.slice A0p p0.length c0p, .slice A4 u3.1.length c4, .slice A1p p1.length c1p, .slice A26820 x26820.length c26820]) hH 3 rfl rfl rfl rfl rfl tI163 rfl (List.cons_ne_nil _ _) rfl rfl rfl ?_
      intro s26821 hH'
      replace hH : Hp sb s F0 s26821 [Ck.ol (Ow.sl (Ow.flat Kd.bool_flat) 4) 209 A26748 c26748 x26784, Ck.ol (Ow.sl OI 3) 24 A4 c4 u3.1, Ck.oh (Ow.sl (Ow.sl (Ow.flat Kd.bool_flat) 4) 209) 178 A26820 c26820 x26820 (Int.toNat (x19453.length : Int)) [.slice A26748 x26748.length c26748], Ck.ov b6 [.slice A0p p0.length c0p, .slice A4 u3.1.length c4, .slice A1p p1.length c1p, .slice A26820 x26820.length c26820] 165, Ck.emp] := hH'
      clear hH'
      try dsimp only [putL, setL, evL, getL]
      refine HL_nil ?_
      refine hK26818 _ _ ?_
      refine HT_seq_k ?_
      intro K26822 hK26822
      refine HT_region ?_
      refine HL_cons rfl ?_
      refine o_move ?_
      try dsimp only [putL, setL, evL, getL]
      refine HL_cons rfl ?_
      refine o_len rfl Try.underlying24 ?_
      try dsimp only [putL, setL, evL, getL]
      refine HL_cons rfl ?_
      refine o_assign ?_
      try dsimp only [putL, setL, evL, getL]
      refine HL_nil ?_
      refine hK26822 _ _ ?_
      refine joinH H fun G26823 hG26823 H => ?_
      refine HT_toK (fun l' s' => ∃ (x27997 : List (List (List (Bool)))) (A27997 : Option Addr) (c27997 : Nat), G26823 x27997 = some r ∧ l' = [.slice A0p p0.length c0p, .slice A1p p1.length c1p, undef, undef, .pointer none, .slice A4 u3.1.length c4, .bool u3.2, .pointer (some ⟨b6, 0, none⟩), .int .i64 x19452, .slice A26748 x26748.length c26748, j10, getL l' 11, getL l' 12, .tuple #[.slice A4 u3.1.length c4, .bool u3.2], .slice A0p p0.length c0p, .tuple #[.slice A4 u3.1.length c4, .bool u3.2], .slice A4 u3.1.length c4, .bool u3.2, .slice A0p p0.length c0p, .slice A4 u3.1.length c4, .slice A1p p1.length c1p, .agg #[.slice A0p p0.length c0p, .slice A4 u3.1.length c4, .slice A1p p1.length c1p, .slice none 0 0], .pointer (some ⟨b6, 0, none⟩), .slice A0p p0.length c0p, .int .i64 (p0.length : Int), .int .i64 x19452, .bool (decide (x19452 < (p0.length : Int))), .int .i64 x19452, .slice A1p p1.length c1p, .int .i64 (p1.length : Int), .int .i64 (IntKind.i64.wrap ((p1.length : Int) + 1)), .slice A26748 x26748.length c26748, .slice A26748 x26748.length c26748, .int .i64 (x26748.length : Int), j34, j35, j36, j37, j38, j39, j40, j41, j42, j43, j44, .pointer (some ⟨b6, 0, none⟩), .pointer (some ⟨b6, 0, none⟩), .pointer (some ⟨b6, 0, none⟩), .pointer (some ⟨b6, 0 + 3, none⟩), .slice A19453 x19453.length c19453, .slice A26748 x26748.length c26748, .slice A26819 [x26784].length 1, .slice A26820 x26820.length c26820, .pointer (some ⟨b6, 0, none⟩), .pointer (some ⟨b6, 0 + 3, none⟩), .slice A1p p1.length c1p, .int .i64 (p1.length : Int), getL l' 57, getL l' 58, getL l' 59, getL l' 60, getL l' 61, getL l' 62, getL l' 63, getL l' 64, getL l' 65, getL l' 66, getL l' 67, getL l' 68, getL l' 69, getL l' 70, getL l' 71, getL l' 72, getL l' 73, getL l' 74, getL l' 75, getL l' 76, getL l' 77, getL l' 78, j79, undef] ∧ Hp sb s F0 s' [Ck.ol (Ow.sl (Ow.sl (Ow.flat Kd.bool_flat) 4) 209) 178 A27997 c27997 x27997, Ck.ol (Ow.sl OI 3) 24 A4 c4 u3.1, Ck.ov b6 [.slice A0p p0.length c0p, .slice A4 u3.1.length c4, .slice A1p p1.length c1p, .slice A27997 x27997.length c27997] 165]) ?_ ?_
      ·intro K26823 hK26823
       refine HT_block ?_
       refine HT_loopK (fun kf l' s' => ∃ (x28376 : List (List (Bool))) (x28377 : Int), (impl_match.l3 p0 p1 u3 x19452 x19453 x26820 kf x28376 x28377).bind G26823 = some r ∧ l' = [.slice A0p p0.length c0p, .slice A1p p1.length c1p, undef, undef, .pointer none, .slice A4 u3.1.length c4, .bool u3.2, .pointer (some ⟨b6, 0, none⟩), .int .i64 x19452, .slice A26748 x26748.length c26748, j10, .int .i64 x28377, getL l' 12, .tuple #[.slice A4 u3.1.length c4, .bool u3.2], .slice A0p p0.length c0p, .tuple #[.slice A4 u3.1.length c4, .bool u3.2], .slice A4 u3.1.length c4, .bool u3.2, .slice A0p p0.length c0p, .slice A4 u3.1.length c4, .slice A1p p1.length c1p, .agg #[.slice A0p p0.length c0p, .slice A4 u3.1.length c4, .slice A1p p1.length c1p, .slice none 0 0], .pointer (some ⟨b6, 0, none⟩), .slice A0p p0.length c0p, .int .i64 (p0.length : Int), .int .i64 x19452, .bool (decide (x19452 < (p0.length : Int))), .int .i64 x19452, .slice A1p p1.length c1p, .int .i64 (p1.length : Int), .int .i64 (IntKind.i64.wrap ((p1.length : Int) + 1)), .slice A26748 x26748.length c26748, .slice A26748 x26748.length c26748, .int .i64 (x26748.length : Int), j34, j35, j36, j37, j38, j39, j40, j41, j42, j43, j44, .pointer (some ⟨b6, 0, none⟩), .pointer (some ⟨b6, 0, none⟩), .pointer (some ⟨b6, 0, none⟩), .pointer (some ⟨b6, 0 + 3, none⟩), .slice A19453 x19453.length c19453, .slice A26748 x26748.length c26748, .slice A26819 [x26784].length 1, .slice A26820 x26820.length c26820, .pointer (some ⟨b6, 0, none⟩), .pointer (some ⟨b6, 0 + 3, none⟩), .slice A1p p1.length c1p, .int .i64 (p1.length : Int), getL l' 57, getL l' 58, getL l' 59, getL l' 60, getL l' 61, getL l' 62, getL l' 63, getL l' 64, getL l' 65, getL l' 66, getL l' 67, getL l' 68, getL l' 69, getL l' 70, getL l' 71, getL l' 72, getL l' 73, getL l' 74, getL l' 75, getL l' 76, getL l' 77, getL l' 78, j79, undef] ∧ Hp sb s F0 s' [Ck.ol (Ow.sl (Ow.flat Kd.bool_flat) 4) 209 A26748 c26748 x28376, Ck.ol (Ow.sl OI 3) 24 A4 c4 u3.1, Ck.oh (Ow.sl (Ow.sl (Ow.flat Kd.bool_flat) 4) 209) 178 A26820 c26820 x26820 (Int.toNat (x19453.length : Int)) [.slice A26748 x26748.length c26748], Ck.ov b6 [.slice A0p p0.length c0p, .slice A4 u3.1.length c4, .slice A1p p1.length c1p, .slice A26820 x26820.length c26820] 165] ∧ x28376.length = x26748.length) ((((p1.length : Int)) - (0)).toNat + 2) ⟨x26784, (p1.length : Int), H, rfl, hH.sel [0, 1, 2, 3] (by decide), hl26784⟩ ?_
       rintro kf l' s28775 ⟨x28376, x28377, H, hl, hH, hl28376⟩ K28775 hK28775
       generalize getL l' 12 = j12, getL l' 57 = j57, getL l' 58 = j58, getL l' 59 = j59, getL l' 60 = j60, getL l' 61 = j61, getL l' 62 = j62, getL l' 63 = j63, getL l' 64 = j64, getL l' 65 = j65, getL l' 66 = j66, getL l' 67 = j67, getL l' 68 = j68, getL l' 69 = j69, getL l' 70 = j70, getL l' 71 = j71, getL l' 72 = j72, getL l' 73 = j73, getL l' 74 = j74, getL l' 75 = j75, getL l' 76 = j76, getL l' 77 = j77, getL l' 78 = j78 at hl
       subst hl
       cases kf with
       | zero => simp [impl_match.l3] at H
       | succ kf =>
        rw [impl_match.l3] at H
        refine HT_seq_k ?_
        intro K28776 hK28776
        refine HT_seq_k ?_
        intro K28777 hK28777
        refine HT_region ?_
        refine HL_cons rfl ?_
        refine o_move ?_
        try dsimp only [putL, setL, evL, getL]
        refine HL_cons rfl ?_
        refine o_bin rfl rfl rfl ?_
        try dsimp only [putL, setL, evL, getL]
        refine HL_nil ?_
        refine hK28777 _ _ ?_
        rcases Bool.eq_false_or_eq_true (decide (x28377 ≥ 0)) with hb28778 | hb28778
        ·replace H := iteT hb28778 H
         refine HT_true (congrArg Value.bool hb28778) ?_
         refine HT_skip ?_
         refine hK28776 _ _ ?_
         refine joinH H fun G28779 hG28779 H => ?_
         refine HT_joinK (fun l' s' => ∃ (x28974 : List (List (Bool))), G28779 x28974 = some r ∧ l' = [.slice A0p p0.length c0p, .slice A1p p1.length c1p, undef, undef, .pointer none, .slice A4 u3.1.length c4, .bool u3.2, .pointer (some ⟨b6, 0, none⟩), .int .i64 x19452, .slice A26748 x26748.length c26748, j10, .int .i64 x28377, getL l' 12, .tuple #[.slice A4 u3.1.length c4, .bool u3.2], .slice A0p p0.length c0p, .tuple #[.slice A4 u3.1.length c4, .bool u3.2], .slice A4 u3.1.length c4, .bool u3.2, .slice A0p p0.length c0p, .slice A4 u3.1.length c4, .slice A1p p1.length c1p, .agg #[.slice A0p p0.length c0p, .slice A4 u3.1.length c4, .slice A1p p1.length c1p, .slice none 0 0], .pointer (some ⟨b6, 0, none⟩), .slice A0p p0.length c0p, .int .i64 (p0.length : Int), .int .i64 x19452, .bool (decide (x19452 < (p0.length : Int))), .int .i64 x19452, .slice A1p p1.length c1p, .int .i64 (p1.length : Int), .int .i64 (IntKind.i64.wrap ((p1.length : Int) + 1)), .slice A26748 x26748.length c26748, .slice A26748 x26748.length c26748, .int .i64 (x26748.length : Int), j34, j35, j36, j37, j38, j39, j40, j41, j42, j43, j44, .pointer (some ⟨b6, 0, none⟩), .pointer (some ⟨b6, 0, none⟩), .pointer (some ⟨b6, 0, none⟩), .pointer (some ⟨b6, 0 + 3, none⟩), .slice A19453 x19453.length c19453, .slice A26748 x26748.length c26748, .slice A26819 [x26784].length 1, .slice A26820 x26820.length c26820, .pointer (some ⟨b6, 0, none⟩), .pointer (some ⟨b6, 0 + 3, none⟩), .slice A1p p1.length c1p, .int .i64 (p1.length : Int), .int .i64 x28377, .bool (decide (x28377 ≥ 0)), j59, j60, getL l' 61, getL l' 62, getL l' 63, getL l' 64, getL l' 65, getL l' 66, getL l' 67, getL l' 68, getL l' 69, getL l' 70, getL l' 71, getL l' 72, getL l' 73, getL l' 74, getL l' 75, getL l' 76, getL l' 77, getL l' 78, j79, undef] ∧ Hp sb s F0 s' [Ck.ol (Ow.sl (Ow.flat Kd.bool_flat) 4) 209 A26748 c26748 x28974, Ck.ol (Ow.sl OI 3) 24 A4 c4 u3.1, Ck.oh (Ow.sl (Ow.sl (Ow.flat Kd.bool_flat) 4) 209) 178 A26820 c26820 x26820 (Int.toNat (x19453.length : Int)) [.slice A26748 x26748.length c26748], Ck.ov b6 [.slice A0p p0.length c0p, .slice A4 u3.1.length c4, .slice A1p p1.length c1p, .slice A26820 x26820.length c26820] 165] ∧ x28974.length = x26748.length) ?_ ?_
         ·intro K28779 hK28779
          refine HT_block ?_
          refine HT_seq_k ?_
          intro K28975 hK28975
          refine HT_region ?_
          refine HL_cons rfl ?_
          refine o_move ?_
          try dsimp only [putL, setL, evL, getL]
          refine HL_cons rfl ?_
          refine o_assign ?_
          try dsimp only [putL, setL, evL, getL]
          refine HL_nil ?_
          refine hK28975 _ _ ?_
          refine joinH H fun G28976 hG28976 H => ?_
          refine HT_toK (fun l' s' => ∃ (x29072 : List (List (Bool))), G28976 x29072 = some r ∧ l' = [.slice A0p p0.length c0p, .slice A1p p1.length c1p, undef, undef, .pointer none, .slice A4 u3.1.length c4, .bool u3.2, .pointer (some ⟨b6, 0, none⟩), .int .i64 x19452, .slice A26748 x26748.length c26748, j10, .int .i64 x28377, getL l' 12, .tuple #[.slice A4 u3.1.length c4, .bool u3.2], .slice A0p p0.length c0p, .tuple #[.slice A4 u3.1.length c4, .bool u3.2], .slice A4 u3.1.length c4, .bool u3.2, .slice A0p p0.length c0p, .slice A4 u3.1.length c4, .slice A1p p1.length c1p, .agg #[.slice A0p p0.length c0p, .slice A4 u3.1.length c4, .slice A1p p1.length c1p, .slice none 0 0], .pointer (some ⟨b6, 0, none⟩), .slice A0p p0.length c0p, .int .i64 (p0.length : Int), .int .i64 x19452, .bool (decide (x19452 < (p0.length : Int))), .int .i64 x19452, .slice A1p p1.length c1p, .int .i64 (p1.length : Int), .int .i64 (IntKind.i64.wrap ((p1.length : Int) + 1)), .slice A26748 x26748.length c26748, .slice A26748 x26748.length c26748, .int .i64 (x26748.length : Int), j34, j35, j36, j37, j38, j39, j40, j41, j42, j43, j44, .pointer (some ⟨b6, 0, none⟩), .pointer (some ⟨b6, 0, none⟩), .pointer (some ⟨b6, 0, none⟩), .pointer (some ⟨b6, 0 + 3, none⟩), .slice A19453 x19453.length c19453, .slice A26748 x26748.length c26748, .slice A26819 [x26784].length 1, .slice A26820 x26820.length c26820, .pointer (some ⟨b6, 0, none⟩), .pointer (some ⟨b6, 0 + 3, none⟩), .slice A1p p1.length c1p, .int .i64 (p1.length : Int), .int .i64 x28377, .bool (decide (x28377 ≥ 0)), j59, j60, .int .i64 x28377, getL l' 62, getL l' 63, getL l' 64, getL l' 65, getL l' 66, getL l' 67, getL l' 68, getL l' 69, getL l' 70, getL l' 71, getL l' 72, getL l' 73, getL l' 74, getL l' 75, getL l' 76, getL l' 77, getL l' 78, j79, undef] ∧ Hp sb s F0 s' [Ck.ol (Ow.sl (Ow.flat Kd.bool_flat) 4) 209 A26748 c26748 x29072, Ck.ol (Ow.sl OI 3) 24 A4 c4 u3.1, Ck.oh (Ow.sl (Ow.sl (Ow.flat Kd.bool_flat) 4) 209) 178 A26820 c26820 x26820 (Int.toNat (x19453.length : Int)) [.slice A26748 x26748.length c26748], Ck.ov b6 [.slice A0p p0.length c0p, .slice A4 u3.1.length c4, .slice A1p p1.length c1p, .slice A26820 x26820.length c26820] 165] ∧ x29072.length = x26748.length) ?_ ?_
          ·intro K28976 hK28976
           refine HT_block ?_
           refine HT_loopK (fun kf l' s' => ∃ (x29103 : List (List (Bool))) (x29104 : Int), (impl_match.l4 p0 p1 u3 x19452 x19453 x26820 x28377 kf x29103 x29104).bind G28976 = some r ∧ l' = [.slice A0p p0.length c0p, .slice A1p p1.length c1p, undef, undef, .pointer none, .slice A4 u3.1.length c4, .bool u3.2, .pointer (some ⟨b6, 0, none⟩), .int .i64 x19452, .slice A26748 x26748.length c26748, j10, .int .i64 x28377, .int .i64 x29104, .tuple #[.slice A4 u3.1.length c4, .bool u3.2], .slice A0p p0.length c0p, .tuple #[.slice A4 u3.1.length c4, .bool u3.2], .slice A4 u3.1.length c4, .bool u3.2, .slice A0p p0.length c0p, .slice A4 u3.1.length c4, .slice A1p p1.length c1p, .agg #[.slice A0p p0.length c0p, .slice A4 u3.1.length c4, .slice A1p p1.length c1p, .slice none 0 0], .pointer (some ⟨b6, 0, none⟩), .slice A0p p0.length c0p, .int .i64 (p0.length : Int), .int .i64 x19452, .bool (decide (x19452 < (p0.length : Int))), .int .i64 x19452, .slice A1p p1.length c1p, .int .i64 (p1.length : Int), .int .i64 (IntKind.i64.wrap ((p1.length : Int) + 1)), .slice A26748 x26748.length c26748, .slice A26748 x26748.length c26748, .int .i64 (x26748.length : Int), j34, j35, j36, j37, j38, j39, j40, j41, j42, j43, j44, .pointer (some ⟨b6, 0, none⟩), .pointer (some ⟨b6, 0, none⟩), .pointer (some ⟨b6, 0, none⟩), .pointer (some ⟨b6, 0 + 3, none⟩), .slice A19453 x19453.length c19453, .slice A26748 x26748.length c26748, .slice A26819 [x26784].length 1, .slice A26820 x26820.length c26820, .pointer (some ⟨b6, 0, none⟩), .pointer (some ⟨b6, 0 + 3, none⟩), .slice A1p p1.length c1p, .int .i64 (p1.length : Int), .int .i64 x28377, .bool (decide (x28377 ≥ 0)), j59, j60, .int .i64 x28377, getL l' 62, getL l' 63, getL l' 64, getL l' 65, getL l' 66, getL l' 67, getL l' 68, getL l' 69, getL l' 70, getL l' 71, getL l' 72, getL l' 73, getL l' 74, getL l' 75, getL l' 76, getL l' 77, getL l' 78, j79, undef] ∧ Hp sb s F0 s' [Ck.ol (Ow.sl (Ow.flat Kd.bool_flat) 4) 209 A26748 c26748 x29103, Ck.ol (Ow.sl OI 3) 24 A4 c4 u3.1, Ck.oh (Ow.sl (Ow.sl (Ow.flat Kd.bool_flat) 4) 209) 178 A26820 c26820 x26820 (Int.toNat (x19453.length : Int)) [.slice A26748 x26748.length c26748], Ck.ov b6 [.slice A0p p0.length c0p, .slice A4 u3.1.length c4, .slice A1p p1.length c1p, .slice A26820 x26820.length c26820] 165] ∧ x29103.length = x26748.length) ((((p1.length : Int)) - (x28377)).toNat + 2) ⟨x28376, x28377, H, rfl, hH, hl28376⟩ ?_
           rintro kf l' s29137 ⟨x29103, x29104, H, hl, hH, hl29103⟩ K29137 hK29137
           generalize getL l' 62 = j62, getL l' 63 = j63, getL l' 64 = j64, getL l' 65 = j65, getL l' 66 = j66, getL l' 67 = j67, getL l' 68 = j68, getL l' 69 = j69, getL l' 70 = j70, getL l' 71 = j71, getL l' 72 = j72, getL l' 73 = j73, getL l' 74 = j74, getL l' 75 = j75, getL l' 76 = j76, getL l' 77 = j77, getL l' 78 = j78 at hl
           subst hl
           cases kf with
           | zero => simp [impl_match.l4] at H
           | succ kf =>
            rw [impl_match.l4] at H
            refine HT_seq_k ?_
            intro K29138 hK29138
            refine HT_seq_k ?_
            intro K29139 hK29139
            refine HT_region ?_
            refine HL_cons rfl ?_
            refine o_move ?_
            try dsimp only [putL, setL, evL, getL]
            refine HL_cons rfl ?_
            refine o_move ?_
            try dsimp only [putL, setL, evL, getL]
            refine HL_cons rfl ?_
            refine o_len rfl Try.underlying24 ?_
            try dsimp only [putL, setL, evL, getL]
            refine HL_cons rfl ?_
            refine o_bin rfl rfl rfl ?_
            try dsimp only [putL, setL, evL, getL]
            refine HL_nil ?_
            refine hK29139 _ _ ?_
            rcases Bool.eq_false_or_eq_true (decide (x29104 ≤ (p1.length : Int))) with hb29140 | hb29140
            ·replace H := iteT hb29140 H
             refine HT_true (congrArg Value.bool hb29140) ?_
             refine HT_skip ?_
             refine hK29138 _ _ ?_
             refine joinH H fun G29141 hG29141 H => ?_
             refine HT_joinK (fun l' s' => ∃ (x29154 : List (List (Bool))), G29141 x29154 = some r ∧ l' = [.slice A0p p0.length c0p, .slice A1p p1.length c1p, undef, undef, .pointer none, .slice A4 u3.1.length c4, .bool u3.2, .pointer (some ⟨b6, 0, none⟩), .int .i64 x19452, .slice A26748 x26748.length c26748, j10, .int .i64 x28377, .int .i64 x29104, .tuple #[.slice A4 u3.1.length c4, .bool u3.2], .slice A0p p0.length c0p, .tuple #[.slice A4 u3.1.length c4, .bool u3.2], .slice A4 u3.1.length c4, .bool u3.2, .slice A0p p0.length c0p, .slice A4 u3.1.length c4, .slice A1p p1.length c1p, .agg #[.slice A0p p0.length c0p, .slice A4 u3.1.length c4, .slice A1p p1.length c1p, .slice none 0 0], .pointer (some ⟨b6, 0, none⟩), .slice A0p p0.length c0p, .int .i64 (p0.length : Int), .int .i64 x19452, .bool (decide (x19452 < (p0.length : Int))), .int .i64 x19452, .slice A1p p1.length c1p, .int .i64 (p1.length : Int), .int .i64 (IntKind.i64.wrap ((p1.length : Int) + 1)), .slice A26748 x26748.length c26748, .slice A26748 x26748.length c26748, .int .i64 (x26748.length : Int), j34, j35, j36, j37, j38, j39, j40, j41, j42, j43, j44, .pointer (some ⟨b6, 0, none⟩), .pointer (some ⟨b6, 0, none⟩), .pointer (some ⟨b6, 0, none⟩), .pointer (some ⟨b6, 0 + 3, none⟩), .slice A19453 x19453.length c19453, .slice A26748 x26748.length c26748, .slice A26819 [x26784].length 1, .slice A26820 x26820.length c26820, .pointer (some ⟨b6, 0, none⟩), .pointer (some ⟨b6, 0 + 3, none⟩), .slice A1p p1.length c1p, .int .i64 (p1.length : Int), .int .i64 x28377, .bool (decide (x28377 ≥ 0)), j59, j60, .int .i64 x28377, .int .i64 x29104, .slice A1p p1.length c1p, .int .i64 (p1.length : Int), .bool (decide (x29104 ≤ (p1.length : Int))), j66, j67, getL l' 68, getL l' 69, getL l' 70, getL l' 71, getL l' 72, getL l' 73, getL l' 74, getL l' 75, getL l' 76, getL l' 77, getL l' 78, j79, undef] ∧ Hp sb s F0 s' [Ck.ol (Ow.sl (Ow.flat Kd.bool_flat) 4) 209 A26748 c26748 x29154, Ck.ol (Ow.sl OI 3) 24 A4 c4 u3.1, Ck.oh (Ow.sl (Ow.sl (Ow.flat Kd.bool_flat) 4) 209) 178 A26820 c26820 x26820 (Int.toNat (x19453.length : Int)) [.slice A26748 x26748.length c26748], Ck.ov b6 [.slice A0p p0.length c0p, .slice A4 u3.1.length c4, .slice A1p p1.length c1p, .slice A26820 x26820.length c26820] 165] ∧ x29154.length = x26748.length) ?_ ?_
             ·intro K29141 hK29141
              refine HT_block ?_
              refine HX_draw hMix ?_
              refine HX_lim (R := fun _ => True) (k := 0) (fun s' => Gro s29137 s') 9 ?_
              have hR := Gro.refl s29137
              have hH0 := hH
              refine HK_readP 5 (v := .pointer (some ⟨b6, 0, none⟩)) rfl (by kernel_rfl) (fun c l s h => hQp c l s h) rfl (fun s' K hK => ?_) rfl rfl (fun _ => hR) ?_
              ·refine o_move ?_
               exact hK
              try dsimp only [putL, setL, evL, getL]
              refine HK_readP 6 (v := .int .i64 x19452) rfl (by kernel_rfl) (fun c l s h => hQp c l s h) rfl (fun s' K hK => ?_) rfl rfl (fun _ => hR) ?_
              ·refine o_move ?_
               exact hK
              try dsimp only [putL, setL, evL, getL]
              refine HK_readP 7 (v := .int .i64 x28377) rfl (by kernel_rfl) (fun c l s h => hQp c l s h) rfl (fun s' K hK => ?_) rfl rfl (fun _ => hR) ?_
              ·refine o_move ?_
               exact hK
              try dsimp only [putL, setL, evL, getL]
              refine HK_readP 8 (v := .int .i64 x29104) rfl (by kernel_rfl) (fun c l s h => hQp c l s h) rfl (fun s' K hK => ?_) rfl rfl (fun _ => hR) ?_
              ·refine o_move ?_
               exact hK
              try dsimp only [putL, setL, evL, getL]
              refine HK_readP 0 (v := .slice A26748 x26748.length c26748) rfl (by kernel_rfl) (fun c l s h => hQp c l s h) rfl (fun s' K hK => ?_) rfl rfl (fun _ => hR) ?_
              ·refine o_move ?_
               exact hK
              try dsimp only [putL, setL, evL, getL]
              refine HK_readP 1 (v := .int .i64 x28377) rfl (by kernel_rfl) (fun c l s h => hQp c l s h) rfl (fun s' K hK => ?_) rfl rfl (fun _ => hR) ?_
              ·refine o_move ?_
               exact hK
              try dsimp only [putL, setL, evL, getL]
              replace H := headE H
              obtain ⟨u29155, hu29155, H⟩ := H
              obtain ⟨b29155, o29155, vs29155, hA29155, -, hH⟩ := hH.open 0 rfl rfl hu29155
              dsimp only [addC, setC, rmC, selC, getC] at hH
              obtain ⟨A29156, c29156, rfl, hH⟩ := hH.el_sl 4 rfl rfl
              dsimp only [addC, setC, rmC, selC, getC] at hH
              replace hH : Hp sb s F0 s29137 [Ck.oh (Ow.sl (Ow.flat Kd.bool_flat) 4) 209 A26748 c26748 x29103 (Int.toNat x28377) [.slice A29156 u29155.length c29156], Ck.ol (Ow.sl OI 3) 24 A4 c4 u3.1, Ck.oh (Ow.sl (Ow.sl (Ow.flat Kd.bool_flat) 4) 209) 178 A26820 c26820 x26820 (Int.toNat (x19453.length : Int)) [.slice A26748 x26748.length c26748], Ck.ov b6 [.slice A0p p0.length c0p, .slice A4 u3.1.length c4, .slice A1p p1.length c1p, .slice A26820 x26820.length c26820] 165, Ck.ol (Ow.flat Kd.bool_flat) 4 A29156 c29156 u29155] := hH
              refine HK_readP 2 (v := .pointer (some ⟨b29155, o29155 + Int.toNat x28377 * Kd.sz (Kd.sl Kd.bool), none⟩)) rfl (by kernel_rfl) (fun c l s h => hQp c l s h) rfl (fun s' K hK => ?_) rfl rfl (fun _ => hR) ?_
              ·refine iaddr_of (K := (Kd.sl Kd.bool)) hA29155 hu29155 s' (sliceLen hl29103) rfl Try.underlying178 tI209 ?_
               exact hK
              try dsimp only [putL, setL, evL, getL]
              refine HK_readP 4 (v := .int .i64 x29104) rfl (by kernel_rfl) (fun c l s h => hQp c l s h) rfl (fun s' K hK => ?_) rfl rfl (fun _ => hR) ?_
              ·refine o_move ?_
               exact hK
              try dsimp only [putL, setL, evL, getL]
              refine HK_more [3, 9] (by kernel_rfl) rfl (fun _ => hR) ⟨⟨_, rfl, Or.inl ⟨rfl, ?_⟩⟩, ⟨_, rfl, Or.inl ⟨rfl, ?_⟩⟩, trivial⟩
              ·skip
               refine o_load' rfl Try.underlying209 rfl (hH.hasoh 0 rfl hA29155 0 _ rfl) ?_
               try dsimp only [putL, setL, evL, getL]
               refine HK_more [9] (by kernel_rfl) rfl (fun _ => hR) ⟨⟨_, rfl, Or.inl ⟨rfl, ?_⟩⟩, trivial⟩
               replace H := headE H
               obtain ⟨x29158, hx29158, H⟩ := H
               have hl29158 := st?_len hx29158
               replace hH : Hp sb s F0 s29137 [Ck.oh (Ow.sl (Ow.flat Kd.bool_flat) 4) 209 A26748 c26748 x29103 (Int.toNat x28377) [.slice A29156 u29155.length c29156], Ck.ol (Ow.sl OI 3) 24 A4 c4 u3.1, Ck.oh (Ow.sl (Ow.sl (Ow.flat Kd.bool_flat) 4) 209) 178 A26820 c26820 x26820 (Int.toNat (x19453.length : Int)) [.slice A26748 x26748.length c26748], Ck.ov b6 [.slice A0p p0.length c0p, .slice A4 u3.1.length c4, .slice A1p p1.length c1p, .slice A26820 x29158.length c26820] 165, Ck.ol (Ow.flat Kd.bool_flat) 4 A29156 c29156 u29155] := by rw [hl29158]; exact hH
               replace H := headE H
               obtain ⟨u29157, hu29157, H⟩ := H
               obtain ⟨F1, sx, hx, hC, hA, hB⟩ := hH.takeT [3] (by decide)
               dsimp only [addC, setC, rmC, selC, getC] at hA
               skip
               refine o_call (args := #[.pointer (some ⟨b6, 0, none⟩), .int .i64 x19452, .int .i64 x28377, .int .i64 x29104]) Try.func217 rfl rfl rfl (impl_matcher_look.ok sx s29137 F1 b6 A0p c0p p0 A4 c4 u3.1 A1p c1p p1 A26820 c26820 x29158 x19452 x28377 x29104 (HRp0.mono hx.mono) (Ck.rdT hx (hC 1 (by decide)) rfl) (HRp1.mono hx.mono) (Ck.ohrd hx (hC 2 (by decide)) rfl ⟨_, _, congrArg (fun v => [v]) (sliceLen hl29103), (Ck.ohrd hx (hC 0 (by decide)) rfl ⟨_, _, rfl, (Ck.rdT hx (hC 4 (by decide)) rfl)⟩ (st?_same hu29155))⟩ hx29158) hA _ hu29157) ?_
               rintro _ s29157 ⟨rfl, hD⟩
               replace hH := hB _ _ _ inferInstance hD
               clear hD hA hB hx hC
               dsimp only [addC, setC, rmC, selC, getC] at hH
               rw [hl29158] at hH
               try dsimp only [putL, setL, evL, getL]
               refine HK_free (by kernel_rfl) ?_
               refine HX_lim (R := fun _ => True) (k := 0) (fun s' => Gro s29157 s') 11 ?_
               have hR := Gro.refl s29157
               have hH0 := hH
               replace H := headE H
               obtain ⟨u29159, hu29159, H⟩ := H
               obtain ⟨b29159, o29159, cs29159, hA29159, hr29159, hh29159, hel29159⟩ := hH0.elo 4 rfl hu29159
               obtain rfl := hr29159
               refine HK_readP 10 (v := .pointer (some ⟨b29159, o29159 + Int.toNat x29104 * Kd.sz Kd.bool, none⟩)) rfl (by kernel_rfl) (fun c l s h => hQp c l s h) rfl (fun s' K hK => ?_) rfl rfl (fun _ => hR) ?_
               ·refine hel29159 s' rfl rfl Try.underlying209 tI4 ?_
                exact hK
               try dsimp only [putL, setL, evL, getL]
               refine HK_more [11] (by kernel_rfl) rfl (fun _ => hR) ⟨⟨_, rfl, Or.inl ⟨rfl, ?_⟩⟩, trivial⟩
               replace H := headE H
               obtain ⟨x29160, hx29160, H⟩ := H
               skip
               refine o_setF (vs := [.bool u29157]) (u := u29157) hH 4 rfl rfl rfl rfl rfl tI4 hA29159 hx29160 (Ent.own (Ent.flat rfl)) ?_
               intro s29160 hH'
               have hl29160 := st?_len hx29160
               replace hH : Hp sb s F0 s29160 [Ck.oh (Ow.sl (Ow.flat Kd.bool_flat) 4) 209 A26748 c26748 x29103 (Int.toNat x28377) [.slice A29156 u29155.length c29156], Ck.ol (Ow.sl OI 3) 24 A4 c4 u3.1, Ck.oh (Ow.sl (Ow.sl (Ow.flat Kd.bool_flat) 4) 209) 178 A26820 c26820 x26820 (Int.toNat (x19453.length : Int)) [.slice A26748 x26748.length c26748], Ck.emp, Ck.ol (Ow.flat Kd.bool_flat) 4 A29156 c29156 x29160, Ck.ov b6 [.slice A0p p0.length c0p, .slice A4 u3.1.length c4, .slice A1p p1.length c1p, .slice A26820 x26820.length c26820] 165] := hH'
               clear hH'
               try dsimp only [putL, setL, evL, getL]
               refine HK_free (by kernel_rfl) ?_
               refine HX_done (by kernel_rfl) ?_
               replace hH := hH.conv [4] (by decide) (d := Ck.el (Ow.sl (Ow.flat Kd.bool_flat) 4) [.slice A29156 u29155.length c29156] x29160) (Ent.slL hl29160)
               dsimp only [addC, setC, rmC, selC, getC] at hH
               replace H := headE H
               obtain ⟨x29161, hx29161, H⟩ := H
               replace hH := hH.close (i := x28377) 0 6 (by decide) rfl rfl rfl hx29161
               dsimp only [addC, setC, rmC, selC, getC] at hH
               have hl29161 := (st?_len hx29161).trans hl29103
               replace hH : Hp sb s F0 s29160 [Ck.ol (Ow.sl (Ow.flat Kd.bool_flat) 4) 209 A26748 c26748 x29161, Ck.ol (Ow.sl OI 3) 24 A4 c4 u3.1, Ck.oh (Ow.sl (Ow.sl (Ow.flat Kd.bool_flat) 4) 209) 178 A26820 c26820 x26820 (Int.toNat (x19453.length : Int)) [.slice A26748 x26748.length c26748], Ck.emp, Ck.emp, Ck.ov b6 [.slice A0p p0.length c0p, .slice A4 u3.1.length c4, .slice A1p p1.length c1p, .slice A26820 x26820.length c26820] 165, Ck.emp] := hH
               exact hK29141 _ _ ⟨x29161, H, rfl, hH.sel [0, 1, 2, 5] (by decide), hl29161⟩
              ·replace H := headE H
               obtain ⟨x29163, hx29163, H⟩ := H
               have hl29163 := st?_len hx29163
               replace hH : Hp sb s F0 s29137 [Ck.oh (Ow.sl (Ow.flat Kd.bool_flat) 4) 209 A26748 c26748 x29103 (Int.toNat x28377) [.slice A29156 u29155.length c29156], Ck.ol (Ow.sl OI 3) 24 A4 c4 u3.1, Ck.oh (Ow.sl (Ow.sl (Ow.flat Kd.bool_flat) 4) 209) 178 A26820 c26820 x26820 (Int.toNat (x19453.length : Int)) [.slice A26748 x26748.length c26748], Ck.ov b6 [.slice A0p p0.length c0p, .slice A4 u3.1.length c4, .slice A1p p1.length c1p, .slice A26820 x29163.length c26820] 165, Ck.ol (Ow.flat Kd.bool_flat) 4 A29156 c29156 u29155] := by rw [hl29163]; exact hH
               replace H := headE H
               obtain ⟨u29162, hu29162, H⟩ := H
               obtain ⟨F1, sx, hx, hC, hA, hB⟩ := hH.takeT [3] (by decide)
               dsimp only [addC, setC, rmC, selC, getC] at hA
               skip
               refine o_call (args := #[.pointer (some ⟨b6, 0, none⟩), .int .i64 x19452, .int .i64 x28377, .int .i64 x29104]) Try.func217 rfl rfl rfl (impl_matcher_look.ok sx s29137 F1 b6 A0p c0p p0 A4 c4 u3.1 A1p c1p p1 A26820 c26820 x29163 x19452 x28377 x29104 (HRp0.mono hx.mono) (Ck.rdT hx (hC 1 (by decide)) rfl) (HRp1.mono hx.mono) (Ck.ohrd hx (hC 2 (by decide)) rfl ⟨_, _, congrArg (fun v => [v]) (sliceLen hl29103), (Ck.ohrd hx (hC 0 (by decide)) rfl ⟨_, _, rfl, (Ck.rdT hx (hC 4 (by decide)) rfl)⟩ (st?_same hu29155))⟩ hx29163) hA _ hu29162) ?_
               rintro _ s29162 ⟨rfl, hD⟩
               replace hH := hB _ _ _ inferInstance hD
               clear hD hA hB hx hC
               dsimp only [addC, setC, rmC, selC, getC] at hH
               rw [hl29163] at hH
               try dsimp only [putL, setL, evL, getL]
               refine HK_free (by kernel_rfl) ?_
               refine HX_lim (R := fun _ => True) (k := 0) (fun s' => Gro s29162 s') 11 ?_
               have hR := Gro.refl s29162
               have hH0 := hH
               refine HK_read 3 (v := .slice A29156 u29155.length c29156) rfl (by kernel_rfl) (fun c l s h => hQp c l s h) rfl (fun s' hR' K hK => ?_) rfl rfl hR ?_
               ·refine o_load' rfl Try.underlying209 rfl (has_gro hR' (hH.hasoh 0 rfl hA29155 0 _ rfl)) ?_
                exact hK
               try dsimp only [putL, setL, evL, getL]
               replace H := headE H
               obtain ⟨u29164, hu29164, H⟩ := H
               obtain ⟨b29164, o29164, cs29164, hA29164, hr29164, hh29164, hel29164⟩ := hH0.elo 4 rfl hu29164
               obtain rfl := hr29164
               refine HK_readP 10 (v := .pointer (some ⟨b29164, o29164 + Int.toNat x29104 * Kd.sz Kd.bool, none⟩)) rfl (by kernel_rfl) (fun c l s h => hQp c l s h) rfl (fun s' K hK => ?_) rfl rfl (fun _ => hR) ?_
               ·refine hel29164 s' rfl rfl Try.underlying209 tI4 ?_
                exact hK
               try dsimp only [putL, setL, evL, getL]
               refine HK_more [11] (by kernel_rfl) rfl (fun _ => hR) ⟨⟨_, rfl, Or.inl ⟨rfl, ?_⟩⟩, trivial⟩
               replace H := headE H
               obtain ⟨x29165, hx29165, H⟩ := H
               skip
               refine o_setF (vs := [.bool u29162]) (u := u29162) hH 4 rfl rfl rfl rfl rfl tI4 hA29164 hx29165 (Ent.own (Ent.flat rfl)) ?_
               intro s29165 hH'
               have hl29165 := st?_len hx29165
               replace hH : Hp sb s F0 s29165 [Ck.oh (Ow.sl (Ow.flat Kd.bool_flat) 4) 209 A26748 c26748 x29103 (Int.toNat x28377) [.slice A29156 u29155.length c29156], Ck.ol (Ow.sl OI 3) 24 A4 c4 u3.1, Ck.oh (Ow.sl (Ow.sl (Ow.flat Kd.bool_flat) 4) 209) 178 A26820 c26820 x26820 (Int.toNat (x19453.length : Int)) [.slice A26748 x26748.length c26748], Ck.emp, Ck.ol (Ow.flat Kd.bool_flat) 4 A29156 c29156 x29165, Ck.ov b6 [.slice A0p p0.length c0p, .slice A4 u3.1.length c4, .slice A1p p1.length c1p, .slice A26820 x26820.length c26820] 165] := hH'
               clear hH'
               try dsimp only [putL, setL, evL, getL]
               refine HK_free (by kernel_rfl) ?_
               refine HX_done (by kernel_rfl) ?_
               replace hH := hH.conv [4] (by decide) (d := Ck.el (Ow.sl (Ow.flat Kd.bool_flat) 4) [.slice A29156 u29155.length c29156] x29165) (Ent.slL hl29165)
               dsimp only [addC, setC, rmC, selC, getC] at hH
               replace H := headE H
               obtain ⟨x29166, hx29166, H⟩ := H
               replace hH := hH.close (i := x28377) 0 6 (by decide) rfl rfl rfl hx29166
               dsimp only [addC, setC, rmC, selC, getC] at hH
               have hl29166 := (st?_len hx29166).trans hl29103
               replace hH : Hp sb s F0 s29165 [Ck.ol (Ow.sl (Ow.flat Kd.bool_flat) 4) 209 A26748 c26748 x29166, Ck.ol (Ow.sl OI 3) 24 A4 c4 u3.1, Ck.oh (Ow.sl (Ow.sl (Ow.flat Kd.bool_flat) 4) 209) 178 A26820 c26820 x26820 (Int.toNat (x19453.length : Int)) [.slice A26748 x26748.length c26748], Ck.emp, Ck.emp, Ck.ov b6 [.slice A0p p0.length c0p, .slice A4 u3.1.length c4, .slice A1p p1.length c1p, .slice A26820 x26820.length c26820] 165, Ck.emp] := hH
               exact hK29141 _ _ ⟨x29166, H, rfl, hH.sel [0, 1, 2, 5] (by decide), hl29166⟩
             ·rintro l' s29167 ⟨x29154, H, hl, hH, hl29154⟩
              generalize getL l' 68 = j68, getL l' 69 = j69, getL l' 70 = j70, getL l' 71 = j71, getL l' 72 = j72, getL l' 73 = j73, getL l' 74 = j74, getL l' 75 = j75, getL l' 76 = j76, getL l' 77 = j77, getL l' 78 = j78 at hl
              subst hl
              replace H := hG29141 _ H
              try dsimp only at H
              refine HT_region ?_
              refine HL_cons rfl ?_
              refine o_move ?_
              try dsimp only [putL, setL, evL, getL]
              refine HL_cons rfl ?_
              refine o_bin rfl rfl rfl ?_
              try dsimp only [putL, setL, evL, getL]
              refine HL_cons rfl ?_
              refine o_assign ?_
              try dsimp only [putL, setL, evL, getL]
              refine HL_nil ?_
              exact hK29137 _ _ ⟨kf, Nat.lt_succ_self kf, x29154, IntKind.i64.wrap (x29104 + 1), H, rfl, hH, hl29154⟩
            ·replace H := iteF hb29140 H
             refine HT_false (congrArg Value.bool hb29140) ?_
             refine HT_exit ?_
             exact hK28976 _ _ ⟨x29103, H, rfl, hH, hl29103⟩
          ·rintro l' s29168 ⟨x29072, H, hl, hH, hl29072⟩
           generalize getL l' 12 = j12, getL l' 62 = j62, getL l' 63 = j63, getL l' 64 = j64, getL l' 65 = j65, getL l' 66 = j66, getL l' 67 = j67, getL l' 68 = j68, getL l' 69 = j69, getL l' 70 = j70, getL l' 71 = j71, getL l' 72 = j72, getL l' 73 = j73, getL l' 74 = j74, getL l' 75 = j75, getL l' 76 = j76, getL l' 77 = j77, getL l' 78 = j78 at hl
           subst hl
           replace H := hG28976 _ H
           try dsimp only at H
           exact hK28779 _ _ ⟨x29072, H, rfl, hH, hl29072⟩
         ·rintro l' s29169 ⟨x28974, H, hl, hH, hl28974⟩
          generalize getL l' 12 = j12, getL l' 61 = j61, getL l' 62 = j62, getL l' 63 = j63, getL l' 64 = j64, getL l' 65 = j65, getL l' 66 = j66, getL l' 67 = j67, getL l' 68 = j68, getL l' 69 = j69, getL l' 70 = j70, getL l' 71 = j71, getL l' 72 = j72, getL l' 73 = j73, getL l' 74 = j74, getL l' 75 = j75, getL l' 76 = j76, getL l' 77 = j77, getL l' 78 = j78 at hl
          subst hl
          replace H := hG28779 _ H
          try dsimp only at H
          refine HT_region ?_
          refine HL_cons rfl ?_
          refine o_move ?_
          try dsimp only [putL, setL, evL, getL]
          refine HL_cons rfl ?_
          refine o_bin rfl rfl rfl ?_
          try dsimp only [putL, setL, evL, getL]
          refine HL_cons rfl ?_
          refine o_assign ?_
          try dsimp only [putL, setL, evL, getL]
          refine HL_nil ?_
          exact hK28775 _ _ ⟨kf, Nat.lt_succ_self kf, x28974, IntKind.i64.wrap (x28377 - 1), H, rfl, hH, hl28974⟩
        ·replace H := iteF hb28778 H
         refine HT_false (congrArg Value.bool hb28778) ?_
         refine HT_exit ?_
         replace hH := hH.conv [0] (by decide) (d := Ck.el (Ow.sl (Ow.sl (Ow.flat Kd.bool_flat) 4) 209) [.slice A26748 x26748.length c26748] x28376) (Ent.slL hl28376)
         dsimp only [addC, setC, rmC, selC, getC] at hH
         replace H := headE H
         obtain ⟨x29170, hx29170, H⟩ := H
         replace hH := hH.close (i := (x19453.length : Int)) 2 4 (by decide) rfl rfl rfl hx29170
         dsimp only [addC, setC, rmC, selC, getC] at hH
         have hl29170 := st?_len hx29170
         replace hH : Hp sb s F0 s28775 [Ck.emp, Ck.ol (Ow.sl OI 3) 24 A4 c4 u3.1, Ck.ol (Ow.sl (Ow.sl (Ow.flat Kd.bool_flat) 4) 209) 178 A26820 c26820 x29170, Ck.ov b6 [.slice A0p p0.length c0p, .slice A4 u3.1.length c4, .slice A1p p1.length c1p, .slice A26820 x26820.length c26820] 165, Ck.emp] := hH
         exact hK26823 _ _ ⟨x29170, A26820, c26820, H, (by first | (rw [hl29170]; first | done | rfl) | rfl), (by first | exact hH.sel [2, 1, 3] (by decide) | (rw [hl29170]; exact hH.sel [2, 1, 3] (by decide)))⟩
      ·rintro l' s29171 ⟨x27997, A27997, c27997, H, hl, hH⟩
       generalize getL l' 11 = j11, getL l' 12 = j12, getL l' 57 = j57, getL l' 58 = j58, getL l' 59 = j59, getL l' 60 = j60, getL l' 61 = j61, getL l' 62 = j62, getL l' 63 = j63, getL l' 64 = j64, getL l' 65 = j65, getL l' 66 = j66, getL l' 67 = j67, getL l' 68 = j68, getL l' 69 = j69, getL l' 70 = j70, getL l' 71 = j71, getL l' 72 = j72, getL l' 73 = j73, getL l' 74 = j74, getL l' 75 = j75, getL l' 76 = j76, getL l' 77 = j77, getL l' 78 = j78 at hl
       subst hl
       replace H := hG26823 _ H
       try dsimp only at H
       exact hK24318 _ _ ⟨x27997, A27997, c27997, H, rfl, hH⟩
    ·rintro l' s29172 ⟨x26745, A26745, c26745, H, hl, hH⟩
     generalize getL l' 8 = j8, getL l' 9 = j9, getL l' 10 = j10, getL l' 11 = j11, getL l' 12 = j12, getL l' 27 = j27, getL l' 28 = j28, getL l' 29 = j29, getL l' 30 = j30, getL l' 31 = j31, getL l' 32 = j32, getL l' 33 = j33, getL l' 34 = j34, getL l' 35 = j35, getL l' 36 = j36, getL l' 37 = j37, getL l' 38 = j38, getL l' 39 = j39, getL l' 40 = j40, getL l' 41 = j41, getL l' 42 = j42, getL l' 43 = j43, getL l' 44 = j44, getL l' 45 = j45, getL l' 46 = j46, getL l' 47 = j47, getL l' 48 = j48, getL l' 49 = j49, getL l' 50 = j50, getL l' 51 = j51, getL l' 52 = j52, getL l' 53 = j53, getL l' 54 = j54, getL l' 55 = j55, getL l' 56 = j56, getL l' 57 = j57, getL l' 58 = j58, getL l' 59 = j59, getL l' 60 = j60, getL l' 61 = j61, getL l' 62 = j62, getL l' 63 = j63, getL l' 64 = j64, getL l' 65 = j65, getL l' 66 = j66, getL l' 67 = j67, getL l' 68 = j68, getL l' 69 = j69, getL l' 70 = j70, getL l' 71 = j71, getL l' 72 = j72, getL l' 73 = j73, getL l' 74 = j74, getL l' 75 = j75, getL l' 76 = j76, getL l' 77 = j77, getL l' 78 = j78 at hl
     subst hl
     replace H := hG24318 _ H
     try dsimp only at H
     refine HT_region ?_
     refine HL_cons rfl ?_
     refine o_bin rfl rfl rfl ?_
     try dsimp only [putL, setL, evL, getL]
     refine HL_cons rfl ?_
     refine o_move ?_
     try dsimp only [putL, setL, evL, getL]
     refine HL_nil ?_
     exact hK24314 _ _ ⟨kf, Nat.lt_succ_self kf, IntKind.i64.wrap (x19452 + 1), x26745, A26745, c26745, H, rfl, hH⟩
   ·replace H := iteF hb24317 H
    refine HT_false (congrArg Value.bool hb24317) ?_
    refine HT_exit ?_
    exact hK9 _ _ ⟨x19453, A19453, c19453, H, rfl, hH⟩
 ·rintro l' s29173 ⟨x14591, A14591, c14591, H, hl, hH⟩
  generalize getL l' 8 = j8, getL l' 9 = j9, getL l' 10 = j10, getL l' 11 = j11, getL l' 12 = j12, getL l' 25 = j25, getL l' 26 = j26, getL l' 27 = j27, getL l' 28 = j28, getL l' 29 = j29, getL l' 30 = j30, getL l' 31 = j31, getL l' 32 = j32, getL l' 33 = j33, getL l' 34 = j34, getL l' 35 = j35, getL l' 36 = j36, getL l' 37 = j37, getL l' 38 = j38, getL l' 39 = j39, getL l' 40 = j40, getL l' 41 = j41, getL l' 42 = j42, getL l' 43 = j43, getL l' 44 = j44, getL l' 45 = j45, getL l' 46 = j46, getL l' 47 = j47, getL l' 48 = j48, getL l' 49 = j49, getL l' 50 = j50, getL l' 51 = j51, getL l' 52 = j52, getL l' 53 = j53, getL l' 54 = j54, getL l' 55 = j55, getL l' 56 = j56, getL l' 57 = j57, getL l' 58 = j58, getL l' 59 = j59, getL l' 60 = j60, getL l' 61 = j61, getL l' 62 = j62, getL l' 63 = j63, getL l' 64 = j64, getL l' 65 = j65, getL l' 66 = j66, getL l' 67 = j67, getL l' 68 = j68, getL l' 69 = j69, getL l' 70 = j70, getL l' 71 = j71, getL l' 72 = j72, getL l' 73 = j73, getL l' 74 = j74, getL l' 75 = j75, getL l' 76 = j76, getL l' 77 = j77, getL l' 78 = j78, getL l' 79 = j79 at hl
  subst hl
  replace H := hG9 _ H
  try dsimp only at H
  refine hK7 _ _ ?_
  refine HT_seq_k ?_
  intro K29174 hK29174
  refine HT_region ?_
  refine HL_cons rfl ?_
  refine o_move ?_
  try dsimp only [putL, setL, evL, getL]
  refine HL_cons rfl ?_
  refine o_assign ?_
  try dsimp only [putL, setL, evL, getL]
  refine HL_nil ?_
  refine hK29174 _ _ ?_
  refine HT_ret ?_
  exact hQr _ _ [.pointer (some ⟨b6, 0, none⟩)] ⟨rfl, trivial⟩ (retH (fun r => impl_match.post sb s F0 r _ _) (show some _ = some r from H) ⟨b6, A0p, c0p, A4, c4, A1p, c1p, A14591, c14591, rfl, hH.sel [1, 0, 2] (by decide), HRp0, HRp1⟩)
def impl_matcher_longest.l1 (p0_0 : List ((Int) × (List (Int)))) (p0_1 : List (List (Int))) (p0_2 : List (Int)) (p0_3 : List (List (List (Bool)))) (p1 : Int) : Nat → Int → Option (Lo Unit Int)
 | 0, _ => none
 | kf + 1, x40 => if (decide (x40 ≥ p1)) = true then ((impl_matcher_has.f p0_0 p0_1 p0_2 p0_3 (IntKind.i64.wrap ((p0_0.length : Int) - 1)) p1 x40).bind fun u56 => if u56 = true then ((some x40).bind fun z => some (Lo.ret z)) else (impl_matcher_longest.l1 p0_0 p0_1 p0_2 p0_3 p1 kf (IntKind.i64.wrap (x40 - 1)))) else (some (Lo.go ()))
def impl_matcher_longest.f (p0_0 : List ((Int) × (List (Int)))) (p0_1 : List (List (Int))) (p0_2 : List (Int)) (p0_3 : List (List (List (Bool)))) (p1 : Int) (p2 : Int) : Option Int := (impl_matcher_longest.l1 p0_0 p0_1 p0_2 p0_3 p1 (((p2) - (p1)).toNat + 2) p2).bind fun (o : Lo Unit Int) => match o with | .go () => (some (-1)) | .ret z => some z
def impl_matcher_longest.post (sb s : St) (F0 : Fp) (bp0 : Nat) (A0_0p : Option Addr) (c0_0p : Nat) (p0_0 : List ((Int) × (List (Int)))) (A0_1p : Option Addr) (c0_1p : Nat) (p0_1 : List (List (Int))) (A0_2p : Option Addr) (c0_2p : Nat) (p0_2 : List (Int)) (A0_3p : Option Addr) (c0_3p : Nat) (p0_3 : List (List (List (Bool)))) (r : Int) : Value → St → Prop := fun v s' => v = .int .i64 r ∧ Hp sb s F0 s' [Ck.ov bp0 [.slice A0_0p p0_0.length c0_0p, .slice A0_1p p0_1.length c0_1p, .slice A0_2p p0_2.length c0_2p, .slice A0_3p p0_3.length c0_3p] 165]
set_option maxRecDepth 100000 in
set_option maxHeartbeats 4000000 in
theorem impl_matcher_longest.ok (sb s : St) (F0 : Fp) (bp0 : Nat) (A0_0p : Option Addr) (c0_0p : Nat) (p0_0 : List ((Int) × (List (Int)))) (A0_1p : Option Addr) (c0_1p : Nat) (p0_1 : List (List (Int))) (A0_2p : Option Addr) (c0_2p : Nat) (p0_2 : List (Int)) (A0_3p : Option Addr) (c0_3p : Nat) (p0_3 : List (List (List (Bool)))) (p1 : Int) (p2 : Int) (HRp0_0 : Rd KS139 sb A0_0p c0_0p p0_0) (HRp0_1 : Rd (Kd.sl KI) sb A0_1p c0_1p p0_1) (HRp0_2 : Rd KI sb A0_2p c0_2p p0_2) (HRp0_3 : Rd (Kd.sl (Kd.sl Kd.bool)) sb A0_3p c0_3p p0_3) (hH : Hp sb s F0 s [Ck.ov bp0 [.slice A0_0p p0_0.length c0_0p, .slice A0_1p p0_1.length c0_1p, .slice A0_2p p0_2.length c0_2p, .slice A0_3p p0_3.length c0_3p] 165]) (r : Int) (H : impl_matcher_longest.f p0_0 p0_1 p0_2 p0_3 p1 p2 = some r) : GCall Try.prog 239 #[.pointer (some ⟨bp0, 0, none⟩), .int .i64 p1, .int .i64 p2] s (impl_matcher_longest.post sb s F0 bp0 A0_0p c0_0p p0_0 A0_1p c0_1p p0_1 A0_2p c0_2p p0_2 A0_3p c0_3p p0_3 r) := by
 refine GCall_ofk [.tmp 6] [.pointer (some ⟨bp0, 0, none⟩), .int .i64 p1, .int .i64 p2, undef, undef, undef, undef, undef, undef, undef, undef, undef, undef, undef, undef, undef, undef, undef, undef, undef, undef, undef, undef, undef, undef] Try.func239 rfl rfl rfl ?_
 intro w Q hQr hQn hQp
 replace H := topE H
 unfold impl_matcher_longest.f at H
 refine HT_seq_k ?_
 intro K1 hK1
 refine HT_region ?_
 refine HL_cons rfl ?_
 refine o_assign ?_
 try dsimp only [putL, setL, evL, getL]
 refine HL_nil ?_
 refine hK1 _ _ ?_
 refine HT_seq_k ?_
 intro K2 hK2
 refine HT_seq_k ?_
 intro K3 hK3
 refine HT_region ?_
 refine HL_cons rfl ?_
 refine o_move ?_
 try dsimp only [putL, setL, evL, getL]
 refine HL_cons rfl ?_
 refine o_assign ?_
 try dsimp only [putL, setL, evL, getL]
 refine HL_nil ?_
 refine hK3 _ _ ?_
 refine joinH H fun G4 hG4 H => ?_
 refine HT_toK (fun l' s' => G4 (.go ()) = some r ∧ l' = [.pointer (some ⟨bp0, 0, none⟩), .int .i64 p1, .int .i64 p2, undef, undef, undef, getL l' 6, getL l' 7, .int .i64 p2, getL l' 9, getL l' 10, getL l' 11, getL l' 12, getL l' 13, getL l' 14, getL l' 15, getL l' 16, getL l' 17, getL l' 18, getL l' 19, getL l' 20, getL l' 21, getL l' 22, getL l' 23, getL l' 24] ∧ Hp sb s F0 s' [Ck.ov bp0 [.slice A0_0p p0_0.length c0_0p, .slice A0_1p p0_1.length c0_1p, .slice A0_2p p0_2.length c0_2p, .slice A0_3p p0_3.length c0_3p] 165]) ?_ ?_
 ·intro K4 hK4
  refine HT_block ?_
  refine HT_loopK (fun kf l' s' => ∃ (x40 : Int), (impl_matcher_longest.l1 p0_0 p0_1 p0_2 p0_3 p1 kf x40).bind G4 = some r ∧ l' = [.pointer (some ⟨bp0, 0, none⟩), .int .i64 p1, .int .i64 p2, undef, undef, undef, getL l' 6, .int .i64 x40, .int .i64 p2, getL l' 9, getL l' 10, getL l' 11, getL l' 12, getL l' 13, getL l' 14, getL l' 15, getL l' 16, getL l' 17, getL l' 18, getL l' 19, getL l' 20, getL l' 21, getL l' 22, getL l' 23, getL l' 24] ∧ Hp sb s F0 s' [Ck.ov bp0 [.slice A0_0p p0_0.length c0_0p, .slice A0_1p p0_1.length c0_1p, .slice A0_2p p0_2.length c0_2p, .slice A0_3p p0_3.length c0_3p] 165]) (((p2) - (p1)).toNat + 2) ⟨p2, H, rfl, hH⟩ ?_
  rintro kf l' s50 ⟨x40, H, hl, hH⟩ K50 hK50
  generalize getL l' 6 = j6, getL l' 9 = j9, getL l' 10 = j10, getL l' 11 = j11, getL l' 12 = j12, getL l' 13 = j13, getL l' 14 = j14, getL l' 15 = j15, getL l' 16 = j16, getL l' 17 = j17, getL l' 18 = j18, getL l' 19 = j19, getL l' 20 = j20, getL l' 21 = j21, getL l' 22 = j22, getL l' 23 = j23, getL l' 24 = j24 at hl
  subst hl
  cases kf with
  | zero => simp [impl_matcher_longest.l1] at H
  | succ kf =>
   rw [impl_matcher_longest.l1] at H
   refine HT_seq_k ?_
   intro K51 hK51
   refine HT_seq_k ?_
   intro K52 hK52
   refine HT_region ?_
   refine HL_cons rfl ?_
   refine o_move ?_
   try dsimp only [putL, setL, evL, getL]
   refine HL_cons rfl ?_
   refine o_move ?_
   try dsimp only [putL, setL, evL, getL]
   refine HL_cons rfl ?_
   refine o_bin rfl rfl rfl ?_
   try dsimp only [putL, setL, evL, getL]
   refine HL_nil ?_
   refine hK52 _ _ ?_
   rcases Bool.eq_false_or_eq_true (decide (x40 ≥ p1)) with hb53 | hb53
   ·replace H := iteT hb53 H
    refine HT_true (congrArg Value.bool hb53) ?_
    refine HT_skip ?_
    refine hK51 _ _ ?_
    refine HT_seq_k ?_
    intro K54 hK54
    refine HT_block ?_
    refine HT_seq_k ?_
    intro K55 hK55
    refine HT_region ?_
    refine HL_cons rfl ?_
    refine o_move ?_
    try dsimp only [putL, setL, evL, getL]
    refine HL_cons rfl ?_
    refine o_move ?_
    try dsimp only [putL, setL, evL, getL]
    refine HL_cons rfl ?_
    refine o_nilck rfl ?_
    try dsimp only [putL, setL, evL, getL]
    refine HL_cons rfl ?_
    refine o_faddr' (ft := 57) (off := 0) rfl Try.underlying165 rfl tI57 (by decide) ?_
    try dsimp only [putL, setL, evL, getL]
    refine HL_cons rfl ?_
    refine o_load' rfl Try.underlying57 rfl (hH.hasv 0 rfl rfl) ?_
    try dsimp only [putL, setL, evL, getL]
    refine HL_cons rfl ?_
    refine o_len rfl Try.underlying57 ?_
    try dsimp only [putL, setL, evL, getL]
    refine HL_cons rfl ?_
    refine o_bin rfl rfl rfl ?_
    try dsimp only [putL, setL, evL, getL]
    refine HL_cons rfl ?_
    refine o_move ?_
    try dsimp only [putL, setL, evL, getL]
    refine HL_cons rfl ?_
    refine o_move ?_
    try dsimp only [putL, setL, evL, getL]
    replace H := headE H
    obtain ⟨u56, hu56, H⟩ := H
    obtain ⟨F1, hA, hB⟩ := hH.take [0] (by decide)
    dsimp only [addC, setC, rmC, selC, getC] at hA
    refine HL_cons rfl ?_
    refine o_call (args := #[.pointer (some ⟨bp0, 0, none⟩), .int .i64 (IntKind.i64.wrap ((p0_0.length : Int) - 1)), .int .i64 p1, .int .i64 x40]) Try.func178 rfl rfl rfl (impl_matcher_has.ok sb s50 F1 bp0 A0_0p c0_0p p0_0 A0_1p c0_1p p0_1 A0_2p c0_2p p0_2 A0_3p c0_3p p0_3 (IntKind.i64.wrap ((p0_0.length : Int) - 1)) p1 x40 HRp0_0 HRp0_1 HRp0_2 HRp0_3 hA _ hu56) ?_
    rintro _ s56 ⟨rfl, hD⟩
    replace hH := hB _ _ _ (Up.refl _ _ _) hD
    clear hD hA hB
    dsimp only [addC, setC, rmC, selC, getC] at hH
    try dsimp only [putL, setL, evL, getL]
    refine HL_nil ?_
    refine hK55 _ _ ?_
    rcases Bool.eq_false_or_eq_true u56 with hb57 | hb57
    ·replace H := iteT hb57 H
     refine HT_true (congrArg Value.bool hb57) ?_
     refine HT_seq_k ?_
     intro K58 hK58
     refine HT_region ?_
     refine HL_cons rfl ?_
     refine o_move ?_
     try dsimp only [putL, setL, evL, getL]
     refine HL_cons rfl ?_
     refine o_assign ?_
     try dsimp only [putL, setL, evL, getL]
     refine HL_nil ?_
     refine hK58 _ _ ?_
     refine HT_ret ?_
     replace H := escH (fun z hz => hG4 _ hz) H
     exact hQr _ _ [.int .i64 x40] ⟨rfl, trivial⟩ (retH (fun r => impl_matcher_longest.post sb s F0 bp0 A0_0p c0_0p p0_0 A0_1p c0_1p p0_1 A0_2p c0_2p p0_2 A0_3p c0_3p p0_3 r _ _) (show some _ = some r from H) ⟨rfl, hH.sel [1] (by decide)⟩)
    ·replace H := iteF hb57 H
     refine HT_false (congrArg Value.bool hb57) ?_
     refine HT_skip ?_
     refine hK54 _ _ ?_
     refine HT_region ?_
     refine HL_cons rfl ?_
     refine o_move ?_
     try dsimp only [putL, setL, evL, getL]
     refine HL_cons rfl ?_
     refine o_bin rfl rfl rfl ?_
     try dsimp only [putL, setL, evL, getL]
     refine HL_cons rfl ?_
     refine o_assign ?_
     try dsimp only [putL, setL, evL, getL]
     refine HL_nil ?_
     exact hK50 _ _ ⟨kf, Nat.lt_succ_self kf, IntKind.i64.wrap (x40 - 1), H, rfl, hH.sel [1] (by decide)⟩
   ·replace H := iteF hb53 H
    refine HT_false (congrArg Value.bool hb53) ?_
    refine HT_exit ?_
    exact hK4 _ _ ⟨H, rfl, hH⟩
 ·rintro l' s59 ⟨H, hl, hH⟩
  generalize getL l' 6 = j6, getL l' 7 = j7, getL l' 9 = j9, getL l' 10 = j10, getL l' 11 = j11, getL l' 12 = j12, getL l' 13 = j13, getL l' 14 = j14, getL l' 15 = j15, getL l' 16 = j16, getL l' 17 = j17, getL l' 18 = j18, getL l' 19 = j19, getL l' 20 = j20, getL l' 21 = j21, getL l' 22 = j22, getL l' 23 = j23, getL l' 24 = j24 at hl
  subst hl
  replace H := hG4 _ H
  try dsimp only at H
  refine hK2 _ _ ?_
  refine HT_seq_k ?_
  intro K60 hK60
  refine HT_region ?_
  refine HL_cons rfl ?_
  refine o_assign ?_
  try dsimp only [putL, setL, evL, getL]
  refine HL_nil ?_
  refine hK60 _ _ ?_
  refine HT_ret ?_
  exact hQr _ _ [.int .i64 (-1)] ⟨rfl, trivial⟩ (retH (fun r => impl_matcher_longest.post sb s F0 bp0 A0_0p c0_0p p0_0 A0_1p c0_1p p0_1 A0_2p c0_2p p0_2 A0_3p c0_3p p0_3 r _ _) (show some _ = some r from H) ⟨rfl, hH⟩)
def impl_matcher_find.l1 (p0_0 : List ((Int) × (List (Int)))) (p0_1 : List (List (Int))) (p0_2 : List (Int)) (p0_3 : List (List (List (Bool)))) (p2 : Int) : Nat → Int → Option (Lo Unit (Int × Int × Bool))
 | 0, _ => none
 | kf + 1, x42 => if (decide (x42 ≤ p2)) = true then ((impl_matcher_longest.f p0_0 p0_1 p0_2 p0_3 x42 p2).bind fun u59 => if (decide (u59 ≥ 0)) = true then ((some (x42, u59, true)).bind fun z => some (Lo.ret z)) else (impl_matcher_find.l1 p0_0 p0_1 p0_2 p0_3 p2 kf (IntKind.i64.wrap (x42 + 1)))) else (some (Lo.go ()))
def impl_matcher_find.f (p0_0 : List ((Int) × (List (Int)))) (p0_1 : List (List (Int))) (p0_2 : List (Int)) (p0_3 : List (List (List (Bool)))) (p1 : Int) (p2 : Int) : Option (Int × Int × Bool) := (impl_matcher_find.l1 p0_0 p0_1 p0_2 p0_3 p2 (((p2) - (p1)).toNat + 2) p1).bind fun (o : Lo Unit (Int × Int × Bool)) => match o with | .go () => (some (0, 0, false)) | .ret z => some z
def impl_matcher_find.post (sb s : St) (F0 : Fp) (bp0 : Nat) (A0_0p : Option Addr) (c0_0p : Nat) (p0_0 : List ((Int) × (List (Int)))) (A0_1p : Option Addr) (c0_1p : Nat) (p0_1 : List (List (Int))) (A0_2p : Option Addr) (c0_2p : Nat) (p0_2 : List (Int)) (A0_3p : Option Addr) (c0_3p : Nat) (p0_3 : List (List (List (Bool)))) (r : Int × Int × Bool) : Value → St → Prop := fun v s' => v = .tuple #[.int .i64 r.1, .int .i64 r.2.1, .bool r.2.2] ∧ Hp sb s F0 s' [Ck.ov bp0 [.slice A0_0p p0_0.length c0_0p, .slice A0_1p p0_1.length c0_1p, .slice A0_2p p0_2.length c0_2p, .slice A0_3p p0_3.length c0_3p] 165]
set_option maxRecDepth 100000 in
set_option maxHeartbeats 4000000 in
theorem impl_matcher_find.ok (sb s : St) (F0 : Fp) (bp0 : Nat) (A0_0p : Option Addr) (c0_0p : Nat) (p0_0 : List ((Int) × (List (Int)))) (A0_1p : Option Addr) (c0_1p : Nat) (p0_1 : List (List (Int))) (A0_2p : Option Addr) (c0_2p : Nat) (p0_2 : List (Int)) (A0_3p : Option Addr) (c0_3p : Nat) (p0_3 : List (List (List (Bool)))) (p1 : Int) (p2 : Int) (HRp0_0 : Rd KS139 sb A0_0p c0_0p p0_0) (HRp0_1 : Rd (Kd.sl KI) sb A0_1p c0_1p p0_1) (HRp0_2 : Rd KI sb A0_2p c0_2p p0_2) (HRp0_3 : Rd (Kd.sl (Kd.sl Kd.bool)) sb A0_3p c0_3p p0_3) (hH : Hp sb s F0 s [Ck.ov bp0 [.slice A0_0p p0_0.length c0_0p, .slice A0_1p p0_1.length c0_1p, .slice A0_2p p0_2.length c0_2p, .slice A0_3p p0_3.length c0_3p] 165]) (r : Int × Int × Bool) (H : impl_matcher_find.f p0_0 p0_1 p0_2 p0_3 p1 p2 = some r) : GCall Try.prog 233 #[.pointer (some ⟨bp0, 0, none⟩), .int .i64 p1, .int .i64 p2] s (impl_matcher_find.post sb s F0 bp0 A0_0p c0_0p p0_0 A0_1p c0_1p p0_1 A0_2p c0_2p p0_2 A0_3p c0_3p p0_3 r) := by
 refine GCall_ofk [.tmp 6, .tmp 7, .tmp 8] [.pointer (some ⟨bp0, 0, none⟩), .int .i64 p1, .int .i64 p2, undef, undef, undef, undef, undef, undef, undef, undef, undef, undef, undef, undef, undef, undef, undef, undef, undef, undef, undef, undef] Try.func233 rfl rfl rfl ?_
 intro w Q hQr hQn hQp
 replace H := topE H
 unfold impl_matcher_find.f at H
 refine HT_seq_k ?_
 intro K1 hK1
 refine HT_region ?_
 refine HL_cons rfl ?_
 refine o_assign ?_
 try dsimp only [putL, setL, evL, getL]
 refine HL_cons rfl ?_
 refine o_assign ?_
 try dsimp only [putL, setL, evL, getL]
 refine HL_cons rfl ?_
 refine o_assign ?_
 try dsimp only [putL, setL, evL, getL]
 refine HL_nil ?_
 refine hK1 _ _ ?_
 refine joinH H fun G2 hG2 H => ?_
 refine HT_joinK (fun l' s' => G2 (.go ()) = some r ∧ l' = [.pointer (some ⟨bp0, 0, none⟩), getL l' 1, .int .i64 p2, undef, undef, undef, getL l' 6, getL l' 7, getL l' 8, getL l' 9, getL l' 10, getL l' 11, getL l' 12, getL l' 13, getL l' 14, getL l' 15, getL l' 16, getL l' 17, getL l' 18, getL l' 19, getL l' 20, getL l' 21, getL l' 22] ∧ Hp sb s F0 s' [Ck.ov bp0 [.slice A0_0p p0_0.length c0_0p, .slice A0_1p p0_1.length c0_1p, .slice A0_2p p0_2.length c0_2p, .slice A0_3p p0_3.length c0_3p] 165]) ?_ ?_
 ·intro K2 hK2
  refine HT_block ?_
  refine HT_loopK (fun kf l' s' => ∃ (x42 : Int), (impl_matcher_find.l1 p0_0 p0_1 p0_2 p0_3 p2 kf x42).bind G2 = some r ∧ l' = [.pointer (some ⟨bp0, 0, none⟩), .int .i64 x42, .int .i64 p2, undef, undef, undef, getL l' 6, getL l' 7, getL l' 8, getL l' 9, getL l' 10, getL l' 11, getL l' 12, getL l' 13, getL l' 14, getL l' 15, getL l' 16, getL l' 17, getL l' 18, getL l' 19, getL l' 20, getL l' 21, getL l' 22] ∧ Hp sb s F0 s' [Ck.ov bp0 [.slice A0_0p p0_0.length c0_0p, .slice A0_1p p0_1.length c0_1p, .slice A0_2p p0_2.length c0_2p, .slice A0_3p p0_3.length c0_3p] 165]) (((p2) - (p1)).toNat + 2) ⟨p1, H, rfl, hH⟩ ?_
  rintro kf l' s53 ⟨x42, H, hl, hH⟩ K53 hK53
  generalize getL l' 6 = j6, getL l' 7 = j7, getL l' 8 = j8, getL l' 9 = j9, getL l' 10 = j10, getL l' 11 = j11, getL l' 12 = j12, getL l' 13 = j13, getL l' 14 = j14, getL l' 15 = j15, getL l' 16 = j16, getL l' 17 = j17, getL l' 18 = j18, getL l' 19 = j19, getL l' 20 = j20, getL l' 21 = j21, getL l' 22 = j22 at hl
  subst hl
  cases kf with
  | zero => simp [impl_matcher_find.l1] at H
  | succ kf =>
   rw [impl_matcher_find.l1] at H
   refine HT_seq_k ?_
   intro K54 hK54
   refine HT_seq_k ?_
   intro K55 hK55
   refine HT_region ?_
   refine HL_cons rfl ?_
   refine o_move ?_
   try dsimp only [putL, setL, evL, getL]
   refine HL_cons rfl ?_
   refine o_move ?_
   try dsimp only [putL, setL, evL, getL]
   refine HL_cons rfl ?_
   refine o_bin rfl rfl rfl ?_
   try dsimp only [putL, setL, evL, getL]
   refine HL_nil ?_
   refine hK55 _ _ ?_
   rcases Bool.eq_false_or_eq_true (decide (x42 ≤ p2)) with hb56 | hb56
   ·replace H := iteT hb56 H
    refine HT_true (congrArg Value.bool hb56) ?_
    refine HT_skip ?_
    refine hK54 _ _ ?_
    refine HT_seq_k ?_
    intro K57 hK57
    refine HT_block ?_
    refine HT_seq_k ?_
    intro K58 hK58
    refine HT_region ?_
    refine HL_cons rfl ?_
    refine o_move ?_
    try dsimp only [putL, setL, evL, getL]
    refine HL_cons rfl ?_
    refine o_move ?_
    try dsimp only [putL, setL, evL, getL]
    refine HL_cons rfl ?_
    refine o_move ?_
    try dsimp only [putL, setL, evL, getL]
    replace H := headE H
    obtain ⟨u59, hu59, H⟩ := H
    obtain ⟨F1, hA, hB⟩ := hH.take [0] (by decide)
    dsimp only [addC, setC, rmC, selC, getC] at hA
    refine HL_cons rfl ?_
    refine o_call (args := #[.pointer (some ⟨bp0, 0, none⟩), .int .i64 x42, .int .i64 p2]) Try.func239 rfl rfl rfl (impl_matcher_longest.ok sb s53 F1 bp0 A0_0p c0_0p p0_0 A0_1p c0_1p p0_1 A0_2p c0_2p p0_2 A0_3p c0_3p p0_3 x42 p2 HRp0_0 HRp0_1 HRp0_2 HRp0_3 hA _ hu59) ?_
    rintro _ s59 ⟨rfl, hD⟩
    replace hH := hB _ _ _ (Up.refl _ _ _) hD
    clear hD hA hB
    dsimp only [addC, setC, rmC, selC, getC] at hH
    try dsimp only [putL, setL, evL, getL]
    refine HL_cons rfl ?_
    refine o_assign ?_
    try dsimp only [putL, setL, evL, getL]
    refine HL_nil ?_
    refine hK58 _ _ ?_
    refine HT_seq_k ?_
    intro K60 hK60
    refine HT_region ?_
    refine HL_cons rfl ?_
    refine o_move ?_
    try dsimp only [putL, setL, evL, getL]
    refine HL_cons rfl ?_
    refine o_bin rfl rfl rfl ?_
    try dsimp only [putL, setL, evL, getL]
    refine HL_nil ?_
    refine hK60 _ _ ?_
    rcases Bool.eq_false_or_eq_true (decide (u59 ≥ 0)) with hb61 | hb61
    ·replace H := iteT hb61 H
     refine HT_true (congrArg Value.bool hb61) ?_
     refine HT_seq_k ?_
     intro K62 hK62
     refine HT_region ?_
     refine HL_cons rfl ?_
     refine o_move ?_
     try dsimp only [putL, setL, evL, getL]
     refine HL_cons rfl ?_
     refine o_move ?_
     try dsimp only [putL, setL, evL, getL]
     refine HL_cons rfl ?_
     refine o_assign ?_
     try dsimp only [putL, setL, evL, getL]
     refine HL_cons rfl ?_
     refine o_assign ?_
     try dsimp only [putL, setL, evL, getL]
     refine HL_cons rfl ?_
     refine o_assign ?_
     try dsimp only [putL, setL, evL, getL]
     refine HL_nil ?_
     refine hK62 _ _ ?_
     refine HT_ret ?_
     replace H := escH (fun z hz => hG2 _ hz) H
     exact hQr _ _ [.int .i64 x42, .int .i64 u59, .bool true] ⟨rfl, rfl, rfl, trivial⟩ (retH (fun r => impl_matcher_find.post sb s F0 bp0 A0_0p c0_0p p0_0 A0_1p c0_1p p0_1 A0_2p c0_2p p0_2 A0_3p c0_3p p0_3 r _ _) (show some _ = some r from H) ⟨rfl, hH.sel [1] (by decide)⟩)
    ·replace H := iteF hb61 H
     refine HT_false (congrArg Value.bool hb61) ?_
     refine HT_skip ?_
     refine hK57 _ _ ?_
     refine HT_region ?_
     refine HL_cons rfl ?_
     refine o_move ?_
     try dsimp only [putL, setL, evL, getL]
     refine HL_cons rfl ?_
     refine o_bin rfl rfl rfl ?_
     try dsimp only [putL, setL, evL, getL]
     refine HL_cons rfl ?_
     refine o_assign ?_
     try dsimp only [putL, setL, evL, getL]
     refine HL_nil ?_
     exact hK53 _ _ ⟨kf, Nat.lt_succ_self kf, IntKind.i64.wrap (x42 + 1), H, rfl, hH.sel [1] (by decide)⟩
   ·replace H := iteF hb56 H
    refine HT_false (congrArg Value.bool hb56) ?_
    refine HT_exit ?_
    exact hK2 _ _ ⟨H, rfl, hH⟩
 ·rintro l' s63 ⟨H, hl, hH⟩
  generalize getL l' 1 = j1, getL l' 6 = j6, getL l' 7 = j7, getL l' 8 = j8, getL l' 9 = j9, getL l' 10 = j10, getL l' 11 = j11, getL l' 12 = j12, getL l' 13 = j13, getL l' 14 = j14, getL l' 15 = j15, getL l' 16 = j16, getL l' 17 = j17, getL l' 18 = j18, getL l' 19 = j19, getL l' 20 = j20, getL l' 21 = j21, getL l' 22 = j22 at hl
  subst hl
  replace H := hG2 _ H
  try dsimp only at H
  refine HT_seq_k ?_
  intro K64 hK64
  refine HT_region ?_
  refine HL_cons rfl ?_
  refine o_assign ?_
  try dsimp only [putL, setL, evL, getL]
  refine HL_cons rfl ?_
  refine o_assign ?_
  try dsimp only [putL, setL, evL, getL]
  refine HL_cons rfl ?_
  refine o_assign ?_
  try dsimp only [putL, setL, evL, getL]
  refine HL_nil ?_
  refine hK64 _ _ ?_
  refine HT_ret ?_
  exact hQr _ _ [.int .i64 0, .int .i64 0, .bool false] ⟨rfl, rfl, rfl, trivial⟩ (retH (fun r => impl_matcher_find.post sb s F0 bp0 A0_0p c0_0p p0_0 A0_1p c0_1p p0_1 A0_2p c0_2p p0_2 A0_3p c0_3p p0_3 r _ _) (show some _ = some r from H) ⟨rfl, hH⟩)
end Go.Proofs.Ytkieinlcpkpcjaa
