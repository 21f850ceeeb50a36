/- The functions that the law reaches, as plain functions, each with its contract: printed by a program of the prover's. No conditions: lemmas. -/
import Derived.Test.YtkieinlcpkpcjaaWLScreen1
set_option linter.unusedVariables false
set_option linter.unusedSimpArgs false
namespace Go.Proofs.Ytkieinlcpkpcjaa
open Go Go.Proofs.GL
attribute [local irreducible] HL HT HX HK
def laws_FnScreen.f (p0 : List (Int)) (p1 : List (Int)) : Option Bool := (laws_big.f p0 p1).bind fun u4 => if u4 = true then (some true) else ((spec_DrawPutRunes.f p0).bind fun u8 => (impl_PutRunes.f u8.1 u8.2.1 u8.2.2.1 u8.2.2.2.1 u8.2.2.2.2.1 u8.2.2.2.2.2).bind fun u14 => (spec_PutRunes.f u8.1 u8.2.1 u8.2.2.1 u8.2.2.2.1 u8.2.2.2.2.1 u8.2.2.2.2.2).bind fun u19 => (if (u14.2.2.2.2.2 != u19.2.2.2.2.2) = true then (some true) else ((laws_sameScreen.f u14.1 u14.2.1 u14.2.2.1 u14.2.2.2.1 u14.2.2.2.2.1 u19.1 u19.2.1 u19.2.2.1 u19.2.2.2.1 u19.2.2.2.2.1).bind fun u48 => if (!u48) = true then (some true) else ((impl_GoodScreen.f u8.1 u8.2.1 u8.2.2.1 u8.2.2.2.1 u8.2.2.2.2.1).bind fun u50 => (spec_GoodScreen.f u8.1 u8.2.1 u8.2.2.1 u8.2.2.2.1 u8.2.2.2.2.1).bind fun u51 => some (u50 != u51)))).bind fun (o : Bool) => match o with | x46 => (if x46 = true then (some false) else ((if u14.2.2.2.2.2 = true then ((laws_numberOf.f p1).bind fun u171 => (rem? u171 (IntKind.i64.wrap ((u8.2.2.2.2.2.length : Int) + 1))).bind fun u172 => ((cut? u8.2.2.2.2.2 0 u172).bind fun x190 => (impl_PutRunes.f u8.1 u8.2.1 u8.2.2.1 u8.2.2.2.1 u8.2.2.2.2.1 x190).bind fun u191 => some (u191.2.2.2.2.2, u191.1, u191.2.1, u191.2.2.1, u191.2.2.2.1, u191.2.2.2.2.1)).bind fun (o : Bool × Int × Int × (List (Int)) × Int × Int) => match o with | (x184, x185, x186, x187, x188, x189) => (((cut? u8.2.2.2.2.2 u172 (u8.2.2.2.2.2.length : Int)).bind fun x217 => (impl_PutRunes.f x185 x186 x187 x188 x189 x217).bind fun u218 => some (u218.2.2.2.2.2, u218.1, u218.2.1, u218.2.2.1, u218.2.2.2.1, u218.2.2.2.2.1)).bind fun (o : Bool × Int × Int × (List (Int)) × Int × Int) => match o with | (x211, x212, x213, x214, x215, x216) => ((if (!x184) = true then (some true) else (if (!x211) = true then (some true) else ((laws_sameScreen.f x212 x213 x214 x215 x216 u14.1 u14.2.1 u14.2.2.1 u14.2.2.2.1 u14.2.2.2.2.1).bind fun u253 => if (!u253) = true then (some true) else ((impl_GoodScreen.f u14.1 u14.2.1 u14.2.2.1 u14.2.2.2.1 u14.2.2.2.2.1).bind fun u255 => some (!u255))))).bind fun (o : Bool) => match o with | x250 => (if x250 = true then ((some false).bind fun z => some (Lo.ret z)) else ((impl_PutRune.f u14.1 u14.2.1 u14.2.2.1 u14.2.2.2.1 u14.2.2.2.2.1 12).bind fun u260 => (impl_NewScreen.f u8.1 u8.2.1).bind fun u265 => (if (!u260.2.2.2.2.2) = true then (some true) else (if (!u265.2.2.2.2.2) = true then (some true) else ((laws_sameScreen.f u260.1 u260.2.1 u260.2.2.1 u260.2.2.2.1 u260.2.2.2.2.1 u265.1 u265.2.1 u265.2.2.1 u265.2.2.2.1 u265.2.2.2.2.1).bind fun u276 => some (!u276)))).bind fun (o : Bool) => match o with | x273 => (if x273 = true then ((some false).bind fun z => some (Lo.ret z)) else (some (Lo.go ())))))))) else (some (Lo.go ()))).bind fun (o : Lo Unit Bool) => match o with | .go () => ((spec_DrawPutRune.f p1).bind fun u282 => (impl_PutRune.f u282.1 u282.2.1 u282.2.2.1 u282.2.2.2.1 u282.2.2.2.2.1 u282.2.2.2.2.2).bind fun u287 => (spec_PutRune.f u282.1 u282.2.1 u282.2.2.1 u282.2.2.2.1 u282.2.2.2.2.1 u282.2.2.2.2.2).bind fun u292 => (spec_DrawNewScreen.f p1).bind fun u297 => (impl_NewScreen.f u297.1 u297.2).bind fun u299 => (spec_NewScreen.f u297.1 u297.2).bind fun u304 => if (u287.2.2.2.2.2 == u292.2.2.2.2.2) = true then ((laws_sameScreen.f u287.1 u287.2.1 u287.2.2.1 u287.2.2.2.1 u287.2.2.2.2.1 u292.1 u292.2.1 u292.2.2.1 u292.2.2.2.1 u292.2.2.2.2.1).bind fun u310 => if u310 = true then (if (u299.2.2.2.2.2 == u304.2.2.2.2.2) = true then ((laws_sameScreen.f u299.1 u299.2.1 u299.2.2.1 u299.2.2.2.1 u299.2.2.2.2.1 u304.1 u304.2.1 u304.2.2.1 u304.2.2.2.1 u304.2.2.2.2.1).bind fun u313 => some u313) else (some false)) else (some false)) else (some false)) | .ret z => some z)))
def laws_FnScreen.post (sb s : St) (F0 : Fp) (r : Bool) : Value → St → Prop := fun v s' => v = .bool r ∧ Hp sb s F0 s' []
set_option maxRecDepth 100000 in
set_option maxHeartbeats 4000000 in
theorem laws_FnScreen.ok (sb s : St) (F0 : Fp) (A0p : Option Addr) (c0p : Nat) (p0 : List (Int)) (A1p : Option Addr) (c1p : Nat) (p1 : List (Int)) (HRp0 : Rd (Kd.int .u8) sb A0p c0p p0) (HRp1 : Rd (Kd.int .u8) sb A1p c1p p1) (hH : Hp sb s F0 s []) (r : Bool) (H : laws_FnScreen.f p0 p1 = some r) : GCall Try.prog 6 #[.slice A0p p0.length c0p, .slice A1p p1.length c1p] s (laws_FnScreen.post sb s F0 r) := by
 refine GCall_ofr (laws_FnScreen.post sb s F0) [.tmp 4] (ud [.slice A0p p0.length c0p, .slice A1p p1.length c1p] 183) Try.func6 rfl rfl rfl fun w Q hQr hQn hQp => ?_
 replace H := topE H
 unfold laws_FnScreen.f at H
 dsimp only [ud, un]
 refine sr fun K1 hK1 => ag (HL_nil (hK1 _ _ ?_))
 dsimp only [putL, setL, evL, getL]
 refine HT_seq_k fun K2 hK2 => sr fun K3 hK3 => mv (mv ?_)
 replace H := headE H
 obtain ⟨u4, hu4, H⟩ := H
 refine hc (o_call (args := #[.slice A0p p0.length c0p, .slice A1p p1.length c1p]) Try.func14 rfl rfl rfl (laws_big.ok sb s no A0p c0p p0 A1p c1p p1 HRp0 HRp1 (Hp.own hH.bs) _ hu4) ?_)
 rintro _ s4 ⟨rfl, hD⟩
 replace hH := hH.back0 hD (Up.refl _ _ _)
 clear hD
 refine HL_nil (hK3 _ _ ?_)
 try dsimp only [putL, setL, evL, getL]
 revert H
 refine ct rfl (fun hb5 H => ?_) (fun hb5 H => ?_)
 ·refine sr fun K6 hK6 => ag (HL_nil (hK6 _ _ ?_))
  dsimp only [putL, setL, evL, getL]
  refine HT_ret ?_
  exact hQr _ _ [.bool true] _ ⟨rfl, trivial⟩ H ⟨rfl, hH⟩
 ·refine HT_skip (hK2 _ _ (sr fun K7 hK7 => (mv ?_)))
  replace H := headE H
  obtain ⟨u8, hu8, H⟩ := H
  refine hc (o_call (args := #[.slice A0p p0.length c0p]) Try.func48 rfl rfl rfl (spec_DrawPutRunes.ok sb s4 no A0p c0p p0 HRp0 (Hp.own hH.bs) _ hu8) ?_)
  rintro _ s8 ⟨A9, c9, A10, c10, rfl, hD⟩
  replace hH := hH.back0 hD (Up.refl _ _ _)
  clear hD
  refine mv ?_
  dsimp only [putL, setL, evL, getL]
  refine hc (o_extract rfl rfl (hc (o_extract rfl rfl (hc (o_allocH hH tI66 ?_)))))
  clear hH
  intro b11 s11 hH _
  try dsimp only [putL, setL, evL, getL]
  refine hc (o_stvH (vs := [.int .i64 u8.1, .int .i64 u8.2.1, .slice A9 u8.2.2.1.length c9, .int .i64 u8.2.2.2.1, .int .i64 u8.2.2.2.2.1]) (us' := [.int .i64 u8.1, .int .i64 u8.2.1, .slice A9 u8.2.2.1.length c9, .int .i64 u8.2.2.2.1, .int .i64 u8.2.2.2.2.1]) hH 2 rfl rfl rfl rfl rfl tI66 rfl (List.cons_ne_nil _ _) rfl rfl rfl ?_)
  clear hH
  intro s12 hH
  refine ag (HL_nil (hK7 _ _ ?_))
  dsimp only [putL, setL, evL, getL]
  refine sr fun K13 hK13 => hc (o_loads' [.int .i64 u8.1, .int .i64 u8.2.1, .slice A9 u8.2.2.1.length c9, .int .i64 u8.2.2.2.1, .int .i64 u8.2.2.2.2.1] rfl Try.underlying66 rfl tI66 rfl (hH.partv 2 rfl (0) [.int .i64 u8.1, .int .i64 u8.2.1, .slice A9 u8.2.2.1.length c9, .int .i64 u8.2.2.2.1, .int .i64 u8.2.2.2.2.1] rfl) (mv ?_))
  replace H := headE H
  obtain ⟨u14, hu14, H⟩ := H
  refine hc (o_call (args := #[.agg #[.int .i64 u8.1, .int .i64 u8.2.1, .slice A9 u8.2.2.1.length c9, .int .i64 u8.2.2.2.1, .int .i64 u8.2.2.2.2.1], .slice A10 u8.2.2.2.2.2.length c10]) Try.func49 rfl rfl rfl (impl_PutRunes.ok s12 s12 no u8.1 u8.2.1 A9 c9 u8.2.2.1 u8.2.2.2.1 u8.2.2.2.2.1 A10 c10 u8.2.2.2.2.2 (hH.rd 0 rfl) (hH.rd 1 rfl) (Hp.own (Bs.refl s12)) _ hu14) ?_)
  rintro _ s14 ⟨A15, c15, rfl, hD⟩
  replace hH := hH.back0T hD
  clear hD
  try dsimp only [putL, setL, evL, getL]
  refine mv (hc (o_extract rfl rfl (hc (o_extract rfl rfl ?_))))
  dsimp only [putL, setL, evL, getL]
  refine hc (o_allocH hH tI66 ?_)
  clear hH
  intro b16 s16 hH _
  refine hc (o_stvH (vs := [.int .i64 u14.1, .int .i64 u14.2.1, .slice A15 u14.2.2.1.length c15, .int .i64 u14.2.2.2.1, .int .i64 u14.2.2.2.2.1]) (us' := [.int .i64 u14.1, .int .i64 u14.2.1, .slice A15 u14.2.2.1.length c15, .int .i64 u14.2.2.2.1, .int .i64 u14.2.2.2.2.1]) hH 4 rfl rfl rfl rfl rfl tI66 rfl (List.cons_ne_nil _ _) rfl rfl rfl ?_)
  clear hH
  intro s17 hH
  refine ag (HL_nil (hK13 _ _ ?_))
  dsimp only [putL, setL, evL, getL]
  refine sr fun K18 hK18 => hc (o_loads' [.int .i64 u8.1, .int .i64 u8.2.1, .slice A9 u8.2.2.1.length c9, .int .i64 u8.2.2.2.1, .int .i64 u8.2.2.2.2.1] rfl Try.underlying66 rfl tI66 rfl (hH.partv 2 rfl (0) [.int .i64 u8.1, .int .i64 u8.2.1, .slice A9 u8.2.2.1.length c9, .int .i64 u8.2.2.2.1, .int .i64 u8.2.2.2.2.1] rfl) (mv ?_))
  replace H := headE H
  obtain ⟨u19, hu19, H⟩ := H
  refine hc (o_call (args := #[.agg #[.int .i64 u8.1, .int .i64 u8.2.1, .slice A9 u8.2.2.1.length c9, .int .i64 u8.2.2.2.1, .int .i64 u8.2.2.2.2.1], .slice A10 u8.2.2.2.2.2.length c10]) Try.func50 rfl rfl rfl (spec_PutRunes.ok s17 s17 no u8.1 u8.2.1 A9 c9 u8.2.2.1 u8.2.2.2.1 u8.2.2.2.2.1 A10 c10 u8.2.2.2.2.2 (hH.rd 0 rfl) (hH.rd 1 rfl) (Hp.own (Bs.refl s17)) _ hu19) ?_)
  rintro _ s19 ⟨A20, c20, rfl, hD⟩
  replace hH := hH.back0T hD
  clear hD
  try dsimp only [putL, setL, evL, getL]
  refine mv (hc (o_extract rfl rfl (hc (o_extract rfl rfl ?_))))
  dsimp only [putL, setL, evL, getL]
  refine hc (o_allocH hH tI66 ?_)
  clear hH
  intro b21 s21 hH _
  refine hc (o_stvH (vs := [.int .i64 u19.1, .int .i64 u19.2.1, .slice A20 u19.2.2.1.length c20, .int .i64 u19.2.2.2.1, .int .i64 u19.2.2.2.2.1]) (us' := [.int .i64 u19.1, .int .i64 u19.2.1, .slice A20 u19.2.2.1.length c20, .int .i64 u19.2.2.2.1, .int .i64 u19.2.2.2.2.1]) hH 6 rfl rfl rfl rfl rfl tI66 rfl (List.cons_ne_nil _ _) rfl rfl rfl ?_)
  clear hH
  intro s22 hH
  refine ag (HL_nil (hK18 _ _ ?_))
  dsimp only [putL, setL, evL, getL]
  refine HT_seq_k fun K39 hK39 => ?_
  refine joinH H fun G40 hG40 H => ?_
  refine HT_joinK (fun l' s' => ∃ (x46 : Bool), G40 x46 = some r ∧ skim [1, 3, 0, 0, 0, 58] l' = ([.slice A1p p1.length c1p, .pointer (some ⟨b11, 0, none⟩), .slice A10 u8.2.2.2.2.2.length c10, .pointer (some ⟨b16, 0, none⟩), .bool u14.2.2.2.2.2, .bool x46], 118) ∧ Hp sb s F0 s' [Ck.ol OI 3 A10 c10 u8.2.2.2.2.2, Ck.ol OI 3 A9 c9 u8.2.2.1, Ck.ol OI 3 A15 c15 u14.2.2.1, Ck.ov b11 [.int .i64 u8.1, .int .i64 u8.2.1, .slice A9 u8.2.2.1.length c9, .int .i64 u8.2.2.2.1, .int .i64 u8.2.2.2.2.1] 66, Ck.ov b16 [.int .i64 u14.1, .int .i64 u14.2.1, .slice A15 u14.2.2.1.length c15, .int .i64 u14.2.2.2.1, .int .i64 u14.2.2.2.2.1] 66]) ?_ ?_
  ·intro K40 hK40
   refine HX_draw hMix ?_
   refine HX_lim (R := fun _ => True) (k := 0) (fun s' => Gro s22 s') 17 ?_
   have hR := Gro.refl s22
   have hH0 := hH
   refine HK_readP 0 (v := .bool u14.2.2.2.2.2) rfl (by kernel_rfl) hQp rfl (fun s' K hK => o_move hK) rfl rfl (fun _ => hR) ?_
   try dsimp only [putL, setL, evL, getL]
   refine HK_readP 1 (v := .bool u19.2.2.2.2.2) rfl (by kernel_rfl) hQp rfl (fun s' K hK => o_move hK) rfl rfl (fun _ => hR) ?_
   refine HK_readP 2 (v := .bool (u14.2.2.2.2.2 != u19.2.2.2.2.2)) rfl (by kernel_rfl) hQp rfl (fun s' K hK => o_neb rfl rfl Try.underlying4 hK) rfl rfl (fun _ => hR) ?_
   refine HK_readP 3 (v := .bool (u14.2.2.2.2.2 != u19.2.2.2.2.2)) rfl (by kernel_rfl) hQp rfl (fun s' K hK => o_move hK) rfl rfl (fun _ => hR) ?_
   revert H
   refine it (fun hb47 H => ?_) (fun hb47 H => ?_)
   ·refine HK_passP 4 rfl (by kernel_rfl) (fun c l s h => hQp c l s h) ?_ (fun _ => hR) ?_
    ·exact wantF (j := 3) (b := false) (t := 55) (c := u14.2.2.2.2.2 != u19.2.2.2.2.2) rfl rfl rfl rfl hb47
    try dsimp only [putL, setL, evL, getL]
    refine HK_passP 5 rfl (by kernel_rfl) (fun c l s h => hQp c l s h) ?_ (fun _ => hR) ?_
    ·exact wantF (j := 3) (b := false) (t := 55) (c := u14.2.2.2.2.2 != u19.2.2.2.2.2) rfl rfl rfl rfl hb47
    refine HK_passP 6 rfl (by kernel_rfl) (fun c l s h => hQp c l s h) ?_ (fun _ => hR) ?_
    ·exact wantF (j := 3) (b := false) (t := 55) (c := u14.2.2.2.2.2 != u19.2.2.2.2.2) rfl rfl rfl rfl hb47
    refine HK_passP 7 rfl (by kernel_rfl) (fun c l s h => hQp c l s h) ?_ (fun _ => hR) ?_
    ·exact wantF (j := 3) (b := false) (t := 55) (c := u14.2.2.2.2.2 != u19.2.2.2.2.2) rfl rfl rfl rfl hb47
    try dsimp only [putL, setL, evL, getL]
    refine HK_readP 8 (v := .bool true) rfl (by kernel_rfl) hQp rfl (fun s' K hK => o_pickT rfl hb47 hK) rfl rfl (fun _ => hR) ?_
    refine HK_readP 9 (v := .bool true) rfl (by kernel_rfl) hQp rfl (fun s' K hK => o_move hK) rfl rfl (fun _ => hR) ?_
    refine HK_passP 10 rfl (by kernel_rfl) (fun c l s h => hQp c l s h) ?_ (fun _ => hR) ?_
    ·exact wantF (j := 9) (b := false) (t := 61) (c := true) rfl rfl rfl rfl rfl
    try dsimp only [putL, setL, evL, getL]
    refine HK_passP 11 rfl (by kernel_rfl) (fun c l s h => hQp c l s h) ?_ (fun _ => hR) ?_
    ·exact wantF (j := 9) (b := false) (t := 61) (c := true) rfl rfl rfl rfl rfl
    refine HK_passP 12 rfl (by kernel_rfl) (fun c l s h => hQp c l s h) ?_ (fun _ => hR) ?_
    ·exact wantF (j := 9) (b := false) (t := 61) (c := true) rfl rfl rfl rfl rfl
    refine HK_passP 13 rfl (by kernel_rfl) (fun c l s h => hQp c l s h) ?_ (fun _ => hR) ?_
    ·exact wantF (j := 9) (b := false) (t := 61) (c := true) rfl rfl rfl rfl rfl
    try dsimp only [putL, setL, evL, getL]
    refine HK_passP 14 rfl (by kernel_rfl) (fun c l s h => hQp c l s h) ?_ (fun _ => hR) ?_
    ·exact wantF (j := 9) (b := false) (t := 61) (c := true) rfl rfl rfl rfl rfl
    refine HK_readP 15 (v := .bool true) rfl (by kernel_rfl) hQp rfl (fun s' K hK => o_pickT rfl rfl hK) rfl rfl (fun _ => hR) ?_
    refine HK_done (fun _ => hR) (by kernel_rfl) ?_
    exact hK40 _ _ ⟨true, H, rfl, hH.sel [1, 0, 3, 2, 4] (by decide)⟩
   ·refine HK_read 4 (v := .agg #[.int .i64 u14.1, .int .i64 u14.2.1, .slice A15 u14.2.2.1.length c15, .int .i64 u14.2.2.2.1, .int .i64 u14.2.2.2.2.1]) rfl (by kernel_rfl) hQp (wantT (j := 3) (b := false) (t := 55) (c := u14.2.2.2.2.2 != u19.2.2.2.2.2) rfl rfl rfl rfl hb47) (fun s' hR' K hK => o_loads' [.int .i64 u14.1, .int .i64 u14.2.1, .slice A15 u14.2.2.1.length c15, .int .i64 u14.2.2.2.1, .int .i64 u14.2.2.2.2.1] rfl Try.underlying66 rfl tI66 rfl (fun j v hj => has_gro hR' ((hH0.partv 4 rfl (0) [.int .i64 u14.1, .int .i64 u14.2.1, .slice A15 u14.2.2.1.length c15, .int .i64 u14.2.2.2.1, .int .i64 u14.2.2.2.2.1] rfl) j v hj)) hK) rfl rfl hR ?_
    try dsimp only [putL, setL, evL, getL]
    refine HK_read 5 (v := .agg #[.int .i64 u19.1, .int .i64 u19.2.1, .slice A20 u19.2.2.1.length c20, .int .i64 u19.2.2.2.1, .int .i64 u19.2.2.2.2.1]) rfl (by kernel_rfl) hQp (wantT (j := 3) (b := false) (t := 55) (c := u14.2.2.2.2.2 != u19.2.2.2.2.2) rfl rfl rfl rfl hb47) (fun s' hR' K hK => o_loads' [.int .i64 u19.1, .int .i64 u19.2.1, .slice A20 u19.2.2.1.length c20, .int .i64 u19.2.2.2.1, .int .i64 u19.2.2.2.2.1] rfl Try.underlying66 rfl tI66 rfl (fun j v hj => has_gro hR' ((hH0.partv 6 rfl (0) [.int .i64 u19.1, .int .i64 u19.2.1, .slice A20 u19.2.2.1.length c20, .int .i64 u19.2.2.2.1, .int .i64 u19.2.2.2.2.1] rfl) j v hj)) hK) rfl rfl hR ?_
    refine HK_more [6] (by kernel_rfl) rfl (fun _ => hR) ⟨⟨_, rfl, Or.inl ⟨(wantT (j := 3) (b := false) (t := 55) (c := u14.2.2.2.2.2 != u19.2.2.2.2.2) rfl rfl rfl rfl hb47), ?_⟩⟩, trivial⟩
    replace H := headE H
    obtain ⟨u48, hu48, H⟩ := H
    skip
    refine o_call (args := #[.agg #[.int .i64 u14.1, .int .i64 u14.2.1, .slice A15 u14.2.2.1.length c15, .int .i64 u14.2.2.2.1, .int .i64 u14.2.2.2.2.1], .agg #[.int .i64 u19.1, .int .i64 u19.2.1, .slice A20 u19.2.2.1.length c20, .int .i64 u19.2.2.2.1, .int .i64 u19.2.2.2.2.1]]) Try.func51 rfl rfl rfl (laws_sameScreen.ok s22 s22 no u14.1 u14.2.1 A15 c15 u14.2.2.1 u14.2.2.2.1 u14.2.2.2.2.1 u19.1 u19.2.1 A20 c20 u19.2.2.1 u19.2.2.2.1 u19.2.2.2.2.1 (hH.rd 3 rfl) (hH.rd 5 rfl) (Hp.own (Bs.refl s22)) _ hu48) ?_
    rintro _ s48 ⟨rfl, hD⟩
    replace hR := hR.trans hD.gro
    replace hH := hH.back0T hD
    clear hD
    refine HK_readP 7 (v := .bool (!u48)) rfl (by kernel_rfl) hQp (wantT (j := 3) (b := false) (t := 55) (c := u14.2.2.2.2.2 != u19.2.2.2.2.2) rfl rfl rfl rfl hb47) (fun s' K hK => o_not rfl hK) rfl rfl (fun _ => hR) ?_
    try dsimp only [putL, setL, evL, getL]
    refine HK_readP 8 (v := .bool (!u48)) rfl (by kernel_rfl) hQp rfl (fun s' K hK => o_pickF rfl hb47 hK) rfl rfl (fun _ => hR) ?_
    refine HK_readP 9 (v := .bool (!u48)) rfl (by kernel_rfl) hQp rfl (fun s' K hK => o_move hK) rfl rfl (fun _ => hR) ?_
    revert H
    refine it (fun hb49 H => ?_) (fun hb49 H => ?_)
    ·refine HK_passP 10 rfl (by kernel_rfl) (fun c l s h => hQp c l s h) ?_ (fun _ => hR) ?_
     ·exact wantF (j := 9) (b := false) (t := 61) (c := !u48) rfl rfl rfl rfl hb49
     try dsimp only [putL, setL, evL, getL]
     refine HK_passP 11 rfl (by kernel_rfl) (fun c l s h => hQp c l s h) ?_ (fun _ => hR) ?_
     ·exact wantF (j := 9) (b := false) (t := 61) (c := !u48) rfl rfl rfl rfl hb49
     refine HK_passP 12 rfl (by kernel_rfl) (fun c l s h => hQp c l s h) ?_ (fun _ => hR) ?_
     ·exact wantF (j := 9) (b := false) (t := 61) (c := !u48) rfl rfl rfl rfl hb49
     refine HK_passP 13 rfl (by kernel_rfl) (fun c l s h => hQp c l s h) ?_ (fun _ => hR) ?_
     ·exact wantF (j := 9) (b := false) (t := 61) (c := !u48) rfl rfl rfl rfl hb49
     try dsimp only [putL, setL, evL, getL]
     refine HK_passP 14 rfl (by kernel_rfl) (fun c l s h => hQp c l s h) ?_ (fun _ => hR) ?_
     ·exact wantF (j := 9) (b := false) (t := 61) (c := !u48) rfl rfl rfl rfl hb49
     refine HK_readP 15 (v := .bool true) rfl (by kernel_rfl) hQp rfl (fun s' K hK => o_pickT rfl hb49 hK) rfl rfl (fun _ => hR) ?_
     refine HK_done (fun _ => hR) (by kernel_rfl) ?_
     exact hK40 _ _ ⟨true, H, rfl, hH.sel [1, 0, 3, 2, 4] (by decide)⟩
    ·refine HK_read 10 (v := .agg #[.int .i64 u8.1, .int .i64 u8.2.1, .slice A9 u8.2.2.1.length c9, .int .i64 u8.2.2.2.1, .int .i64 u8.2.2.2.2.1]) rfl (by kernel_rfl) hQp (wantT (j := 9) (b := false) (t := 61) (c := !u48) rfl rfl rfl rfl hb49) (fun s' hR' K hK => o_loads' [.int .i64 u8.1, .int .i64 u8.2.1, .slice A9 u8.2.2.1.length c9, .int .i64 u8.2.2.2.1, .int .i64 u8.2.2.2.2.1] rfl Try.underlying66 rfl tI66 rfl (fun j v hj => has_gro hR' ((hH0.partv 2 rfl (0) [.int .i64 u8.1, .int .i64 u8.2.1, .slice A9 u8.2.2.1.length c9, .int .i64 u8.2.2.2.1, .int .i64 u8.2.2.2.2.1] rfl) j v hj)) hK) rfl rfl hR ?_
     try dsimp only [putL, setL, evL, getL]
     refine HK_read 12 (v := .agg #[.int .i64 u8.1, .int .i64 u8.2.1, .slice A9 u8.2.2.1.length c9, .int .i64 u8.2.2.2.1, .int .i64 u8.2.2.2.2.1]) rfl (by kernel_rfl) hQp (wantT (j := 9) (b := false) (t := 61) (c := !u48) rfl rfl rfl rfl hb49) (fun s' hR' K hK => o_loads' [.int .i64 u8.1, .int .i64 u8.2.1, .slice A9 u8.2.2.1.length c9, .int .i64 u8.2.2.2.1, .int .i64 u8.2.2.2.2.1] rfl Try.underlying66 rfl tI66 rfl (fun j v hj => has_gro hR' ((hH0.partv 2 rfl (0) [.int .i64 u8.1, .int .i64 u8.2.1, .slice A9 u8.2.2.1.length c9, .int .i64 u8.2.2.2.1, .int .i64 u8.2.2.2.2.1] rfl) j v hj)) hK) rfl rfl hR ?_
     refine HK_more [11] (by kernel_rfl) rfl (fun _ => hR) ⟨⟨_, rfl, Or.inl ⟨(wantT (j := 9) (b := false) (t := 61) (c := !u48) rfl rfl rfl rfl hb49), ?_⟩⟩, trivial⟩
     replace H := headE H
     obtain ⟨u50, hu50, H⟩ := H
     skip
     refine o_call (args := #[.agg #[.int .i64 u8.1, .int .i64 u8.2.1, .slice A9 u8.2.2.1.length c9, .int .i64 u8.2.2.2.1, .int .i64 u8.2.2.2.2.1]]) Try.func52 rfl rfl rfl (impl_GoodScreen.ok s48 s48 no u8.1 u8.2.1 A9 c9 u8.2.2.1 u8.2.2.2.1 u8.2.2.2.2.1 (hH.rd 0 rfl) (Hp.own (Bs.refl s48)) _ hu50) ?_
     rintro _ s50 ⟨rfl, hD⟩
     replace hR := hR.trans hD.gro
     replace hH := hH.back0T hD
     clear hD
     refine HK_more [13] (by kernel_rfl) rfl (fun _ => hR) ⟨⟨_, rfl, Or.inl ⟨(wantT (j := 9) (b := false) (t := 61) (c := !u48) rfl rfl rfl rfl hb49), ?_⟩⟩, trivial⟩
     replace H := headE H
     obtain ⟨u51, hu51, H⟩ := H
     skip
     refine o_call (args := #[.agg #[.int .i64 u8.1, .int .i64 u8.2.1, .slice A9 u8.2.2.1.length c9, .int .i64 u8.2.2.2.1, .int .i64 u8.2.2.2.2.1]]) Try.func53 rfl rfl rfl (spec_GoodScreen.ok s50 s50 no u8.1 u8.2.1 A9 c9 u8.2.2.1 u8.2.2.2.1 u8.2.2.2.2.1 (hH.rd 0 rfl) (Hp.own (Bs.refl s50)) _ hu51) ?_
     rintro _ s51 ⟨rfl, hD⟩
     replace hR := hR.trans hD.gro
     replace hH := hH.back0T hD
     clear hD
     try dsimp only [putL, setL, evL, getL]
     refine HK_readP 14 (v := .bool (u50 != u51)) rfl (by kernel_rfl) hQp (wantT (j := 9) (b := false) (t := 61) (c := !u48) rfl rfl rfl rfl hb49) (fun s' K hK => o_neb rfl rfl Try.underlying4 hK) rfl rfl (fun _ => hR) ?_
     refine HK_readP 15 (v := .bool (u50 != u51)) rfl (by kernel_rfl) hQp rfl (fun s' K hK => o_pickF rfl hb49 hK) rfl rfl (fun _ => hR) ?_
     refine HK_done (fun _ => hR) (by kernel_rfl) ?_
     exact hK40 _ _ ⟨u50 != u51, H, rfl, hH.sel [1, 0, 3, 2, 4] (by decide)⟩
  ·rintro l' s52 ⟨x46, H, hl, hH⟩
   revert l'
   refine skA ?_
   dsimp only [Al, Sk]
   intros
   replace H := hG40 _ H
   try dsimp only at H
   revert H
   refine ct rfl (fun hb53 H => ?_) (fun hb53 H => ?_)
   ·refine sr fun K54 hK54 => ?_
    try dsimp only [putL, setL, evL, getL]
    refine ag (HL_nil (hK54 _ _ ?_))
    dsimp only [putL, setL, evL, getL]
    refine HT_ret ?_
    exact hQr _ _ [.bool false] _ ⟨rfl, trivial⟩ H ⟨rfl, hH.sel [] (by decide)⟩
   ·refine HT_skip (hK39 _ _ ?_)
    refine joinH H fun G55 hG55 H => ?_
    refine HT_joinK (fun l' s' => G55 (.go ()) = some r ∧ skim [1] l' = ([.slice A1p p1.length c1p], 184) ∧ Hp sb s F0 s' []) ?_ ?_
    ·intro K55 hK55
     refine sr fun K168 hK168 => mv (HL_nil (hK168 _ _ ?_))
     dsimp only [putL, setL, evL, getL]
     revert H
     refine ct rfl (fun hb169 H => ?_) (fun hb169 H => ?_)
     ·refine sr fun K170 hK170 => mv ?_
      replace H := headE H
      obtain ⟨u171, hu171, H⟩ := H
      refine hc (o_call (args := #[.slice A1p p1.length c1p]) Try.func30 rfl rfl rfl (laws_numberOf.ok sb s52 no A1p c1p p1 HRp1 (Hp.own hH.bs) _ hu171) ?_)
      rintro _ s171 ⟨rfl, hD⟩
      replace hH := hH.back0 hD (Up.refl _ _ _)
      clear hD
      refine mv ?_
      dsimp only [putL, setL, evL, getL]
      refine hc (o_len rfl Try.underlying24 (bn rfl rfl rfl ?_))
      replace H := headE H
      obtain ⟨u172, hu172, H⟩ := H
      refine hc (o_rem' rfl rfl hu172 ?_)
      dsimp only [putL, setL, evL, getL]
      refine ag (HL_nil (hK170 _ _ ?_))
      dsimp only [putL, setL, evL, getL]
      refine joinH H fun G173 hG173 H => ?_
      refine HT_joinK (fun l' s' => ∃ (b183 : Nat) (x184 : Bool) (x185 : Int) (x186 : Int) (x187 : List (Int)) (A187 : Option Addr) (c187 : Nat) (x188 : Int) (x189 : Int), G173 (x184, x185, x186, x187, x188, x189) = some r ∧ skim [1, 3, 0, 0, 3, 0, 0] l' = ([.slice A1p p1.length c1p, .pointer (some ⟨b11, 0, none⟩), .slice A10 u8.2.2.2.2.2.length c10, .pointer (some ⟨b16, 0, none⟩), .int .i64 u172, .pointer (some ⟨b183, 0, none⟩), .bool x184], 172) ∧ Hp sb s F0 s' [Ck.ol OI 3 A187 c187 x187, Ck.ol OI 3 A10 c10 u8.2.2.2.2.2, Ck.ol OI 3 A9 c9 u8.2.2.1, Ck.ol OI 3 A15 c15 u14.2.2.1, Ck.ov b11 [.int .i64 u8.1, .int .i64 u8.2.1, .slice A9 u8.2.2.1.length c9, .int .i64 u8.2.2.2.1, .int .i64 u8.2.2.2.2.1] 66, Ck.ov b16 [.int .i64 u14.1, .int .i64 u14.2.1, .slice A15 u14.2.2.1.length c15, .int .i64 u14.2.2.2.1, .int .i64 u14.2.2.2.2.1] 66, Ck.ov b183 [.int .i64 x185, .int .i64 x186, .slice A187 x187.length c187, .int .i64 x188, .int .i64 x189] 66]) ?_ ?_
      ·intro K173 hK173
       refine HX_draw hMix ?_
       refine HX_lim (R := fun _ => True) (k := 0) (fun s' => Gro s171 s') 9 ?_
       have hR := Gro.refl s171
       have hH0 := hH
       refine HK_read 0 (v := .agg #[.int .i64 u8.1, .int .i64 u8.2.1, .slice A9 u8.2.2.1.length c9, .int .i64 u8.2.2.2.1, .int .i64 u8.2.2.2.2.1]) rfl (by kernel_rfl) hQp rfl (fun s' hR' K hK => o_loads' [.int .i64 u8.1, .int .i64 u8.2.1, .slice A9 u8.2.2.1.length c9, .int .i64 u8.2.2.2.1, .int .i64 u8.2.2.2.2.1] rfl Try.underlying66 rfl tI66 rfl (fun j v hj => has_gro hR' ((hH0.partv 3 rfl (0) [.int .i64 u8.1, .int .i64 u8.2.1, .slice A9 u8.2.2.1.length c9, .int .i64 u8.2.2.2.1, .int .i64 u8.2.2.2.2.1] rfl) j v hj)) hK) rfl rfl hR ?_
       try dsimp only [putL, setL, evL, getL]
       refine HK_readP 1 (v := .slice A10 u8.2.2.2.2.2.length c10) rfl (by kernel_rfl) hQp rfl (fun s' K hK => o_move hK) rfl rfl (fun _ => hR) ?_
       refine HK_readP 2 (v := .int .i64 u172) rfl (by kernel_rfl) hQp rfl (fun s' K hK => o_move hK) rfl rfl (fun _ => hR) ?_
       replace H := headE H
       obtain ⟨x190, hx190, H⟩ := H
       refine HK_readP 3 (v := .slice (cutA A10 c10 (Int.toNat 0) (Kd.sz KI)) x190.length (c10 - Int.toNat 0)) rfl (by kernel_rfl) hQp rfl (fun s' K hK => o_cutA (xs := u8.2.2.2.2.2) (kl := .i64) (kh := .i64) (L := 0) (H := u172) rfl rfl rfl Try.underlying24 tI3 (hH.rd 0 rfl).1 hx190 hK) rfl rfl (fun _ => hR) ?_
       have D190 := @Der.cut _ _ OI 3 A10 c10 _ _ _ _ hx190
       try dsimp only [putL, setL, evL, getL]
       refine HK_more [4, 8] (by kernel_rfl) rfl (fun _ => hR) ⟨⟨_, rfl, Or.inl ⟨rfl, ?_⟩⟩, ⟨_, rfl, Or.inl ⟨rfl, ?_⟩⟩, trivial⟩
       ·replace H := headE H
        obtain ⟨u191, hu191, H⟩ := H
        skip
        refine o_call (args := #[.agg #[.int .i64 u8.1, .int .i64 u8.2.1, .slice A9 u8.2.2.1.length c9, .int .i64 u8.2.2.2.1, .int .i64 u8.2.2.2.2.1], .slice (cutA A10 c10 (Int.toNat 0) (Kd.sz KI)) x190.length (c10 - Int.toNat 0)]) Try.func49 rfl rfl rfl (impl_PutRunes.ok s171 s171 no u8.1 u8.2.1 A9 c9 u8.2.2.1 u8.2.2.2.1 u8.2.2.2.2.1 (cutA A10 c10 (Int.toNat 0) (Kd.sz KI)) (c10 - Int.toNat 0) x190 (hH.rd 1 rfl) (D190 _ _ hH.bs (hH.ckP 0)) (Hp.own (Bs.refl s171)) _ hu191) ?_
        rintro _ s191 ⟨A192, c192, rfl, hD⟩
        replace hR := hR.trans hD.gro
        replace hH := hH.back0T hD
        clear hD
        refine HK_readP 5 (v := .tuple #[.agg #[.int .i64 u191.1, .int .i64 u191.2.1, .slice A192 u191.2.2.1.length c192, .int .i64 u191.2.2.2.1, .int .i64 u191.2.2.2.2.1], .bool u191.2.2.2.2.2]) rfl (by kernel_rfl) hQp rfl (fun s' K hK => o_move hK) rfl rfl (fun _ => hR) ?_
        refine HK_readP 6 (v := .agg #[.int .i64 u191.1, .int .i64 u191.2.1, .slice A192 u191.2.2.1.length c192, .int .i64 u191.2.2.2.1, .int .i64 u191.2.2.2.2.1]) rfl (by kernel_rfl) hQp rfl (fun s' K hK => o_extract rfl rfl hK) rfl rfl (fun _ => hR) ?_
        try dsimp only [putL, setL, evL, getL]
        refine HK_readP 7 (v := .bool u191.2.2.2.2.2) rfl (by kernel_rfl) hQp rfl (fun s' K hK => o_extract rfl rfl hK) rfl rfl (fun _ => hR) ?_
        refine HK_more [8] (by kernel_rfl) rfl (fun _ => hR) ⟨⟨_, rfl, Or.inl ⟨rfl, ?_⟩⟩, trivial⟩
        skip
        refine o_allocH hH tI66 ?_
        clear hH
        intro b193 s193 hH hG
        replace hR := hR.trans hG
        refine HK_more [9] (by kernel_rfl) rfl (fun _ => hR) ⟨⟨_, rfl, Or.inl ⟨rfl, ?_⟩⟩, trivial⟩
        skip
        refine o_stvH (vs := [.int .i64 u191.1, .int .i64 u191.2.1, .slice A192 u191.2.2.1.length c192, .int .i64 u191.2.2.2.1, .int .i64 u191.2.2.2.2.1]) (us' := [.int .i64 u191.1, .int .i64 u191.2.1, .slice A192 u191.2.2.1.length c192, .int .i64 u191.2.2.2.1, .int .i64 u191.2.2.2.2.1]) hH 6 rfl rfl rfl rfl rfl tI66 rfl (List.cons_ne_nil _ _) rfl rfl rfl ?_
        clear hH
        intro s194 hH
        try dsimp only [putL, setL, evL, getL]
        refine HK_free (by kernel_rfl) ?_
        refine HX_lim (R := fun _ => True) (k := 0) (fun s' => Gro s194 s') 12 ?_
        have hR := Gro.refl s194
        have hH0 := hH
        refine HK_more [10] (by kernel_rfl) rfl (fun _ => hR) ⟨⟨_, rfl, Or.inl ⟨rfl, ?_⟩⟩, trivial⟩
        skip
        refine o_assign ?_
        try dsimp only [putL, setL, evL, getL]
        refine HK_done (fun _ => hR) (by kernel_rfl) ?_
        exact hK173 _ _ ⟨b193, u191.2.2.2.2.2, u191.1, u191.2.1, u191.2.2.1, A192, c192, u191.2.2.2.1, u191.2.2.2.2.1, H, rfl, hH.sel [5, 0, 1, 2, 3, 4, 6] (by decide)⟩
       ·skip
        refine o_allocH hH tI66 ?_
        clear hH
        intro b195 s195 hH hG
        replace hR := hR.trans hG
        refine HK_more [4] (by kernel_rfl) rfl (fun _ => hR) ⟨⟨_, rfl, Or.inl ⟨rfl, ?_⟩⟩, trivial⟩
        replace H := headE H
        obtain ⟨u196, hu196, H⟩ := H
        skip
        refine o_call (args := #[.agg #[.int .i64 u8.1, .int .i64 u8.2.1, .slice A9 u8.2.2.1.length c9, .int .i64 u8.2.2.2.1, .int .i64 u8.2.2.2.2.1], .slice (cutA A10 c10 (Int.toNat 0) (Kd.sz KI)) x190.length (c10 - Int.toNat 0)]) Try.func49 rfl rfl rfl (impl_PutRunes.ok s195 s195 no u8.1 u8.2.1 A9 c9 u8.2.2.1 u8.2.2.2.1 u8.2.2.2.2.1 (cutA A10 c10 (Int.toNat 0) (Kd.sz KI)) (c10 - Int.toNat 0) x190 (hH.rd 1 rfl) (D190 _ _ hH.bs (hH.ckP 0)) (Hp.own (Bs.refl s195)) _ hu196) ?_
        rintro _ s196 ⟨A197, c197, rfl, hD⟩
        replace hR := hR.trans hD.gro
        replace hH := hH.back0T hD
        clear hD
        refine HK_readP 5 (v := .tuple #[.agg #[.int .i64 u196.1, .int .i64 u196.2.1, .slice A197 u196.2.2.1.length c197, .int .i64 u196.2.2.2.1, .int .i64 u196.2.2.2.2.1], .bool u196.2.2.2.2.2]) rfl (by kernel_rfl) hQp rfl (fun s' K hK => o_move hK) rfl rfl (fun _ => hR) ?_
        try dsimp only [putL, setL, evL, getL]
        refine HK_readP 6 (v := .agg #[.int .i64 u196.1, .int .i64 u196.2.1, .slice A197 u196.2.2.1.length c197, .int .i64 u196.2.2.2.1, .int .i64 u196.2.2.2.2.1]) rfl (by kernel_rfl) hQp rfl (fun s' K hK => o_extract rfl rfl hK) rfl rfl (fun _ => hR) ?_
        refine HK_readP 7 (v := .bool u196.2.2.2.2.2) rfl (by kernel_rfl) hQp rfl (fun s' K hK => o_extract rfl rfl hK) rfl rfl (fun _ => hR) ?_
        refine HK_more [9] (by kernel_rfl) rfl (fun _ => hR) ⟨⟨_, rfl, Or.inl ⟨rfl, ?_⟩⟩, trivial⟩
        skip
        refine o_stvH (vs := [.int .i64 u196.1, .int .i64 u196.2.1, .slice A197 u196.2.2.1.length c197, .int .i64 u196.2.2.2.1, .int .i64 u196.2.2.2.2.1]) (us' := [.int .i64 u196.1, .int .i64 u196.2.1, .slice A197 u196.2.2.1.length c197, .int .i64 u196.2.2.2.1, .int .i64 u196.2.2.2.2.1]) hH 5 rfl rfl rfl rfl rfl tI66 rfl (List.cons_ne_nil _ _) rfl rfl rfl ?_
        clear hH
        intro s198 hH
        try dsimp only [putL, setL, evL, getL]
        refine HK_free (by kernel_rfl) ?_
        refine HX_lim (R := fun _ => True) (k := 0) (fun s' => Gro s198 s') 12 ?_
        have hR := Gro.refl s198
        have hH0 := hH
        refine HK_more [10] (by kernel_rfl) rfl (fun _ => hR) ⟨⟨_, rfl, Or.inl ⟨rfl, ?_⟩⟩, trivial⟩
        skip
        refine o_assign ?_
        try dsimp only [putL, setL, evL, getL]
        refine HK_done (fun _ => hR) (by kernel_rfl) ?_
        exact hK173 _ _ ⟨b195, u196.2.2.2.2.2, u196.1, u196.2.1, u196.2.2.1, A197, c197, u196.2.2.2.1, u196.2.2.2.2.1, H, rfl, hH.sel [6, 0, 1, 2, 3, 4, 5] (by decide)⟩
      ·rintro l' s199 ⟨b183, x184, x185, x186, x187, A187, c187, x188, x189, H, hl, hH⟩
       revert l'
       refine skA ?_
       dsimp only [Al, Sk]
       intros
       replace H := hG173 _ H
       try dsimp only at H
       refine joinH H fun G200 hG200 H => ?_
       refine HT_joinK (fun l' s' => ∃ (b210 : Nat) (x211 : Bool) (x212 : Int) (x213 : Int) (x214 : List (Int)) (A214 : Option Addr) (c214 : Nat) (x215 : Int) (x216 : Int), G200 (x211, x212, x213, x214, x215, x216) = some r ∧ skim [1, 3, 1, 5, 0, 0] l' = ([.slice A1p p1.length c1p, .pointer (some ⟨b11, 0, none⟩), .pointer (some ⟨b16, 0, none⟩), .bool x184, .pointer (some ⟨b210, 0, none⟩), .bool x211], 170) ∧ Hp sb s F0 s' [Ck.ol OI 3 A214 c214 x214, Ck.ol OI 3 A9 c9 u8.2.2.1, Ck.ol OI 3 A15 c15 u14.2.2.1, Ck.ov b11 [.int .i64 u8.1, .int .i64 u8.2.1, .slice A9 u8.2.2.1.length c9, .int .i64 u8.2.2.2.1, .int .i64 u8.2.2.2.2.1] 66, Ck.ov b16 [.int .i64 u14.1, .int .i64 u14.2.1, .slice A15 u14.2.2.1.length c15, .int .i64 u14.2.2.2.1, .int .i64 u14.2.2.2.2.1] 66, Ck.ov b210 [.int .i64 x212, .int .i64 x213, .slice A214 x214.length c214, .int .i64 x215, .int .i64 x216] 66]) ?_ ?_
       ·intro K200 hK200
        refine HX_draw hMix ?_
        refine HX_lim (R := fun _ => True) (k := 0) (fun s' => Gro s199 s') 9 ?_
        have hR := Gro.refl s199
        have hH0 := hH
        try dsimp only [putL, setL, evL, getL]
        refine HK_read 0 (v := .agg #[.int .i64 x185, .int .i64 x186, .slice A187 x187.length c187, .int .i64 x188, .int .i64 x189]) rfl (by kernel_rfl) hQp rfl (fun s' hR' K hK => o_loads' [.int .i64 x185, .int .i64 x186, .slice A187 x187.length c187, .int .i64 x188, .int .i64 x189] rfl Try.underlying66 rfl tI66 rfl (fun j v hj => has_gro hR' ((hH0.partv 6 rfl (0) [.int .i64 x185, .int .i64 x186, .slice A187 x187.length c187, .int .i64 x188, .int .i64 x189] rfl) j v hj)) hK) rfl rfl hR ?_
        refine HK_readP 1 (v := .slice A10 u8.2.2.2.2.2.length c10) rfl (by kernel_rfl) hQp rfl (fun s' K hK => o_move hK) rfl rfl (fun _ => hR) ?_
        refine HK_readP 2 (v := .int .i64 u172) rfl (by kernel_rfl) hQp rfl (fun s' K hK => o_move hK) rfl rfl (fun _ => hR) ?_
        replace H := headE H
        obtain ⟨x217, hx217, H⟩ := H
        try dsimp only [putL, setL, evL, getL]
        refine HK_readP 3 (v := .slice (cutA A10 c10 (Int.toNat u172) (Kd.sz KI)) x217.length (c10 - Int.toNat u172)) rfl (by kernel_rfl) hQp rfl (fun s' K hK => o_cutA (xs := u8.2.2.2.2.2) (kl := .i64) (kh := .i64) (L := u172) (H := (u8.2.2.2.2.2.length : Int)) rfl rfl rfl Try.underlying24 tI3 (hH.rd 1 rfl).1 hx217 hK) rfl rfl (fun _ => hR) ?_
        have D217 := @Der.cut _ _ OI 3 A10 c10 _ _ _ _ hx217
        refine HK_more [4, 8] (by kernel_rfl) rfl (fun _ => hR) ⟨⟨_, rfl, Or.inl ⟨rfl, ?_⟩⟩, ⟨_, rfl, Or.inl ⟨rfl, ?_⟩⟩, trivial⟩
        ·replace H := headE H
         obtain ⟨u218, hu218, H⟩ := H
         skip
         refine o_call (args := #[.agg #[.int .i64 x185, .int .i64 x186, .slice A187 x187.length c187, .int .i64 x188, .int .i64 x189], .slice (cutA A10 c10 (Int.toNat u172) (Kd.sz KI)) x217.length (c10 - Int.toNat u172)]) Try.func49 rfl rfl rfl (impl_PutRunes.ok s199 s199 no x185 x186 A187 c187 x187 x188 x189 (cutA A10 c10 (Int.toNat u172) (Kd.sz KI)) (c10 - Int.toNat u172) x217 (hH.rd 0 rfl) (D217 _ _ hH.bs (hH.ckP 1)) (Hp.own (Bs.refl s199)) _ hu218) ?_
         rintro _ s218 ⟨A219, c219, rfl, hD⟩
         replace hR := hR.trans hD.gro
         replace hH := hH.back0T hD
         clear hD
         refine HK_readP 5 (v := .tuple #[.agg #[.int .i64 u218.1, .int .i64 u218.2.1, .slice A219 u218.2.2.1.length c219, .int .i64 u218.2.2.2.1, .int .i64 u218.2.2.2.2.1], .bool u218.2.2.2.2.2]) rfl (by kernel_rfl) hQp rfl (fun s' K hK => o_move hK) rfl rfl (fun _ => hR) ?_
         try dsimp only [putL, setL, evL, getL]
         refine HK_readP 6 (v := .agg #[.int .i64 u218.1, .int .i64 u218.2.1, .slice A219 u218.2.2.1.length c219, .int .i64 u218.2.2.2.1, .int .i64 u218.2.2.2.2.1]) rfl (by kernel_rfl) hQp rfl (fun s' K hK => o_extract rfl rfl hK) rfl rfl (fun _ => hR) ?_
         refine HK_readP 7 (v := .bool u218.2.2.2.2.2) rfl (by kernel_rfl) hQp rfl (fun s' K hK => o_extract rfl rfl hK) rfl rfl (fun _ => hR) ?_
         refine HK_more [8] (by kernel_rfl) rfl (fun _ => hR) ⟨⟨_, rfl, Or.inl ⟨rfl, ?_⟩⟩, trivial⟩
         skip
         refine o_allocH hH tI66 ?_
         clear hH
         intro b220 s220 hH hG
         replace hR := hR.trans hG
         try dsimp only [putL, setL, evL, getL]
         refine HK_more [9] (by kernel_rfl) rfl (fun _ => hR) ⟨⟨_, rfl, Or.inl ⟨rfl, ?_⟩⟩, trivial⟩
         skip
         refine o_stvH (vs := [.int .i64 u218.1, .int .i64 u218.2.1, .slice A219 u218.2.2.1.length c219, .int .i64 u218.2.2.2.1, .int .i64 u218.2.2.2.2.1]) (us' := [.int .i64 u218.1, .int .i64 u218.2.1, .slice A219 u218.2.2.1.length c219, .int .i64 u218.2.2.2.1, .int .i64 u218.2.2.2.2.1]) hH 8 rfl rfl rfl rfl rfl tI66 rfl (List.cons_ne_nil _ _) rfl rfl rfl ?_
         clear hH
         intro s221 hH
         refine HK_free (by kernel_rfl) ?_
         refine HX_lim (R := fun _ => True) (k := 0) (fun s' => Gro s221 s') 12 ?_
         have hR := Gro.refl s221
         have hH0 := hH
         try dsimp only [putL, setL, evL, getL]
         refine HK_more [10] (by kernel_rfl) rfl (fun _ => hR) ⟨⟨_, rfl, Or.inl ⟨rfl, ?_⟩⟩, trivial⟩
         skip
         refine o_assign ?_
         refine HK_done (fun _ => hR) (by kernel_rfl) ?_
         exact hK200 _ _ ⟨b220, u218.2.2.2.2.2, u218.1, u218.2.1, u218.2.2.1, A219, c219, u218.2.2.2.1, u218.2.2.2.2.1, H, rfl, hH.sel [7, 2, 3, 4, 5, 8] (by decide)⟩
        ·skip
         refine o_allocH hH tI66 ?_
         clear hH
         intro b222 s222 hH hG
         replace hR := hR.trans hG
         refine HK_more [4] (by kernel_rfl) rfl (fun _ => hR) ⟨⟨_, rfl, Or.inl ⟨rfl, ?_⟩⟩, trivial⟩
         replace H := headE H
         obtain ⟨u223, hu223, H⟩ := H
         skip
         refine o_call (args := #[.agg #[.int .i64 x185, .int .i64 x186, .slice A187 x187.length c187, .int .i64 x188, .int .i64 x189], .slice (cutA A10 c10 (Int.toNat u172) (Kd.sz KI)) x217.length (c10 - Int.toNat u172)]) Try.func49 rfl rfl rfl (impl_PutRunes.ok s222 s222 no x185 x186 A187 c187 x187 x188 x189 (cutA A10 c10 (Int.toNat u172) (Kd.sz KI)) (c10 - Int.toNat u172) x217 (hH.rd 0 rfl) (D217 _ _ hH.bs (hH.ckP 1)) (Hp.own (Bs.refl s222)) _ hu223) ?_
         rintro _ s223 ⟨A224, c224, rfl, hD⟩
         replace hR := hR.trans hD.gro
         replace hH := hH.back0T hD
         clear hD
         try dsimp only [putL, setL, evL, getL]
         refine HK_readP 5 (v := .tuple #[.agg #[.int .i64 u223.1, .int .i64 u223.2.1, .slice A224 u223.2.2.1.length c224, .int .i64 u223.2.2.2.1, .int .i64 u223.2.2.2.2.1], .bool u223.2.2.2.2.2]) rfl (by kernel_rfl) hQp rfl (fun s' K hK => o_move hK) rfl rfl (fun _ => hR) ?_
         refine HK_readP 6 (v := .agg #[.int .i64 u223.1, .int .i64 u223.2.1, .slice A224 u223.2.2.1.length c224, .int .i64 u223.2.2.2.1, .int .i64 u223.2.2.2.2.1]) rfl (by kernel_rfl) hQp rfl (fun s' K hK => o_extract rfl rfl hK) rfl rfl (fun _ => hR) ?_
         refine HK_readP 7 (v := .bool u223.2.2.2.2.2) rfl (by kernel_rfl) hQp rfl (fun s' K hK => o_extract rfl rfl hK) rfl rfl (fun _ => hR) ?_
         try dsimp only [putL, setL, evL, getL]
         refine HK_more [9] (by kernel_rfl) rfl (fun _ => hR) ⟨⟨_, rfl, Or.inl ⟨rfl, ?_⟩⟩, trivial⟩
         skip
         refine o_stvH (vs := [.int .i64 u223.1, .int .i64 u223.2.1, .slice A224 u223.2.2.1.length c224, .int .i64 u223.2.2.2.1, .int .i64 u223.2.2.2.2.1]) (us' := [.int .i64 u223.1, .int .i64 u223.2.1, .slice A224 u223.2.2.1.length c224, .int .i64 u223.2.2.2.1, .int .i64 u223.2.2.2.2.1]) hH 7 rfl rfl rfl rfl rfl tI66 rfl (List.cons_ne_nil _ _) rfl rfl rfl ?_
         clear hH
         intro s225 hH
         refine HK_free (by kernel_rfl) ?_
         refine HX_lim (R := fun _ => True) (k := 0) (fun s' => Gro s225 s') 12 ?_
         have hR := Gro.refl s225
         have hH0 := hH
         try dsimp only [putL, setL, evL, getL]
         refine HK_more [10] (by kernel_rfl) rfl (fun _ => hR) ⟨⟨_, rfl, Or.inl ⟨rfl, ?_⟩⟩, trivial⟩
         skip
         refine o_assign ?_
         refine HK_done (fun _ => hR) (by kernel_rfl) ?_
         exact hK200 _ _ ⟨b222, u223.2.2.2.2.2, u223.1, u223.2.1, u223.2.2.1, A224, c224, u223.2.2.2.1, u223.2.2.2.2.1, H, rfl, hH.sel [8, 2, 3, 4, 5, 7] (by decide)⟩
       ·rintro l' s226 ⟨b210, x211, x212, x213, x214, A214, c214, x215, x216, H, hl, hH⟩
        revert l'
        refine skA ?_
        dsimp only [Al, Sk]
        intros
        replace H := hG200 _ H
        try dsimp only at H
        refine HT_seq_k fun K243 hK243 => ?_
        refine joinH H fun G244 hG244 H => ?_
        refine HT_joinK (fun l' s' => ∃ (x250 : Bool), G244 x250 = some r ∧ skim [1, 3, 1, 99] l' = ([.slice A1p p1.length c1p, .pointer (some ⟨b11, 0, none⟩), .pointer (some ⟨b16, 0, none⟩), .bool x250], 78) ∧ Hp sb s F0 s' [Ck.ol OI 3 A9 c9 u8.2.2.1, Ck.ol OI 3 A15 c15 u14.2.2.1, Ck.ov b11 [.int .i64 u8.1, .int .i64 u8.2.1, .slice A9 u8.2.2.1.length c9, .int .i64 u8.2.2.2.1, .int .i64 u8.2.2.2.2.1] 66, Ck.ov b16 [.int .i64 u14.1, .int .i64 u14.2.1, .slice A15 u14.2.2.1.length c15, .int .i64 u14.2.2.2.1, .int .i64 u14.2.2.2.2.1] 66]) ?_ ?_
        ·intro K244 hK244
         refine HT_region ?_
         refine mv ?_
         dsimp only [putL, setL, evL, getL]
         refine hc (o_not rfl (mv ?_))
         revert H
         refine it (fun hb251 H => ?_) (fun hb251 H => ?_)
         ·refine wf rfl rfl rfl rfl hb251 ?_
          dsimp only [putL, setL, evL, getL]
          refine wf rfl rfl rfl rfl hb251 (hc (o_pickT rfl hb251 (mv ?_)))
          dsimp only [putL, setL, evL, getL]
          refine wf rfl rfl rfl rfl rfl (wf rfl rfl rfl rfl rfl (wf rfl rfl rfl rfl rfl ?_))
          dsimp only [putL, setL, evL, getL]
          refine wf rfl rfl rfl rfl rfl (hc (o_pickT rfl rfl (mv ?_)))
          dsimp only [putL, setL, evL, getL]
          refine wf rfl rfl rfl rfl rfl (wf rfl rfl rfl rfl rfl (wf rfl rfl rfl rfl rfl ?_))
          dsimp only [putL, setL, evL, getL]
          refine hc (o_pickT rfl rfl (HL_nil ?_))
          exact hK244 _ _ ⟨true, H, rfl, hH.sel [1, 2, 3, 4] (by decide)⟩
         ·refine wt rfl rfl rfl rfl hb251 (o_move (wt rfl rfl rfl rfl hb251 (o_not rfl ?_)))
          dsimp only [putL, setL, evL, getL]
          refine hc (o_pickF rfl hb251 (mv ?_))
          revert H
          refine it (fun hb252 H => ?_) (fun hb252 H => ?_)
          ·refine wf rfl rfl rfl rfl hb252 ?_
           dsimp only [putL, setL, evL, getL]
           refine wf rfl rfl rfl rfl hb252 (wf rfl rfl rfl rfl hb252 (wf rfl rfl rfl rfl hb252 ?_))
           dsimp only [putL, setL, evL, getL]
           refine hc (o_pickT rfl hb252 (mv (wf rfl rfl rfl rfl rfl ?_)))
           dsimp only [putL, setL, evL, getL]
           refine wf rfl rfl rfl rfl rfl (wf rfl rfl rfl rfl rfl (hc (o_pickT rfl rfl (HL_nil ?_))))
           exact hK244 _ _ ⟨true, H, rfl, hH.sel [1, 2, 3, 4] (by decide)⟩
          ·refine wt rfl rfl rfl rfl hb252 (o_loads' [.int .i64 x212, .int .i64 x213, .slice A214 x214.length c214, .int .i64 x215, .int .i64 x216] rfl Try.underlying66 rfl tI66 rfl (hH.partv 5 rfl (0) [.int .i64 x212, .int .i64 x213, .slice A214 x214.length c214, .int .i64 x215, .int .i64 x216] rfl) ?_)
           dsimp only [putL, setL, evL, getL]
           refine wt rfl rfl rfl rfl hb252 (o_loads' [.int .i64 u14.1, .int .i64 u14.2.1, .slice A15 u14.2.2.1.length c15, .int .i64 u14.2.2.2.1, .int .i64 u14.2.2.2.2.1] rfl Try.underlying66 rfl tI66 rfl (hH.partv 4 rfl (0) [.int .i64 u14.1, .int .i64 u14.2.1, .slice A15 u14.2.2.1.length c15, .int .i64 u14.2.2.2.1, .int .i64 u14.2.2.2.2.1] rfl) ?_)
           replace H := headE H
           obtain ⟨u253, hu253, H⟩ := H
           refine wt rfl rfl rfl rfl hb252 (o_call (args := #[.agg #[.int .i64 x212, .int .i64 x213, .slice A214 x214.length c214, .int .i64 x215, .int .i64 x216], .agg #[.int .i64 u14.1, .int .i64 u14.2.1, .slice A15 u14.2.2.1.length c15, .int .i64 u14.2.2.2.1, .int .i64 u14.2.2.2.2.1]]) Try.func51 rfl rfl rfl (laws_sameScreen.ok s226 s226 no x212 x213 A214 c214 x214 x215 x216 u14.1 u14.2.1 A15 c15 u14.2.2.1 u14.2.2.2.1 u14.2.2.2.2.1 (hH.rd 0 rfl) (hH.rd 2 rfl) (Hp.own (Bs.refl s226)) _ hu253) ?_)
           rintro _ s253 ⟨rfl, hD⟩
           replace hH := hH.back0T hD
           clear hD
           refine wt rfl rfl rfl rfl hb252 (o_not rfl ?_)
           dsimp only [putL, setL, evL, getL]
           refine hc (o_pickF rfl hb252 (mv ?_))
           revert H
           refine it (fun hb254 H => ?_) (fun hb254 H => ?_)
           ·refine wf rfl rfl rfl rfl hb254 ?_
            dsimp only [putL, setL, evL, getL]
            refine wf rfl rfl rfl rfl hb254 (wf rfl rfl rfl rfl hb254 (hc (o_pickT rfl hb254 (HL_nil ?_))))
            exact hK244 _ _ ⟨true, H, rfl, hH.sel [1, 2, 3, 4] (by decide)⟩
           ·refine wt rfl rfl rfl rfl hb254 (o_loads' [.int .i64 u14.1, .int .i64 u14.2.1, .slice A15 u14.2.2.1.length c15, .int .i64 u14.2.2.2.1, .int .i64 u14.2.2.2.2.1] rfl Try.underlying66 rfl tI66 rfl (hH.partv 4 rfl (0) [.int .i64 u14.1, .int .i64 u14.2.1, .slice A15 u14.2.2.1.length c15, .int .i64 u14.2.2.2.1, .int .i64 u14.2.2.2.2.1] rfl) ?_)
            replace H := headE H
            obtain ⟨u255, hu255, H⟩ := H
            try dsimp only [putL, setL, evL, getL]
            refine wt rfl rfl rfl rfl hb254 (o_call (args := #[.agg #[.int .i64 u14.1, .int .i64 u14.2.1, .slice A15 u14.2.2.1.length c15, .int .i64 u14.2.2.2.1, .int .i64 u14.2.2.2.2.1]]) Try.func52 rfl rfl rfl (impl_GoodScreen.ok s253 s253 no u14.1 u14.2.1 A15 c15 u14.2.2.1 u14.2.2.2.1 u14.2.2.2.2.1 (hH.rd 2 rfl) (Hp.own (Bs.refl s253)) _ hu255) ?_)
            rintro _ s255 ⟨rfl, hD⟩
            replace hH := hH.back0T hD
            clear hD
            refine wt rfl rfl rfl rfl hb254 (o_not rfl (hc (o_pickF rfl hb254 (HL_nil ?_))))
            exact hK244 _ _ ⟨!u255, H, rfl, hH.sel [1, 2, 3, 4] (by decide)⟩
        ·rintro l' s256 ⟨x250, H, hl, hH⟩
         revert l'
         refine skA ?_
         dsimp only [Al, Sk]
         intros
         replace H := hG244 _ H
         try dsimp only at H
         revert H
         refine ct rfl (fun hb257 H => ?_) (fun hb257 H => ?_)
         ·refine sr fun K258 hK258 => ?_
          try dsimp only [putL, setL, evL, getL]
          refine ag (HL_nil (hK258 _ _ ?_))
          dsimp only [putL, setL, evL, getL]
          refine HT_ret ?_
          replace H := escH (fun z hz => hG55 _ hz) H
          exact hQr _ _ [.bool false] _ ⟨rfl, trivial⟩ H ⟨rfl, hH.sel [] (by decide)⟩
         ·refine HT_skip (hK243 _ _ (sr fun K259 hK259 => (hc (o_loads' [.int .i64 u14.1, .int .i64 u14.2.1, .slice A15 u14.2.2.1.length c15, .int .i64 u14.2.2.2.1, .int .i64 u14.2.2.2.2.1] rfl Try.underlying66 rfl tI66 rfl (hH.partv 3 rfl (0) [.int .i64 u14.1, .int .i64 u14.2.1, .slice A15 u14.2.2.1.length c15, .int .i64 u14.2.2.2.1, .int .i64 u14.2.2.2.2.1] rfl) ?_))))
          replace H := headE H
          obtain ⟨u260, hu260, H⟩ := H
          refine hc (o_call (args := #[.agg #[.int .i64 u14.1, .int .i64 u14.2.1, .slice A15 u14.2.2.1.length c15, .int .i64 u14.2.2.2.1, .int .i64 u14.2.2.2.2.1], .int .i64 12]) Try.func54 rfl rfl rfl (impl_PutRune.ok s256 s256 no u14.1 u14.2.1 A15 c15 u14.2.2.1 u14.2.2.2.1 u14.2.2.2.2.1 12 (hH.rd 1 rfl) (Hp.own (Bs.refl s256)) _ hu260) ?_)
          rintro _ s260 ⟨A261, c261, rfl, hD⟩
          replace hH := hH.back0T hD
          clear hD
          refine mv ?_
          dsimp only [putL, setL, evL, getL]
          refine hc (o_extract rfl rfl (hc (o_extract rfl rfl (hc (o_allocH hH tI66 ?_)))))
          clear hH
          intro b262 s262 hH _
          try dsimp only [putL, setL, evL, getL]
          refine hc (o_stvH (vs := [.int .i64 u260.1, .int .i64 u260.2.1, .slice A261 u260.2.2.1.length c261, .int .i64 u260.2.2.2.1, .int .i64 u260.2.2.2.2.1]) (us' := [.int .i64 u260.1, .int .i64 u260.2.1, .slice A261 u260.2.2.1.length c261, .int .i64 u260.2.2.2.1, .int .i64 u260.2.2.2.2.1]) hH 5 rfl rfl rfl rfl rfl tI66 rfl (List.cons_ne_nil _ _) rfl rfl rfl ?_)
          clear hH
          intro s263 hH
          refine ag (HL_nil (hK259 _ _ ?_))
          dsimp only [putL, setL, evL, getL]
          refine sr fun K264 hK264 => hc (o_faddr' (ft := 3) (off := 0) rfl Try.underlying66 rfl tI3 (by decide) (hc (o_load' rfl Try.underlying3 rfl (hH.hasv 2 rfl rfl) (hc (o_faddr' (ft := 3) (off := 1) rfl Try.underlying66 rfl tI3 (by decide) ?_)))))
          dsimp only [putL, setL, evL, getL]
          refine hc (o_load' rfl Try.underlying3 rfl (hH.hasv 2 rfl rfl) ?_)
          replace H := headE H
          obtain ⟨u265, hu265, H⟩ := H
          refine hc (o_call (args := #[.int .i64 u8.1, .int .i64 u8.2.1]) Try.func55 rfl rfl rfl (impl_NewScreen.ok sb s263 no u8.1 u8.2.1 (Hp.own hH.bs) _ hu265) ?_)
          rintro _ s265 ⟨A266, c266, rfl, hD⟩
          replace hH := hH.back0 hD (Up.refl _ _ _)
          clear hD
          refine mv ?_
          dsimp only [putL, setL, evL, getL]
          refine hc (o_extract rfl rfl (hc (o_extract rfl rfl (hc (o_allocH hH tI66 ?_)))))
          clear hH
          intro b267 s267 hH _
          try dsimp only [putL, setL, evL, getL]
          refine hc (o_stvH (vs := [.int .i64 u265.1, .int .i64 u265.2.1, .slice A266 u265.2.2.1.length c266, .int .i64 u265.2.2.2.1, .int .i64 u265.2.2.2.2.1]) (us' := [.int .i64 u265.1, .int .i64 u265.2.1, .slice A266 u265.2.2.1.length c266, .int .i64 u265.2.2.2.1, .int .i64 u265.2.2.2.2.1]) hH 7 rfl rfl rfl rfl rfl tI66 rfl (List.cons_ne_nil _ _) rfl rfl rfl ?_)
          clear hH
          intro s268 hH
          refine ag (HL_nil (hK264 _ _ ?_))
          dsimp only [putL, setL, evL, getL]
          refine joinH H fun G269 hG269 H => ?_
          refine HT_joinK (fun l' s' => ∃ (x273 : Bool), G269 x273 = some r ∧ skim [1, 130] l' = ([.slice A1p p1.length c1p, .bool x273], 53) ∧ Hp sb s F0 s' []) ?_ ?_
          ·intro K269 hK269
           refine HT_region ?_
           refine mv (hc (o_not rfl (mv ?_)))
           revert H
           refine it (fun hb274 H => ?_) (fun hb274 H => ?_)
           ·refine wf rfl rfl rfl rfl hb274 ?_
            dsimp only [putL, setL, evL, getL]
            refine wf rfl rfl rfl rfl hb274 (hc (o_pickT rfl hb274 (mv ?_)))
            dsimp only [putL, setL, evL, getL]
            refine wf rfl rfl rfl rfl rfl (wf rfl rfl rfl rfl rfl (wf rfl rfl rfl rfl rfl ?_))
            dsimp only [putL, setL, evL, getL]
            refine wf rfl rfl rfl rfl rfl (hc (o_pickT rfl rfl (HL_nil ?_)))
            exact hK269 _ _ ⟨true, H, rfl, hH.sel [] (by decide)⟩
           ·refine wt rfl rfl rfl rfl hb274 (o_move ?_)
            dsimp only [putL, setL, evL, getL]
            refine wt rfl rfl rfl rfl hb274 (o_not rfl (hc (o_pickF rfl hb274 (mv ?_))))
            revert H
            refine it (fun hb275 H => ?_) (fun hb275 H => ?_)
            ·refine wf rfl rfl rfl rfl hb275 ?_
             dsimp only [putL, setL, evL, getL]
             refine wf rfl rfl rfl rfl hb275 (wf rfl rfl rfl rfl hb275 (wf rfl rfl rfl rfl hb275 ?_))
             dsimp only [putL, setL, evL, getL]
             refine hc (o_pickT rfl hb275 (HL_nil ?_))
             exact hK269 _ _ ⟨true, H, rfl, hH.sel [] (by decide)⟩
            ·refine wt rfl rfl rfl rfl hb275 (o_loads' [.int .i64 u260.1, .int .i64 u260.2.1, .slice A261 u260.2.2.1.length c261, .int .i64 u260.2.2.2.1, .int .i64 u260.2.2.2.2.1] rfl Try.underlying66 rfl tI66 rfl (hH.partv 5 rfl (0) [.int .i64 u260.1, .int .i64 u260.2.1, .slice A261 u260.2.2.1.length c261, .int .i64 u260.2.2.2.1, .int .i64 u260.2.2.2.2.1] rfl) (wt rfl rfl rfl rfl hb275 (o_loads' [.int .i64 u265.1, .int .i64 u265.2.1, .slice A266 u265.2.2.1.length c266, .int .i64 u265.2.2.2.1, .int .i64 u265.2.2.2.2.1] rfl Try.underlying66 rfl tI66 rfl (hH.partv 7 rfl (0) [.int .i64 u265.1, .int .i64 u265.2.1, .slice A266 u265.2.2.1.length c266, .int .i64 u265.2.2.2.1, .int .i64 u265.2.2.2.2.1] rfl) ?_)))
             replace H := headE H
             obtain ⟨u276, hu276, H⟩ := H
             try dsimp only [putL, setL, evL, getL]
             refine wt rfl rfl rfl rfl hb275 (o_call (args := #[.agg #[.int .i64 u260.1, .int .i64 u260.2.1, .slice A261 u260.2.2.1.length c261, .int .i64 u260.2.2.2.1, .int .i64 u260.2.2.2.2.1], .agg #[.int .i64 u265.1, .int .i64 u265.2.1, .slice A266 u265.2.2.1.length c266, .int .i64 u265.2.2.2.1, .int .i64 u265.2.2.2.2.1]]) Try.func51 rfl rfl rfl (laws_sameScreen.ok s268 s268 no u260.1 u260.2.1 A261 c261 u260.2.2.1 u260.2.2.2.1 u260.2.2.2.2.1 u265.1 u265.2.1 A266 c266 u265.2.2.1 u265.2.2.2.1 u265.2.2.2.2.1 (hH.rd 4 rfl) (hH.rd 6 rfl) (Hp.own (Bs.refl s268)) _ hu276) ?_)
             rintro _ s276 ⟨rfl, hD⟩
             replace hH := hH.back0T hD
             clear hD
             refine wt rfl rfl rfl rfl hb275 (o_not rfl (hc (o_pickF rfl hb275 (HL_nil ?_))))
             exact hK269 _ _ ⟨!u276, H, rfl, hH.sel [] (by decide)⟩
          ·rintro l' s277 ⟨x273, H, hl, hH⟩
           revert l'
           refine skA ?_
           dsimp only [Al, Sk]
           intros
           replace H := hG269 _ H
           try dsimp only at H
           revert H
           refine ct rfl (fun hb278 H => ?_) (fun hb278 H => ?_)
           ·refine sr fun K279 hK279 => ?_
            try dsimp only [putL, setL, evL, getL]
            refine ag (HL_nil (hK279 _ _ ?_))
            dsimp only [putL, setL, evL, getL]
            refine HT_ret ?_
            replace H := escH (fun z hz => hG55 _ hz) H
            exact hQr _ _ [.bool false] _ ⟨rfl, trivial⟩ H ⟨rfl, hH⟩
           ·refine HT_skip ?_
            exact hK55 _ _ ⟨H, rfl, hH⟩
     ·refine HT_skip ?_
      exact hK55 _ _ ⟨H, rfl, hH.sel [] (by decide)⟩
    ·rintro l' s280 ⟨H, hl, hH⟩
     revert l'
     refine skA ?_
     dsimp only [Al, Sk]
     intros
     replace H := hG55 _ H
     try dsimp only at H
     refine sr fun K281 hK281 => mv ?_
     replace H := headE H
     obtain ⟨u282, hu282, H⟩ := H
     refine hc (o_call (args := #[.slice A1p p1.length c1p]) Try.func56 rfl rfl rfl (spec_DrawPutRune.ok sb s280 no A1p c1p p1 HRp1 (Hp.own hH.bs) _ hu282) ?_)
     rintro _ s282 ⟨A283, c283, rfl, hD⟩
     replace hH := hH.back0 hD (Up.refl _ _ _)
     clear hD
     refine mv ?_
     dsimp only [putL, setL, evL, getL]
     refine hc (o_extract rfl rfl (hc (o_extract rfl rfl (hc (o_allocH hH tI66 ?_)))))
     clear hH
     intro b284 s284 hH _
     try dsimp only [putL, setL, evL, getL]
     refine hc (o_stvH (vs := [.int .i64 u282.1, .int .i64 u282.2.1, .slice A283 u282.2.2.1.length c283, .int .i64 u282.2.2.2.1, .int .i64 u282.2.2.2.2.1]) (us' := [.int .i64 u282.1, .int .i64 u282.2.1, .slice A283 u282.2.2.1.length c283, .int .i64 u282.2.2.2.1, .int .i64 u282.2.2.2.2.1]) hH 1 rfl rfl rfl rfl rfl tI66 rfl (List.cons_ne_nil _ _) rfl rfl rfl ?_)
     clear hH
     intro s285 hH
     refine ag (HL_nil (hK281 _ _ ?_))
     dsimp only [putL, setL, evL, getL]
     refine sr fun K286 hK286 => hc (o_loads' [.int .i64 u282.1, .int .i64 u282.2.1, .slice A283 u282.2.2.1.length c283, .int .i64 u282.2.2.2.1, .int .i64 u282.2.2.2.2.1] rfl Try.underlying66 rfl tI66 rfl (hH.partv 1 rfl (0) [.int .i64 u282.1, .int .i64 u282.2.1, .slice A283 u282.2.2.1.length c283, .int .i64 u282.2.2.2.1, .int .i64 u282.2.2.2.2.1] rfl) (mv ?_))
     replace H := headE H
     obtain ⟨u287, hu287, H⟩ := H
     refine hc (o_call (args := #[.agg #[.int .i64 u282.1, .int .i64 u282.2.1, .slice A283 u282.2.2.1.length c283, .int .i64 u282.2.2.2.1, .int .i64 u282.2.2.2.2.1], .int .i64 u282.2.2.2.2.2]) Try.func54 rfl rfl rfl (impl_PutRune.ok s285 s285 no u282.1 u282.2.1 A283 c283 u282.2.2.1 u282.2.2.2.1 u282.2.2.2.2.1 u282.2.2.2.2.2 (hH.rd 0 rfl) (Hp.own (Bs.refl s285)) _ hu287) ?_)
     rintro _ s287 ⟨A288, c288, rfl, hD⟩
     replace hH := hH.back0T hD
     clear hD
     try dsimp only [putL, setL, evL, getL]
     refine mv (hc (o_extract rfl rfl (hc (o_extract rfl rfl ?_))))
     dsimp only [putL, setL, evL, getL]
     refine hc (o_allocH hH tI66 ?_)
     clear hH
     intro b289 s289 hH _
     refine hc (o_stvH (vs := [.int .i64 u287.1, .int .i64 u287.2.1, .slice A288 u287.2.2.1.length c288, .int .i64 u287.2.2.2.1, .int .i64 u287.2.2.2.2.1]) (us' := [.int .i64 u287.1, .int .i64 u287.2.1, .slice A288 u287.2.2.1.length c288, .int .i64 u287.2.2.2.1, .int .i64 u287.2.2.2.2.1]) hH 3 rfl rfl rfl rfl rfl tI66 rfl (List.cons_ne_nil _ _) rfl rfl rfl ?_)
     clear hH
     intro s290 hH
     refine ag (HL_nil (hK286 _ _ ?_))
     dsimp only [putL, setL, evL, getL]
     refine sr fun K291 hK291 => hc (o_loads' [.int .i64 u282.1, .int .i64 u282.2.1, .slice A283 u282.2.2.1.length c283, .int .i64 u282.2.2.2.1, .int .i64 u282.2.2.2.2.1] rfl Try.underlying66 rfl tI66 rfl (hH.partv 1 rfl (0) [.int .i64 u282.1, .int .i64 u282.2.1, .slice A283 u282.2.2.1.length c283, .int .i64 u282.2.2.2.1, .int .i64 u282.2.2.2.2.1] rfl) (mv ?_))
     replace H := headE H
     obtain ⟨u292, hu292, H⟩ := H
     refine hc (o_call (args := #[.agg #[.int .i64 u282.1, .int .i64 u282.2.1, .slice A283 u282.2.2.1.length c283, .int .i64 u282.2.2.2.1, .int .i64 u282.2.2.2.2.1], .int .i64 u282.2.2.2.2.2]) Try.func57 rfl rfl rfl (spec_PutRune.ok s290 s290 no u282.1 u282.2.1 A283 c283 u282.2.2.1 u282.2.2.2.1 u282.2.2.2.2.1 u282.2.2.2.2.2 (hH.rd 0 rfl) (Hp.own (Bs.refl s290)) _ hu292) ?_)
     rintro _ s292 ⟨A293, c293, rfl, hD⟩
     replace hH := hH.back0T hD
     clear hD
     try dsimp only [putL, setL, evL, getL]
     refine mv (hc (o_extract rfl rfl (hc (o_extract rfl rfl ?_))))
     dsimp only [putL, setL, evL, getL]
     refine hc (o_allocH hH tI66 ?_)
     clear hH
     intro b294 s294 hH _
     refine hc (o_stvH (vs := [.int .i64 u292.1, .int .i64 u292.2.1, .slice A293 u292.2.2.1.length c293, .int .i64 u292.2.2.2.1, .int .i64 u292.2.2.2.2.1]) (us' := [.int .i64 u292.1, .int .i64 u292.2.1, .slice A293 u292.2.2.1.length c293, .int .i64 u292.2.2.2.1, .int .i64 u292.2.2.2.2.1]) hH 5 rfl rfl rfl rfl rfl tI66 rfl (List.cons_ne_nil _ _) rfl rfl rfl ?_)
     clear hH
     intro s295 hH
     refine ag (HL_nil (hK291 _ _ ?_))
     dsimp only [putL, setL, evL, getL]
     refine sr fun K296 hK296 => mv ?_
     replace H := headE H
     obtain ⟨u297, hu297, H⟩ := H
     refine hc (o_call (args := #[.slice A1p p1.length c1p]) Try.func58 rfl rfl rfl (spec_DrawNewScreen.ok sb s295 no A1p c1p p1 HRp1 (Hp.own hH.bs) _ hu297) ?_)
     rintro _ s297 ⟨rfl, hD⟩
     replace hH := hH.back0 hD (Up.refl _ _ _)
     clear hD
     refine mv ?_
     dsimp only [putL, setL, evL, getL]
     refine hc (o_extract rfl rfl (hc (o_extract rfl rfl (ag ?_))))
     dsimp only [putL, setL, evL, getL]
     refine ag (HL_nil (hK296 _ _ ?_))
     dsimp only [putL, setL, evL, getL]
     refine sr fun K298 hK298 => mv (mv ?_)
     replace H := headE H
     obtain ⟨u299, hu299, H⟩ := H
     refine hc (o_call (args := #[.int .i64 u297.1, .int .i64 u297.2]) Try.func55 rfl rfl rfl (impl_NewScreen.ok sb s297 no u297.1 u297.2 (Hp.own hH.bs) _ hu299) ?_)
     rintro _ s299 ⟨A300, c300, rfl, hD⟩
     replace hH := hH.back0 hD (Up.refl _ _ _)
     clear hD
     try dsimp only [putL, setL, evL, getL]
     refine mv (hc (o_extract rfl rfl (hc (o_extract rfl rfl ?_))))
     dsimp only [putL, setL, evL, getL]
     refine hc (o_allocH hH tI66 ?_)
     clear hH
     intro b301 s301 hH _
     refine hc (o_stvH (vs := [.int .i64 u299.1, .int .i64 u299.2.1, .slice A300 u299.2.2.1.length c300, .int .i64 u299.2.2.2.1, .int .i64 u299.2.2.2.2.1]) (us' := [.int .i64 u299.1, .int .i64 u299.2.1, .slice A300 u299.2.2.1.length c300, .int .i64 u299.2.2.2.1, .int .i64 u299.2.2.2.2.1]) hH 7 rfl rfl rfl rfl rfl tI66 rfl (List.cons_ne_nil _ _) rfl rfl rfl ?_)
     clear hH
     intro s302 hH
     refine ag (HL_nil (hK298 _ _ ?_))
     dsimp only [putL, setL, evL, getL]
     refine sr fun K303 hK303 => mv (mv ?_)
     replace H := headE H
     obtain ⟨u304, hu304, H⟩ := H
     refine hc (o_call (args := #[.int .i64 u297.1, .int .i64 u297.2]) Try.func59 rfl rfl rfl (spec_NewScreen.ok sb s302 no u297.1 u297.2 (Hp.own hH.bs) _ hu304) ?_)
     rintro _ s304 ⟨A305, c305, rfl, hD⟩
     replace hH := hH.back0 hD (Up.refl _ _ _)
     clear hD
     try dsimp only [putL, setL, evL, getL]
     refine mv (hc (o_extract rfl rfl (hc (o_extract rfl rfl ?_))))
     dsimp only [putL, setL, evL, getL]
     refine hc (o_allocH hH tI66 ?_)
     clear hH
     intro b306 s306 hH _
     refine hc (o_stvH (vs := [.int .i64 u304.1, .int .i64 u304.2.1, .slice A305 u304.2.2.1.length c305, .int .i64 u304.2.2.2.1, .int .i64 u304.2.2.2.2.1]) (us' := [.int .i64 u304.1, .int .i64 u304.2.1, .slice A305 u304.2.2.1.length c305, .int .i64 u304.2.2.2.1, .int .i64 u304.2.2.2.2.1]) hH 9 rfl rfl rfl rfl rfl tI66 rfl (List.cons_ne_nil _ _) rfl rfl rfl ?_)
     clear hH
     intro s307 hH
     refine ag (HL_nil (hK303 _ _ ?_))
     dsimp only [putL, setL, evL, getL]
     refine sr fun K308 hK308 => mv (mv (hc (o_eqb rfl rfl Try.underlying4 ?_)))
     dsimp only [putL, setL, evL, getL]
     refine mv ?_
     revert H
     refine it (fun hb309 H => ?_) (fun hb309 H => ?_)
     ·refine wt rfl rfl rfl rfl hb309 (o_loads' [.int .i64 u287.1, .int .i64 u287.2.1, .slice A288 u287.2.2.1.length c288, .int .i64 u287.2.2.2.1, .int .i64 u287.2.2.2.2.1] rfl Try.underlying66 rfl tI66 rfl (hH.partv 3 rfl (0) [.int .i64 u287.1, .int .i64 u287.2.1, .slice A288 u287.2.2.1.length c288, .int .i64 u287.2.2.2.1, .int .i64 u287.2.2.2.2.1] rfl) (wt rfl rfl rfl rfl hb309 (o_loads' [.int .i64 u292.1, .int .i64 u292.2.1, .slice A293 u292.2.2.1.length c293, .int .i64 u292.2.2.2.1, .int .i64 u292.2.2.2.2.1] rfl Try.underlying66 rfl tI66 rfl (hH.partv 5 rfl (0) [.int .i64 u292.1, .int .i64 u292.2.1, .slice A293 u292.2.2.1.length c293, .int .i64 u292.2.2.2.1, .int .i64 u292.2.2.2.2.1] rfl) ?_)))
      replace H := headE H
      obtain ⟨u310, hu310, H⟩ := H
      try dsimp only [putL, setL, evL, getL]
      refine wt rfl rfl rfl rfl hb309 (o_call (args := #[.agg #[.int .i64 u287.1, .int .i64 u287.2.1, .slice A288 u287.2.2.1.length c288, .int .i64 u287.2.2.2.1, .int .i64 u287.2.2.2.2.1], .agg #[.int .i64 u292.1, .int .i64 u292.2.1, .slice A293 u292.2.2.1.length c293, .int .i64 u292.2.2.2.1, .int .i64 u292.2.2.2.2.1]]) Try.func51 rfl rfl rfl (laws_sameScreen.ok s307 s307 no u287.1 u287.2.1 A288 c288 u287.2.2.1 u287.2.2.2.1 u287.2.2.2.2.1 u292.1 u292.2.1 A293 c293 u292.2.2.1 u292.2.2.2.1 u292.2.2.2.2.1 (hH.rd 2 rfl) (hH.rd 4 rfl) (Hp.own (Bs.refl s307)) _ hu310) ?_)
      rintro _ s310 ⟨rfl, hD⟩
      replace hH := hH.back0T hD
      clear hD
      refine hc (o_pickT rfl hb309 (mv ?_))
      revert H
      refine it (fun hb311 H => ?_) (fun hb311 H => ?_)
      ·refine wt rfl rfl rfl rfl hb311 (o_move ?_)
       dsimp only [putL, setL, evL, getL]
       refine wt rfl rfl rfl rfl hb311 (o_move (wt rfl rfl rfl rfl hb311 (o_eqb rfl rfl Try.underlying4 (hc (o_pickT rfl hb311 ?_)))))
       dsimp only [putL, setL, evL, getL]
       refine mv ?_
       revert H
       refine it (fun hb312 H => ?_) (fun hb312 H => ?_)
       ·refine wt rfl rfl rfl rfl hb312 (o_loads' [.int .i64 u299.1, .int .i64 u299.2.1, .slice A300 u299.2.2.1.length c300, .int .i64 u299.2.2.2.1, .int .i64 u299.2.2.2.2.1] rfl Try.underlying66 rfl tI66 rfl (hH.partv 7 rfl (0) [.int .i64 u299.1, .int .i64 u299.2.1, .slice A300 u299.2.2.1.length c300, .int .i64 u299.2.2.2.1, .int .i64 u299.2.2.2.2.1] rfl) (wt rfl rfl rfl rfl hb312 (o_loads' [.int .i64 u304.1, .int .i64 u304.2.1, .slice A305 u304.2.2.1.length c305, .int .i64 u304.2.2.2.1, .int .i64 u304.2.2.2.2.1] rfl Try.underlying66 rfl tI66 rfl (hH.partv 9 rfl (0) [.int .i64 u304.1, .int .i64 u304.2.1, .slice A305 u304.2.2.1.length c305, .int .i64 u304.2.2.2.1, .int .i64 u304.2.2.2.2.1] rfl) ?_)))
        replace H := headE H
        obtain ⟨u313, hu313, H⟩ := H
        try dsimp only [putL, setL, evL, getL]
        refine wt rfl rfl rfl rfl hb312 (o_call (args := #[.agg #[.int .i64 u299.1, .int .i64 u299.2.1, .slice A300 u299.2.2.1.length c300, .int .i64 u299.2.2.2.1, .int .i64 u299.2.2.2.2.1], .agg #[.int .i64 u304.1, .int .i64 u304.2.1, .slice A305 u304.2.2.1.length c305, .int .i64 u304.2.2.2.1, .int .i64 u304.2.2.2.2.1]]) Try.func51 rfl rfl rfl (laws_sameScreen.ok s310 s310 no u299.1 u299.2.1 A300 c300 u299.2.2.1 u299.2.2.2.1 u299.2.2.2.2.1 u304.1 u304.2.1 A305 c305 u304.2.2.1 u304.2.2.2.1 u304.2.2.2.2.1 (hH.rd 6 rfl) (hH.rd 8 rfl) (Hp.own (Bs.refl s310)) _ hu313) ?_)
        rintro _ s313 ⟨rfl, hD⟩
        replace hH := hH.back0T hD
        clear hD
        refine hc (o_pickT rfl hb312 (ag (HL_nil (hK308 _ _ ?_))))
        dsimp only [putL, setL, evL, getL]
        refine HT_ret ?_
        exact hQr _ _ [.bool u313] _ ⟨rfl, trivial⟩ H ⟨rfl, hH.sel [] (by decide)⟩
       ·refine wf rfl rfl rfl rfl hb312 (wf rfl rfl rfl rfl hb312 (wf rfl rfl rfl rfl hb312 ?_))
        dsimp only [putL, setL, evL, getL]
        refine hc (o_pickF rfl hb312 (ag (HL_nil (hK308 _ _ ?_))))
        dsimp only [putL, setL, evL, getL]
        refine HT_ret ?_
        exact hQr _ _ [.bool false] _ ⟨rfl, trivial⟩ H ⟨rfl, hH.sel [] (by decide)⟩
      ·refine wf rfl rfl rfl rfl hb311 (wf rfl rfl rfl rfl hb311 (wf rfl rfl rfl rfl hb311 ?_))
       dsimp only [putL, setL, evL, getL]
       refine hc (o_pickF rfl hb311 (mv (wf rfl rfl rfl rfl rfl ?_)))
       dsimp only [putL, setL, evL, getL]
       refine wf rfl rfl rfl rfl rfl (wf rfl rfl rfl rfl rfl (hc (o_pickF rfl rfl ?_)))
       dsimp only [putL, setL, evL, getL]
       refine ag (HL_nil (hK308 _ _ ?_))
       dsimp only [putL, setL, evL, getL]
       refine HT_ret ?_
       exact hQr _ _ [.bool false] _ ⟨rfl, trivial⟩ H ⟨rfl, hH.sel [] (by decide)⟩
     ·refine wf rfl rfl rfl rfl hb309 (wf rfl rfl rfl rfl hb309 (wf rfl rfl rfl rfl hb309 ?_))
      dsimp only [putL, setL, evL, getL]
      refine hc (o_pickF rfl hb309 (mv (wf rfl rfl rfl rfl rfl ?_)))
      dsimp only [putL, setL, evL, getL]
      refine wf rfl rfl rfl rfl rfl (wf rfl rfl rfl rfl rfl (hc (o_pickF rfl rfl ?_)))
      dsimp only [putL, setL, evL, getL]
      refine mv (wf rfl rfl rfl rfl rfl (wf rfl rfl rfl rfl rfl ?_))
      dsimp only [putL, setL, evL, getL]
      refine wf rfl rfl rfl rfl rfl (hc (o_pickF rfl rfl (ag (HL_nil (hK308 _ _ ?_)))))
      dsimp only [putL, setL, evL, getL]
      refine HT_ret ?_
      exact hQr _ _ [.bool false] _ ⟨rfl, trivial⟩ H ⟨rfl, hH.sel [] (by decide)⟩
end Go.Proofs.Ytkieinlcpkpcjaa
