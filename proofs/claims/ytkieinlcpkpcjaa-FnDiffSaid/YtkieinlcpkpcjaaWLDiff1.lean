/- The functions that the law reaches, as plain functions, each with its contract: printed by a program of the prover's. No conditions: lemmas. -/
import Derived.Test.YtkieinlcpkpcjaaWLDiff0
set_option linter.unusedVariables false
set_option linter.unusedSimpArgs false
namespace Go.Proofs.Ytkieinlcpkpcjaa
open Go Go.Proofs.GL
def impl_DiffOf_1.f (p0 : Int) (p1 : Int) (pf0_0 : List ((Int) × (List (Int)))) : Option (List ((Int) × (List (Int)))) := (if (decide ((IntKind.i64.wrap ((pf0_0.length : Int) - 1)) ≥ 0)) = true then ((rd? pf0_0 (IntKind.i64.wrap ((pf0_0.length : Int) - 1))).bind fun u40 => some (u40.1 == p0)) else (some false)).bind fun (o : Bool) => match o with | x38 => (if x38 = true then ((rd? pf0_0 (IntKind.i64.wrap ((pf0_0.length : Int) - 1))).bind fun u45 => (app? 17592186044416 u45.2 [p1]).bind fun x50 => (st? pf0_0 (IntKind.i64.wrap ((pf0_0.length : Int) - 1)) (u45.1, x50)).bind fun x53 => some x53) else ((app? 4398046511104 pf0_0 [(p0, [p1])]).bind fun x65 => some x65))
def impl_DiffOf_1.post (sb s : St) (F0 : Fp) (bpf0 : Nat) (r : (List ((Int) × (List (Int))))) : Value → St → Prop := fun v s' => ∃ (A0 : Option Addr) (c0 : Nat), v = .tuple #[] ∧ Hp sb s F0 s' [Ck.ol OS170 170 A0 c0 r, Ck.ov bpf0 [.slice A0 r.length c0] 85]
set_option maxRecDepth 100000 in
set_option maxHeartbeats 4000000 in
theorem impl_DiffOf_1.ok (sb s : St) (F0 : Fp) (p0 : Int) (p1 : Int) (bpf0 : Nat) (Af0_0p : Option Addr) (cf0_0p : Nat) (pf0_0 : List ((Int) × (List (Int)))) (hH : Hp sb s F0 s [Ck.ov bpf0 [.slice Af0_0p pf0_0.length cf0_0p] 85, Ck.ol OS170 170 Af0_0p cf0_0p pf0_0]) (r : (List ((Int) × (List (Int))))) (H : impl_DiffOf_1.f p0 p1 pf0_0 = some r) : GCall Try.prog 158 #[.int .i64 p0, .int .i64 p1, .pointer (some ⟨bpf0, 0, none⟩)] s (impl_DiffOf_1.post sb s F0 bpf0 r) := by
  refine GCall_ofk [] [.int .i64 p0, .int .i64 p1, .pointer (some ⟨bpf0, 0, none⟩), undef, undef, undef, undef, undef, undef, undef, undef, undef, undef, undef, undef, undef, undef, undef, undef, undef, undef, undef, undef, undef, undef, undef, undef, undef, undef, undef, undef, undef, undef, undef, undef, undef, undef, undef, undef] Try.func158 rfl rfl rfl ?_
  intro w Q hQr hQn hQp
  replace H := topE H
  unfold impl_DiffOf_1.f at H
  refine HT_seq_k ?_
  intro K32 hK32
  refine HT_seq_k ?_
  intro K33 hK33
  refine HT_region ?_
  refine HL_cons rfl ?_
  refine o_load' rfl Try.underlying85 rfl (hH.hasv 0 rfl rfl) ?_
  try dsimp only [putL, setL, evL, getL]
  refine HL_cons rfl ?_
  refine o_len rfl Try.underlying85 ?_
  try dsimp only [putL, setL, evL, getL]
  refine HL_cons rfl ?_
  refine o_bin rfl rfl rfl ?_
  try dsimp only [putL, setL, evL, getL]
  refine HL_cons rfl ?_
  refine o_assign ?_
  try dsimp only [putL, setL, evL, getL]
  refine HL_nil ?_
  refine hK33 _ _ ?_
  refine joinH H fun G34 hG34 H => ?_
  refine HT_joinK (fun l' s' => ∃ (x38 : Bool), G34 x38 = some r ∧ l' = [.int .i64 p0, .int .i64 p1, .pointer (some ⟨bpf0, 0, none⟩), undef, undef, .int .i64 (IntKind.i64.wrap ((pf0_0.length : Int) - 1)), .slice Af0_0p pf0_0.length cf0_0p, .int .i64 (pf0_0.length : Int), .int .i64 (IntKind.i64.wrap ((pf0_0.length : Int) - 1)), getL l' 9, getL l' 10, getL l' 11, getL l' 12, getL l' 13, getL l' 14, getL l' 15, getL l' 16, getL l' 17, getL l' 18, .bool x38, undef, undef, undef, undef, undef, undef, undef, undef, undef, undef, undef, undef, undef, undef, undef, undef, undef, undef, undef] ∧ Hp sb s F0 s' [Ck.ol OS170 170 Af0_0p cf0_0p pf0_0, Ck.ov bpf0 [.slice Af0_0p pf0_0.length cf0_0p] 85]) ?_ ?_
  · intro K34 hK34
    refine HT_region ?_
    refine HL_cons rfl ?_
    refine o_move ?_
    try dsimp only [putL, setL, evL, getL]
    refine HL_cons rfl ?_
    refine o_bin rfl rfl rfl ?_
    try dsimp only [putL, setL, evL, getL]
    refine HL_cons rfl ?_
    refine o_move ?_
    try dsimp only [putL, setL, evL, getL]
    rcases Bool.eq_false_or_eq_true (decide ((IntKind.i64.wrap ((pf0_0.length : Int) - 1)) ≥ 0)) with hb39 | hb39
    · replace H := iteT hb39 H
      refine HL_want ?_ ?_
      · exact wantT (j := 2) (b := true) (t := 11) (c := decide ((IntKind.i64.wrap ((pf0_0.length : Int) - 1)) ≥ 0)) rfl rfl rfl rfl hb39
      refine o_load' rfl Try.underlying85 rfl (hH.hasv 0 rfl rfl) ?_
      try dsimp only [putL, setL, evL, getL]
      refine HL_want ?_ ?_
      · exact wantT (j := 2) (b := true) (t := 11) (c := decide ((IntKind.i64.wrap ((pf0_0.length : Int) - 1)) ≥ 0)) rfl rfl rfl rfl hb39
      refine o_move ?_
      try dsimp only [putL, setL, evL, getL]
      replace H := headE H
      obtain ⟨u40, hu40, H⟩ := H
      obtain ⟨b40, o40, cs40, hA40, hr40, hh40, hel40⟩ := hH.elo 1 rfl hu40
      obtain ⟨_, _, rfl, rfl, ⟨A41, c41, rfl, D41⟩⟩ := hr40
      refine HL_want ?_ ?_
      · exact wantT (j := 2) (b := true) (t := 11) (c := decide ((IntKind.i64.wrap ((pf0_0.length : Int) - 1)) ≥ 0)) rfl rfl rfl rfl hb39
      refine hel40 s rfl rfl Try.underlying85 tI170 ?_
      try dsimp only [putL, setL, evL, getL]
      refine HL_want ?_ ?_
      · exact wantT (j := 2) (b := true) (t := 11) (c := decide ((IntKind.i64.wrap ((pf0_0.length : Int) - 1)) ≥ 0)) rfl rfl rfl rfl hb39
      refine o_faddr' (ft := 3) (off := 0) rfl Try.underlying170 rfl tI3 (by decide) ?_
      try dsimp only [putL, setL, evL, getL]
      refine HL_want ?_ ?_
      · exact wantT (j := 2) (b := true) (t := 11) (c := decide ((IntKind.i64.wrap ((pf0_0.length : Int) - 1)) ≥ 0)) rfl rfl rfl rfl hb39
      refine o_load' rfl Try.underlying3 rfl (hh40 0 _ rfl) ?_
      try dsimp only [putL, setL, evL, getL]
      refine HL_want ?_ ?_
      · exact wantT (j := 2) (b := true) (t := 11) (c := decide ((IntKind.i64.wrap ((pf0_0.length : Int) - 1)) ≥ 0)) rfl rfl rfl rfl hb39
      refine o_move ?_
      try dsimp only [putL, setL, evL, getL]
      refine HL_want ?_ ?_
      · exact wantT (j := 2) (b := true) (t := 11) (c := decide ((IntKind.i64.wrap ((pf0_0.length : Int) - 1)) ≥ 0)) rfl rfl rfl rfl hb39
      refine o_bin rfl rfl rfl ?_
      try dsimp only [putL, setL, evL, getL]
      refine HL_cons rfl ?_
      refine o_pickT rfl hb39 ?_
      try dsimp only [putL, setL, evL, getL]
      refine HL_nil ?_
      exact hK34 _ _ ⟨u40.1 == p0, H, rfl, hH.sel [1, 0] (by decide)⟩
    · replace H := iteF hb39 H
      refine HL_skip ?_ ?_
      · exact wantF (j := 2) (b := true) (t := 11) (c := decide ((IntKind.i64.wrap ((pf0_0.length : Int) - 1)) ≥ 0)) rfl rfl rfl rfl hb39
      try dsimp only [putL, setL, evL, getL]
      refine HL_skip ?_ ?_
      · exact wantF (j := 2) (b := true) (t := 11) (c := decide ((IntKind.i64.wrap ((pf0_0.length : Int) - 1)) ≥ 0)) rfl rfl rfl rfl hb39
      try dsimp only [putL, setL, evL, getL]
      refine HL_skip ?_ ?_
      · exact wantF (j := 2) (b := true) (t := 11) (c := decide ((IntKind.i64.wrap ((pf0_0.length : Int) - 1)) ≥ 0)) rfl rfl rfl rfl hb39
      try dsimp only [putL, setL, evL, getL]
      refine HL_skip ?_ ?_
      · exact wantF (j := 2) (b := true) (t := 11) (c := decide ((IntKind.i64.wrap ((pf0_0.length : Int) - 1)) ≥ 0)) rfl rfl rfl rfl hb39
      try dsimp only [putL, setL, evL, getL]
      refine HL_skip ?_ ?_
      · exact wantF (j := 2) (b := true) (t := 11) (c := decide ((IntKind.i64.wrap ((pf0_0.length : Int) - 1)) ≥ 0)) rfl rfl rfl rfl hb39
      try dsimp only [putL, setL, evL, getL]
      refine HL_skip ?_ ?_
      · exact wantF (j := 2) (b := true) (t := 11) (c := decide ((IntKind.i64.wrap ((pf0_0.length : Int) - 1)) ≥ 0)) rfl rfl rfl rfl hb39
      try dsimp only [putL, setL, evL, getL]
      refine HL_skip ?_ ?_
      · exact wantF (j := 2) (b := true) (t := 11) (c := decide ((IntKind.i64.wrap ((pf0_0.length : Int) - 1)) ≥ 0)) rfl rfl rfl rfl hb39
      try dsimp only [putL, setL, evL, getL]
      refine HL_cons rfl ?_
      refine o_pickF rfl hb39 ?_
      try dsimp only [putL, setL, evL, getL]
      refine HL_nil ?_
      exact hK34 _ _ ⟨false, H, rfl, hH.sel [1, 0] (by decide)⟩
  · rintro l' s42 ⟨x38, H, hl, hH⟩
    generalize getL l' 9 = j9, getL l' 10 = j10, getL l' 11 = j11, getL l' 12 = j12, getL l' 13 = j13, getL l' 14 = j14, getL l' 15 = j15, getL l' 16 = j16, getL l' 17 = j17, getL l' 18 = j18 at hl
    subst hl
    replace H := hG34 _ H
    try dsimp only at H
    rcases Bool.eq_false_or_eq_true x38 with hb43 | hb43
    · replace H := iteT hb43 H
      refine HT_true (congrArg Value.bool hb43) ?_
      refine HT_seq_k ?_
      intro K44 hK44
      refine HX_draw hMix ?_
      refine HX_lim (R := fun _ => True) (k := 0) (fun s' => Gro s42 s') 9 ?_
      have hR := Gro.refl s42
      have hH0 := hH
      refine HK_read 2 (v := .slice Af0_0p pf0_0.length cf0_0p) rfl (by kernel_rfl) (fun c l s h => hQp c l s h) rfl (fun s' hR' K hK => ?_) rfl rfl hR ?_
      · refine o_load' rfl Try.underlying85 rfl (has_gro hR' (hH0.hasv 1 rfl rfl)) ?_
        exact hK
      try dsimp only [putL, setL, evL, getL]
      refine HK_readP 3 (v := .int .i64 (IntKind.i64.wrap ((pf0_0.length : Int) - 1))) rfl (by kernel_rfl) (fun c l s h => hQp c l s h) rfl (fun s' K hK => ?_) rfl rfl (fun _ => hR) ?_
      · refine o_move ?_
        exact hK
      try dsimp only [putL, setL, evL, getL]
      replace H := headE H
      obtain ⟨u45, hu45, H⟩ := H
      obtain ⟨b45, o45, vs45, hA45, -, hH⟩ := hH.open 0 rfl rfl hu45
      dsimp only [addC, setC, rmC, selC, getC] at hH
      obtain ⟨v46, v47, rfl, hH⟩ := hH.el_pair 2 rfl rfl
      dsimp only [addC, setC, rmC, selC, getC] at hH
      obtain rfl := hH.el_rep 2 rfl
      replace hH := hH.drop 2 rfl
      dsimp only [addC, setC, rmC, selC, getC] at hH
      obtain ⟨A48, c48, rfl, hH⟩ := hH.el_sl 3 rfl rfl
      dsimp only [addC, setC, rmC, selC, getC] at hH
      replace hH : Hp sb s F0 s42 [Ck.oh OS170 170 Af0_0p cf0_0p pf0_0 (Int.toNat (IntKind.i64.wrap ((pf0_0.length : Int) - 1))) [.int .i64 u45.1, .slice A48 u45.2.length c48], Ck.ov bpf0 [.slice Af0_0p pf0_0.length cf0_0p] 85, Ck.emp, Ck.ol OI 3 A48 c48 u45.2] := hH
      refine HK_readP 4 (v := .pointer (some ⟨b45, o45 + Int.toNat (IntKind.i64.wrap ((pf0_0.length : Int) - 1)) * Kd.sz KS170, none⟩)) rfl (by kernel_rfl) (fun c l s h => hQp c l s h) rfl (fun s' K hK => ?_) rfl rfl (fun _ => hR) ?_
      · refine iaddr_of (K := KS170) hA45 hu45 s' rfl rfl Try.underlying85 tI170 ?_
        exact hK
      try dsimp only [putL, setL, evL, getL]
      refine HK_readP 5 (v := .pointer (some ⟨b45, o45 + Int.toNat (IntKind.i64.wrap ((pf0_0.length : Int) - 1)) * Kd.sz KS170 + 1, none⟩)) rfl (by kernel_rfl) (fun c l s h => hQp c l s h) rfl (fun s' K hK => ?_) rfl rfl (fun _ => hR) ?_
      · refine o_faddr' (ft := 24) (off := 1) rfl Try.underlying170 rfl tI24 (by decide) ?_
        exact hK
      try dsimp only [putL, setL, evL, getL]
      refine HK_read 6 (v := .slice A48 u45.2.length c48) rfl (by kernel_rfl) (fun c l s h => hQp c l s h) rfl (fun s' hR' K hK => ?_) rfl rfl hR ?_
      · refine o_load' rfl Try.underlying24 rfl (has_gro hR' (hH.hasoh 0 rfl hA45 1 _ rfl)) ?_
        exact hK
      try dsimp only [putL, setL, evL, getL]
      refine HK_readP 7 (v := .int .i64 p1) rfl (by kernel_rfl) (fun c l s h => hQp c l s h) rfl (fun s' K hK => ?_) rfl rfl (fun _ => hR) ?_
      · refine o_move ?_
        exact hK
      try dsimp only [putL, setL, evL, getL]
      refine HK_readP 1 (v := .int .i64 (IntKind.i64.wrap ((pf0_0.length : Int) - 1))) rfl (by kernel_rfl) (fun c l s h => hQp c l s h) rfl (fun s' K hK => ?_) rfl rfl (fun _ => hR) ?_
      · refine o_move ?_
        exact hK
      try dsimp only [putL, setL, evL, getL]
      refine HK_more [0, 8] (by kernel_rfl) rfl (fun _ => hR) ⟨⟨_, rfl, Or.inl ⟨rfl, ?_⟩⟩, ⟨_, rfl, Or.inl ⟨rfl, ?_⟩⟩, trivial⟩
      · skip
        refine o_load' rfl Try.underlying85 rfl (hH.hasv 1 rfl rfl) ?_
        try dsimp only [putL, setL, evL, getL]
        refine HK_more [8] (by kernel_rfl) rfl (fun _ => hR) ⟨⟨_, rfl, Or.inl ⟨rfl, ?_⟩⟩, trivial⟩
        skip
        refine o_litF (K := KI) (O := OI) (ca := #[.int .i64 p1]) [[.int .i64 p1]] [p1] hH Try.underlying24 tI3 rfl (by decide) rfl rfl (by kernel_rfl) rfl ⟨rfl, Ent.own (Ent.flat rfl), trivial⟩ ?_
        intro A49 s49 hH' hG
        replace hR := hR.trans hG
        replace hH : Hp sb s F0 s49 [Ck.oh OS170 170 Af0_0p cf0_0p pf0_0 (Int.toNat (IntKind.i64.wrap ((pf0_0.length : Int) - 1))) [.int .i64 u45.1, .slice A48 u45.2.length c48], Ck.ov bpf0 [.slice Af0_0p pf0_0.length cf0_0p] 85, Ck.emp, Ck.ol OI 3 A48 c48 u45.2, Ck.ol OI 3 A49 1 [p1]] := hH'
        clear hH' hG
        try dsimp only [putL, setL, evL, getL]
        refine HK_more [9] (by kernel_rfl) rfl (fun _ => hR) ⟨⟨_, rfl, Or.inl ⟨rfl, ?_⟩⟩, trivial⟩
        replace H := headE H
        obtain ⟨x50, hx50, H⟩ := H
        skip
        refine o_appF (K := KI) (n := 17592186044416) (A := A48) (c := c48) (xs := u45.2) (ys := [p1]) (B := A49) (c2 := 1) hH 3 rfl rfl rfl rfl Try.underlying24 tI3 rfl (by decide) (by decide) (by decide) (Src.flat (hH.rd 4 rfl)) hx50 ?_
        intro A50 c50 s50 hH'
        replace hH : Hp sb s F0 s50 [Ck.oh OS170 170 Af0_0p cf0_0p pf0_0 (Int.toNat (IntKind.i64.wrap ((pf0_0.length : Int) - 1))) [.int .i64 u45.1, .slice A48 u45.2.length c48], Ck.ov bpf0 [.slice Af0_0p pf0_0.length cf0_0p] 85, Ck.emp, Ck.ol OI 3 A50 c50 x50, Ck.ol OI 3 A49 1 [p1]] := hH'
        clear hH'
        try dsimp only [putL, setL, evL, getL]
        refine HK_free (by kernel_rfl) ?_
        refine HX_lim (R := fun _ => True) (k := 0) (fun s' => Gro s50 s') 12 ?_
        have hR := Gro.refl s50
        have hH0 := hH
        refine HK_readP 10 (v := .pointer (some ⟨b45, o45 + Int.toNat (IntKind.i64.wrap ((pf0_0.length : Int) - 1)) * Kd.sz KS170, none⟩)) rfl (by kernel_rfl) (fun c l s h => hQp c l s h) rfl (fun s' K hK => ?_) rfl rfl (fun _ => hR) ?_
        · refine iaddr_of (K := KS170) hA45 hu45 s' rfl rfl Try.underlying85 tI170 ?_
          exact hK
        try dsimp only [putL, setL, evL, getL]
        refine HK_readP 11 (v := .pointer (some ⟨b45, o45 + Int.toNat (IntKind.i64.wrap ((pf0_0.length : Int) - 1)) * Kd.sz KS170 + 1, none⟩)) rfl (by kernel_rfl) (fun c l s h => hQp c l s h) rfl (fun s' K hK => ?_) rfl rfl (fun _ => hR) ?_
        · refine o_faddr' (ft := 24) (off := 1) rfl Try.underlying170 rfl tI24 (by decide) ?_
          exact hK
        try dsimp only [putL, setL, evL, getL]
        refine HK_more [12] (by kernel_rfl) rfl (fun _ => hR) ⟨⟨_, rfl, Or.inl ⟨rfl, ?_⟩⟩, trivial⟩
        skip
        refine o_seth (off := 1) (vs' := [.int .i64 u45.1, .slice A50 x50.length c50]) hH 0 rfl rfl rfl rfl rfl tI24 hA45 rfl rfl ?_
        intro s52 hH'
        replace hH : Hp sb s F0 s52 [Ck.oh OS170 170 Af0_0p cf0_0p pf0_0 (Int.toNat (IntKind.i64.wrap ((pf0_0.length : Int) - 1))) [.int .i64 u45.1, .slice A50 x50.length c50], Ck.ov bpf0 [.slice Af0_0p pf0_0.length cf0_0p] 85, Ck.emp, Ck.ol OI 3 A50 c50 x50, Ck.ol OI 3 A49 1 [p1]] := hH'
        clear hH'
        try dsimp only [putL, setL, evL, getL]
        refine HK_free (by kernel_rfl) ?_
        refine HX_done (by kernel_rfl) ?_
        refine hK44 _ _ ?_
        refine HT_ret ?_
        replace hH := hH.conv [3] (by decide) (d := Ck.el OS170 [.int .i64 u45.1, .slice A50 x50.length c50] (u45.1, x50)) (Ent.pair (v1 := [.int .i64 u45.1]) (v2 := [.slice A50 x50.length c50]) (x1 := u45.1) (x2 := x50) (Ent.flat rfl) Ent.sl)
        dsimp only [addC, setC, rmC, selC, getC] at hH
        replace H := headE H
        obtain ⟨x53, hx53, H⟩ := H
        replace hH := hH.close (i := IntKind.i64.wrap ((pf0_0.length : Int) - 1)) 0 5 (by decide) rfl rfl rfl hx53
        dsimp only [addC, setC, rmC, selC, getC] at hH
        have hl53 := st?_len hx53
        replace hH : Hp sb s F0 s52 [Ck.ol OS170 170 Af0_0p cf0_0p x53, Ck.ov bpf0 [.slice Af0_0p pf0_0.length cf0_0p] 85, Ck.emp, Ck.emp, Ck.ol OI 3 A49 1 [p1], Ck.emp] := hH
        replace hH : Hp sb s F0 s52 [Ck.ol OS170 170 Af0_0p cf0_0p x53, Ck.ov bpf0 [.slice Af0_0p x53.length cf0_0p] 85, Ck.emp, Ck.emp, Ck.ol OI 3 A49 1 [p1], Ck.emp] := by rw [hl53]; exact hH
        exact hQr _ _ [] trivial (retH (fun r => impl_DiffOf_1.post sb s F0 bpf0 r _ _) (show some _ = some r from H) ⟨Af0_0p, cf0_0p, rfl, hH.sel [0, 1] (by decide)⟩)
      · skip
        refine o_litF (K := KI) (O := OI) (ca := #[.int .i64 p1]) [[.int .i64 p1]] [p1] hH Try.underlying24 tI3 rfl (by decide) rfl rfl (by kernel_rfl) rfl ⟨rfl, Ent.own (Ent.flat rfl), trivial⟩ ?_
        intro A54 s54 hH' hG
        replace hR := hR.trans hG
        replace hH : Hp sb s F0 s54 [Ck.oh OS170 170 Af0_0p cf0_0p pf0_0 (Int.toNat (IntKind.i64.wrap ((pf0_0.length : Int) - 1))) [.int .i64 u45.1, .slice A48 u45.2.length c48], Ck.ov bpf0 [.slice Af0_0p pf0_0.length cf0_0p] 85, Ck.emp, Ck.ol OI 3 A48 c48 u45.2, Ck.ol OI 3 A54 1 [p1]] := hH'
        clear hH' hG
        try dsimp only [putL, setL, evL, getL]
        refine HK_more [0, 9] (by kernel_rfl) rfl (fun _ => hR) ⟨⟨_, rfl, Or.inl ⟨rfl, ?_⟩⟩, ⟨_, rfl, Or.inl ⟨rfl, ?_⟩⟩, trivial⟩
        · skip
          refine o_load' rfl Try.underlying85 rfl (hH.hasv 1 rfl rfl) ?_
          try dsimp only [putL, setL, evL, getL]
          refine HK_more [9] (by kernel_rfl) rfl (fun _ => hR) ⟨⟨_, rfl, Or.inl ⟨rfl, ?_⟩⟩, trivial⟩
          replace H := headE H
          obtain ⟨x55, hx55, H⟩ := H
          skip
          refine o_appF (K := KI) (n := 17592186044416) (A := A48) (c := c48) (xs := u45.2) (ys := [p1]) (B := A54) (c2 := 1) hH 3 rfl rfl rfl rfl Try.underlying24 tI3 rfl (by decide) (by decide) (by decide) (Src.flat (hH.rd 4 rfl)) hx55 ?_
          intro A55 c55 s55 hH'
          replace hH : Hp sb s F0 s55 [Ck.oh OS170 170 Af0_0p cf0_0p pf0_0 (Int.toNat (IntKind.i64.wrap ((pf0_0.length : Int) - 1))) [.int .i64 u45.1, .slice A48 u45.2.length c48], Ck.ov bpf0 [.slice Af0_0p pf0_0.length cf0_0p] 85, Ck.emp, Ck.ol OI 3 A55 c55 x55, Ck.ol OI 3 A54 1 [p1]] := hH'
          clear hH'
          try dsimp only [putL, setL, evL, getL]
          refine HK_free (by kernel_rfl) ?_
          refine HX_lim (R := fun _ => True) (k := 0) (fun s' => Gro s55 s') 12 ?_
          have hR := Gro.refl s55
          have hH0 := hH
          refine HK_readP 10 (v := .pointer (some ⟨b45, o45 + Int.toNat (IntKind.i64.wrap ((pf0_0.length : Int) - 1)) * Kd.sz KS170, none⟩)) rfl (by kernel_rfl) (fun c l s h => hQp c l s h) rfl (fun s' K hK => ?_) rfl rfl (fun _ => hR) ?_
          · refine iaddr_of (K := KS170) hA45 hu45 s' rfl rfl Try.underlying85 tI170 ?_
            exact hK
          try dsimp only [putL, setL, evL, getL]
          refine HK_readP 11 (v := .pointer (some ⟨b45, o45 + Int.toNat (IntKind.i64.wrap ((pf0_0.length : Int) - 1)) * Kd.sz KS170 + 1, none⟩)) rfl (by kernel_rfl) (fun c l s h => hQp c l s h) rfl (fun s' K hK => ?_) rfl rfl (fun _ => hR) ?_
          · refine o_faddr' (ft := 24) (off := 1) rfl Try.underlying170 rfl tI24 (by decide) ?_
            exact hK
          try dsimp only [putL, setL, evL, getL]
          refine HK_more [12] (by kernel_rfl) rfl (fun _ => hR) ⟨⟨_, rfl, Or.inl ⟨rfl, ?_⟩⟩, trivial⟩
          skip
          refine o_seth (off := 1) (vs' := [.int .i64 u45.1, .slice A55 x55.length c55]) hH 0 rfl rfl rfl rfl rfl tI24 hA45 rfl rfl ?_
          intro s57 hH'
          replace hH : Hp sb s F0 s57 [Ck.oh OS170 170 Af0_0p cf0_0p pf0_0 (Int.toNat (IntKind.i64.wrap ((pf0_0.length : Int) - 1))) [.int .i64 u45.1, .slice A55 x55.length c55], Ck.ov bpf0 [.slice Af0_0p pf0_0.length cf0_0p] 85, Ck.emp, Ck.ol OI 3 A55 c55 x55, Ck.ol OI 3 A54 1 [p1]] := hH'
          clear hH'
          try dsimp only [putL, setL, evL, getL]
          refine HK_free (by kernel_rfl) ?_
          refine HX_done (by kernel_rfl) ?_
          refine hK44 _ _ ?_
          refine HT_ret ?_
          replace hH := hH.conv [3] (by decide) (d := Ck.el OS170 [.int .i64 u45.1, .slice A55 x55.length c55] (u45.1, x55)) (Ent.pair (v1 := [.int .i64 u45.1]) (v2 := [.slice A55 x55.length c55]) (x1 := u45.1) (x2 := x55) (Ent.flat rfl) Ent.sl)
          dsimp only [addC, setC, rmC, selC, getC] at hH
          replace H := headE H
          obtain ⟨x58, hx58, H⟩ := H
          replace hH := hH.close (i := IntKind.i64.wrap ((pf0_0.length : Int) - 1)) 0 5 (by decide) rfl rfl rfl hx58
          dsimp only [addC, setC, rmC, selC, getC] at hH
          have hl58 := st?_len hx58
          replace hH : Hp sb s F0 s57 [Ck.ol OS170 170 Af0_0p cf0_0p x58, Ck.ov bpf0 [.slice Af0_0p pf0_0.length cf0_0p] 85, Ck.emp, Ck.emp, Ck.ol OI 3 A54 1 [p1], Ck.emp] := hH
          replace hH : Hp sb s F0 s57 [Ck.ol OS170 170 Af0_0p cf0_0p x58, Ck.ov bpf0 [.slice Af0_0p x58.length cf0_0p] 85, Ck.emp, Ck.emp, Ck.ol OI 3 A54 1 [p1], Ck.emp] := by rw [hl58]; exact hH
          exact hQr _ _ [] trivial (retH (fun r => impl_DiffOf_1.post sb s F0 bpf0 r _ _) (show some _ = some r from H) ⟨Af0_0p, cf0_0p, rfl, hH.sel [0, 1] (by decide)⟩)
        · replace H := headE H
          obtain ⟨x59, hx59, H⟩ := H
          skip
          refine o_appF (K := KI) (n := 17592186044416) (A := A48) (c := c48) (xs := u45.2) (ys := [p1]) (B := A54) (c2 := 1) hH 3 rfl rfl rfl rfl Try.underlying24 tI3 rfl (by decide) (by decide) (by decide) (Src.flat (hH.rd 4 rfl)) hx59 ?_
          intro A59 c59 s59 hH'
          replace hH : Hp sb s F0 s59 [Ck.oh OS170 170 Af0_0p cf0_0p pf0_0 (Int.toNat (IntKind.i64.wrap ((pf0_0.length : Int) - 1))) [.int .i64 u45.1, .slice A48 u45.2.length c48], Ck.ov bpf0 [.slice Af0_0p pf0_0.length cf0_0p] 85, Ck.emp, Ck.ol OI 3 A59 c59 x59, Ck.ol OI 3 A54 1 [p1]] := hH'
          clear hH'
          try dsimp only [putL, setL, evL, getL]
          refine HK_free (by kernel_rfl) ?_
          refine HX_lim (R := fun _ => True) (k := 0) (fun s' => Gro s59 s') 12 ?_
          have hR := Gro.refl s59
          have hH0 := hH
          refine HK_read 0 (v := .slice Af0_0p pf0_0.length cf0_0p) rfl (by kernel_rfl) (fun c l s h => hQp c l s h) rfl (fun s' hR' K hK => ?_) rfl rfl hR ?_
          · refine o_load' rfl Try.underlying85 rfl (has_gro hR' (hH0.hasv 1 rfl rfl)) ?_
            exact hK
          try dsimp only [putL, setL, evL, getL]
          refine HK_readP 10 (v := .pointer (some ⟨b45, o45 + Int.toNat (IntKind.i64.wrap ((pf0_0.length : Int) - 1)) * Kd.sz KS170, none⟩)) rfl (by kernel_rfl) (fun c l s h => hQp c l s h) rfl (fun s' K hK => ?_) rfl rfl (fun _ => hR) ?_
          · refine iaddr_of (K := KS170) hA45 hu45 s' rfl rfl Try.underlying85 tI170 ?_
            exact hK
          try dsimp only [putL, setL, evL, getL]
          refine HK_readP 11 (v := .pointer (some ⟨b45, o45 + Int.toNat (IntKind.i64.wrap ((pf0_0.length : Int) - 1)) * Kd.sz KS170 + 1, none⟩)) rfl (by kernel_rfl) (fun c l s h => hQp c l s h) rfl (fun s' K hK => ?_) rfl rfl (fun _ => hR) ?_
          · refine o_faddr' (ft := 24) (off := 1) rfl Try.underlying170 rfl tI24 (by decide) ?_
            exact hK
          try dsimp only [putL, setL, evL, getL]
          refine HK_more [12] (by kernel_rfl) rfl (fun _ => hR) ⟨⟨_, rfl, Or.inl ⟨rfl, ?_⟩⟩, trivial⟩
          skip
          refine o_seth (off := 1) (vs' := [.int .i64 u45.1, .slice A59 x59.length c59]) hH 0 rfl rfl rfl rfl rfl tI24 hA45 rfl rfl ?_
          intro s61 hH'
          replace hH : Hp sb s F0 s61 [Ck.oh OS170 170 Af0_0p cf0_0p pf0_0 (Int.toNat (IntKind.i64.wrap ((pf0_0.length : Int) - 1))) [.int .i64 u45.1, .slice A59 x59.length c59], Ck.ov bpf0 [.slice Af0_0p pf0_0.length cf0_0p] 85, Ck.emp, Ck.ol OI 3 A59 c59 x59, Ck.ol OI 3 A54 1 [p1]] := hH'
          clear hH'
          try dsimp only [putL, setL, evL, getL]
          refine HK_free (by kernel_rfl) ?_
          refine HX_done (by kernel_rfl) ?_
          refine hK44 _ _ ?_
          refine HT_ret ?_
          replace hH := hH.conv [3] (by decide) (d := Ck.el OS170 [.int .i64 u45.1, .slice A59 x59.length c59] (u45.1, x59)) (Ent.pair (v1 := [.int .i64 u45.1]) (v2 := [.slice A59 x59.length c59]) (x1 := u45.1) (x2 := x59) (Ent.flat rfl) Ent.sl)
          dsimp only [addC, setC, rmC, selC, getC] at hH
          replace H := headE H
          obtain ⟨x62, hx62, H⟩ := H
          replace hH := hH.close (i := IntKind.i64.wrap ((pf0_0.length : Int) - 1)) 0 5 (by decide) rfl rfl rfl hx62
          dsimp only [addC, setC, rmC, selC, getC] at hH
          have hl62 := st?_len hx62
          replace hH : Hp sb s F0 s61 [Ck.ol OS170 170 Af0_0p cf0_0p x62, Ck.ov bpf0 [.slice Af0_0p pf0_0.length cf0_0p] 85, Ck.emp, Ck.emp, Ck.ol OI 3 A54 1 [p1], Ck.emp] := hH
          replace hH : Hp sb s F0 s61 [Ck.ol OS170 170 Af0_0p cf0_0p x62, Ck.ov bpf0 [.slice Af0_0p x62.length cf0_0p] 85, Ck.emp, Ck.emp, Ck.ol OI 3 A54 1 [p1], Ck.emp] := by rw [hl62]; exact hH
          exact hQr _ _ [] trivial (retH (fun r => impl_DiffOf_1.post sb s F0 bpf0 r _ _) (show some _ = some r from H) ⟨Af0_0p, cf0_0p, rfl, hH.sel [0, 1] (by decide)⟩)
    · replace H := iteF hb43 H
      refine HT_false (congrArg Value.bool hb43) ?_
      refine HT_skip ?_
      refine hK32 _ _ ?_
      refine HT_region ?_
      refine HL_cons rfl ?_
      refine o_load' rfl Try.underlying85 rfl (hH.hasv 1 rfl rfl) ?_
      try dsimp only [putL, setL, evL, getL]
      refine HL_cons rfl ?_
      refine o_move ?_
      try dsimp only [putL, setL, evL, getL]
      refine HL_cons rfl ?_
      refine o_move ?_
      try dsimp only [putL, setL, evL, getL]
      refine HL_cons rfl ?_
      refine o_litF (K := KI) (O := OI) (ca := #[.int .i64 p1]) [[.int .i64 p1]] [p1] hH Try.underlying24 tI3 rfl (by decide) rfl rfl (by kernel_rfl) rfl ⟨rfl, Ent.own (Ent.flat rfl), trivial⟩ ?_
      intro A63 s63 hH' hG
      replace hH : Hp sb s F0 s63 [Ck.ol OS170 170 Af0_0p cf0_0p pf0_0, Ck.ov bpf0 [.slice Af0_0p pf0_0.length cf0_0p] 85, Ck.ol OI 3 A63 1 [p1]] := hH'
      clear hH' hG
      try dsimp only [putL, setL, evL, getL]
      refine HL_cons rfl ?_
      refine o_build (pl := [(0, 1), (1, 1)]) (cs := #[.int .i64 p0, .slice A63 [p1].length 1]) Try.underlying170 tI170 (by kernel_rfl) (by kernel_rfl) rfl ?_
      try dsimp only [putL, setL, evL, getL]
      replace hH := hH.conv [2] (by decide) (d := Ck.el OS170 [.int .i64 p0, .slice A63 [p1].length 1] (p0, [p1])) (Ent.pair (v1 := [.int .i64 p0]) (v2 := [.slice A63 [p1].length 1]) (x1 := p0) (x2 := [p1]) (Ent.flat rfl) Ent.sl)
      dsimp only [addC, setC, rmC, selC, getC] at hH
      refine HL_cons rfl ?_
      refine o_litD (K := KS170) (O := OS170) (ca := #[.int .i64 p0, .slice A63 [p1].length 1]) [[.int .i64 p0, .slice A63 [p1].length 1]] [(p0, [p1])] hH [3] (by decide) rfl Try.underlying85 tI170 rfl (by decide) rfl rfl rfl rfl (by kernel_rfl) rfl ?_
      intro A64 s64 hH' hG
      replace hH : Hp sb s F0 s64 [Ck.ol OS170 170 Af0_0p cf0_0p pf0_0, Ck.ov bpf0 [.slice Af0_0p pf0_0.length cf0_0p] 85, Ck.emp, Ck.emp, Ck.ol OS170 170 A64 1 [(p0, [p1])]] := hH'
      clear hH' hG
      try dsimp only [putL, setL, evL, getL]
      replace H := headE H
      obtain ⟨x65, hx65, H⟩ := H
      refine HL_cons rfl ?_
      refine o_appD (K := KS170) (n := 4398046511104) (A := Af0_0p) (c := cf0_0p) (xs := pf0_0) (ys := [(p0, [p1])]) (B := A64) (c2 := 1) hH 0 4 (by decide) rfl rfl rfl rfl rfl Try.underlying85 tI170 rfl (by decide) (by decide) (by decide) hx65 ?_
      intro A65 c65 s65 hH'
      replace hH : Hp sb s F0 s65 [Ck.ol OS170 170 A65 c65 x65, Ck.ov bpf0 [.slice Af0_0p pf0_0.length cf0_0p] 85, Ck.emp, Ck.emp, Ck.emp] := hH'
      clear hH'
      try dsimp only [putL, setL, evL, getL]
      refine HL_cons rfl ?_
      refine o_stvH (vs := [.slice A65 x65.length c65]) (us' := [.slice A65 x65.length c65]) hH 1 rfl rfl rfl rfl rfl tI85 rfl (List.cons_ne_nil _ _) rfl rfl rfl ?_
      intro s66 hH'
      replace hH : Hp sb s F0 s66 [Ck.ol OS170 170 A65 c65 x65, Ck.ov bpf0 [.slice A65 x65.length c65] 85, Ck.emp, Ck.emp, Ck.emp] := hH'
      clear hH'
      try dsimp only [putL, setL, evL, getL]
      refine HL_nil ?_
      exact hQn _ _ [] trivial (retH (fun r => impl_DiffOf_1.post sb s F0 bpf0 r _ _) (show some _ = some r from H) ⟨A65, c65, rfl, hH.sel [0, 1] (by decide)⟩)
def impl_along_impl_DiffOf_1.l1 (p0 : List (Int)) (p1 : List (Int)) (u2 : (List (List (Int)))) : Nat → Int → Int → (List ((Int) × (List (Int)))) → Option (List ((Int) × (List (Int))))
  | 0, _, _, _ => none
  | kf + 1, x213, x214, x215 => (if (decide (x213 < (p0.length : Int))) = true then (some true) else (some (decide (x214 < (p1.length : Int))))).bind fun (o : Bool) => match o with | x280 => (if x280 = true then (if (x214 == (p1.length : Int)) = true then ((rd? p0 x213).bind fun u287 => (impl_DiffOf_1.f 2 u287 x215).bind fun u288 => impl_along_impl_DiffOf_1.l1 p0 p1 u2 kf (IntKind.i64.wrap (x213 + 1)) x214 u288) else (if (x213 == (p0.length : Int)) = true then ((rd? p1 x214).bind fun u293 => (impl_DiffOf_1.f 3 u293 x215).bind fun u294 => impl_along_impl_DiffOf_1.l1 p0 p1 u2 kf x213 (IntKind.i64.wrap (x214 + 1)) u294) else ((rd? p0 x213).bind fun u297 => (rd? p1 x214).bind fun u298 => if (u297 == u298) = true then ((rd? p0 x213).bind fun u301 => (impl_DiffOf_1.f 1 u301 x215).bind fun u302 => impl_along_impl_DiffOf_1.l1 p0 p1 u2 kf (IntKind.i64.wrap (x213 + 1)) (IntKind.i64.wrap (x214 + 1)) u302) else ((rd? u2 (IntKind.i64.wrap (x213 + 1))).bind fun u305 => (rd? u305 x214).bind fun u307 => (rd? u2 x213).bind fun u308 => (rd? u308 x214).bind fun u310 => if (u307 == u310) = true then ((rd? p0 x213).bind fun u313 => (impl_DiffOf_1.f 2 u313 x215).bind fun u314 => impl_along_impl_DiffOf_1.l1 p0 p1 u2 kf (IntKind.i64.wrap (x213 + 1)) x214 u314) else ((rd? p1 x214).bind fun u317 => (impl_DiffOf_1.f 3 u317 x215).bind fun u318 => impl_along_impl_DiffOf_1.l1 p0 p1 u2 kf x213 (IntKind.i64.wrap (x214 + 1)) u318))))) else (some x215))
def impl_along_impl_DiffOf_1.f (p0 : List (Int)) (p1 : List (Int)) (p2c0_0 : List ((Int) × (List (Int)))) : Option (List ((Int) × (List (Int)))) := (impl_commons.f p0 p1).bind fun u2 => (impl_along_impl_DiffOf_1.l1 p0 p1 u2 (p0.length + p1.length + 2) 0 0 p2c0_0).bind fun (o : (List ((Int) × (List (Int))))) => match o with | x162 => (some x162)
def impl_along_impl_DiffOf_1.post (sb s : St) (F0 : Fp) (bp2c0 : Nat) (r : (List ((Int) × (List (Int))))) : Value → St → Prop := fun v s' => ∃ (A0 : Option Addr) (c0 : Nat), v = .tuple #[] ∧ Hp sb s F0 s' [Ck.ol OS170 170 A0 c0 r, Ck.ov bp2c0 [.slice A0 r.length c0] 85]
set_option maxRecDepth 100000 in
set_option maxHeartbeats 4000000 in
theorem impl_along_impl_DiffOf_1.ok (sb s : St) (F0 : Fp) (A0p : Option Addr) (c0p : Nat) (p0 : List (Int)) (A1p : Option Addr) (c1p : Nat) (p1 : List (Int)) (bp2c0 : Nat) (A2c0_0p : Option Addr) (c2c0_0p : Nat) (p2c0_0 : List ((Int) × (List (Int)))) (HRp0 : Rd KI sb A0p c0p p0) (HRp1 : Rd KI sb A1p c1p p1) (hH : Hp sb s F0 s [Ck.ov bp2c0 [.slice A2c0_0p p2c0_0.length c2c0_0p] 85, Ck.ol OS170 170 A2c0_0p c2c0_0p p2c0_0]) (r : (List ((Int) × (List (Int))))) (H : impl_along_impl_DiffOf_1.f p0 p1 p2c0_0 = some r) : GCall Try.prog 157 #[.slice A0p p0.length c0p, .slice A1p p1.length c1p, .func (.func 158) #[] #[.pointer (some ⟨bp2c0, 0, none⟩)]] s (impl_along_impl_DiffOf_1.post sb s F0 bp2c0 r) := by
  refine GCall_ofk [] [.slice A0p p0.length c0p, .slice A1p p1.length c1p, .func (.func 158) #[] #[.pointer (some ⟨bp2c0, 0, none⟩)], undef, undef, undef, undef, undef, undef, undef, undef, undef, undef, undef, undef, undef, undef, undef, undef, undef, undef, undef, undef, undef, undef, undef, undef, undef, undef, undef, undef, undef, undef, undef, undef, undef, undef, undef, undef, undef, undef, undef, undef, undef, undef, undef, undef, undef, undef, undef, undef, undef, undef, undef, undef, undef, undef, undef, undef, undef, undef, undef, undef, undef, undef, undef, undef, undef, undef, undef, undef, undef, undef, undef, undef, undef, undef, undef, undef, undef, undef, undef, undef, undef, undef, undef, undef, undef, undef, undef, undef, undef, undef, undef, undef, undef, undef, undef, undef, undef, undef] Try.func157 rfl rfl rfl ?_
  intro w Q hQr hQn hQp
  replace H := topE H
  unfold impl_along_impl_DiffOf_1.f at H
  refine HT_seq_k ?_
  intro K1 hK1
  refine HT_region ?_
  refine HL_cons rfl ?_
  refine o_move ?_
  try dsimp only [putL, setL, evL, getL]
  refine HL_cons rfl ?_
  refine o_move ?_
  try dsimp only [putL, setL, evL, getL]
  replace H := headE H
  obtain ⟨u2, hu2, H⟩ := H
  refine HL_cons rfl ?_
  refine o_call (args := #[.slice A0p p0.length c0p, .slice A1p p1.length c1p]) Try.func207 rfl rfl rfl (impl_commons.ok sb s no A0p c0p p0 A1p c1p p1 HRp0 HRp1 (Hp.own hH.bs) _ hu2) ?_
  rintro _ s2 ⟨A3, c3, rfl, hD⟩
  replace hH := hH.back0 hD (Up.refl _ _ _)
  clear hD
  dsimp only [addC, setC, rmC, selC, getC] at hH
  try dsimp only [putL, setL, evL, getL]
  refine HL_cons rfl ?_
  refine o_assign ?_
  try dsimp only [putL, setL, evL, getL]
  refine HL_cons rfl ?_
  refine o_assign ?_
  try dsimp only [putL, setL, evL, getL]
  refine HL_cons rfl ?_
  refine o_assign ?_
  try dsimp only [putL, setL, evL, getL]
  refine HL_nil ?_
  refine hK1 _ _ ?_
  refine joinH H fun G4 hG4 H => ?_
  refine HT_toK (fun l' s' => ∃ (x162 : List ((Int) × (List (Int)))) (A162 : Option Addr) (c162 : Nat), G4 x162 = some r ∧ l' = [.slice A0p p0.length c0p, .slice A1p p1.length c1p, .func (.func 158) #[] #[.pointer (some ⟨bp2c0, 0, none⟩)], undef, undef, undef, .slice A3 u2.length c3, getL l' 7, getL l' 8, .slice A0p p0.length c0p, .slice A1p p1.length c1p, .slice A3 u2.length c3, getL l' 12, getL l' 13, getL l' 14, getL l' 15, getL l' 16, getL l' 17, getL l' 18, getL l' 19, getL l' 20, getL l' 21, getL l' 22, getL l' 23, getL l' 24, getL l' 25, getL l' 26, getL l' 27, getL l' 28, getL l' 29, getL l' 30, getL l' 31, getL l' 32, getL l' 33, getL l' 34, getL l' 35, getL l' 36, getL l' 37, getL l' 38, getL l' 39, getL l' 40, getL l' 41, getL l' 42, getL l' 43, getL l' 44, getL l' 45, getL l' 46, getL l' 47, getL l' 48, getL l' 49, getL l' 50, getL l' 51, getL l' 52, getL l' 53, getL l' 54, getL l' 55, getL l' 56, getL l' 57, getL l' 58, getL l' 59, getL l' 60, getL l' 61, getL l' 62, getL l' 63, getL l' 64, getL l' 65, getL l' 66, getL l' 67, getL l' 68, getL l' 69, getL l' 70, getL l' 71, getL l' 72, getL l' 73, getL l' 74, getL l' 75, getL l' 76, getL l' 77, getL l' 78, getL l' 79, getL l' 80, getL l' 81, getL l' 82, getL l' 83, getL l' 84, getL l' 85, getL l' 86, getL l' 87, getL l' 88, getL l' 89, getL l' 90, getL l' 91, getL l' 92, getL l' 93, getL l' 94, getL l' 95, getL l' 96, getL l' 97, getL l' 98, getL l' 99, getL l' 100] ∧ Hp sb s F0 s' [Ck.ol OS170 170 A162 c162 x162, Ck.ov bp2c0 [.slice A162 x162.length c162] 85]) ?_ ?_
  · intro K4 hK4
    refine HT_block ?_
    refine HT_loopK (fun kf l' s' => ∃ (x213 : Int) (x214 : Int) (x215 : List ((Int) × (List (Int)))) (A215 : Option Addr) (c215 : Nat), (impl_along_impl_DiffOf_1.l1 p0 p1 u2 kf x213 x214 x215).bind G4 = some r ∧ l' = [.slice A0p p0.length c0p, .slice A1p p1.length c1p, .func (.func 158) #[] #[.pointer (some ⟨bp2c0, 0, none⟩)], undef, undef, undef, .slice A3 u2.length c3, .int .i64 x213, .int .i64 x214, .slice A0p p0.length c0p, .slice A1p p1.length c1p, .slice A3 u2.length c3, getL l' 12, getL l' 13, getL l' 14, getL l' 15, getL l' 16, getL l' 17, getL l' 18, getL l' 19, getL l' 20, getL l' 21, getL l' 22, getL l' 23, getL l' 24, getL l' 25, getL l' 26, getL l' 27, getL l' 28, getL l' 29, getL l' 30, getL l' 31, getL l' 32, getL l' 33, getL l' 34, getL l' 35, getL l' 36, getL l' 37, getL l' 38, getL l' 39, getL l' 40, getL l' 41, getL l' 42, getL l' 43, getL l' 44, getL l' 45, getL l' 46, getL l' 47, getL l' 48, getL l' 49, getL l' 50, getL l' 51, getL l' 52, getL l' 53, getL l' 54, getL l' 55, getL l' 56, getL l' 57, getL l' 58, getL l' 59, getL l' 60, getL l' 61, getL l' 62, getL l' 63, getL l' 64, getL l' 65, getL l' 66, getL l' 67, getL l' 68, getL l' 69, getL l' 70, getL l' 71, getL l' 72, getL l' 73, getL l' 74, getL l' 75, getL l' 76, getL l' 77, getL l' 78, getL l' 79, getL l' 80, getL l' 81, getL l' 82, getL l' 83, getL l' 84, getL l' 85, getL l' 86, getL l' 87, getL l' 88, getL l' 89, getL l' 90, getL l' 91, getL l' 92, getL l' 93, getL l' 94, getL l' 95, getL l' 96, getL l' 97, getL l' 98, getL l' 99, getL l' 100] ∧ Hp sb s F0 s' [Ck.ol OS170 170 A215 c215 x215, Ck.ol (Ow.sl OI 3) 24 A3 c3 u2, Ck.ov bp2c0 [.slice A215 x215.length c215] 85]) (p0.length + p1.length + 2) ⟨0, 0, p2c0_0, A2c0_0p, c2c0_0p, H, rfl, hH.sel [1, 2, 0] (by decide)⟩ ?_
    rintro kf l' s269 ⟨x213, x214, x215, A215, c215, H, hl, hH⟩ K269 hK269
    generalize getL l' 12 = j12, getL l' 13 = j13, getL l' 14 = j14, getL l' 15 = j15, getL l' 16 = j16, getL l' 17 = j17, getL l' 18 = j18, getL l' 19 = j19, getL l' 20 = j20, getL l' 21 = j21, getL l' 22 = j22, getL l' 23 = j23, getL l' 24 = j24, getL l' 25 = j25, getL l' 26 = j26, getL l' 27 = j27, getL l' 28 = j28, getL l' 29 = j29, getL l' 30 = j30, getL l' 31 = j31, getL l' 32 = j32, getL l' 33 = j33, getL l' 34 = j34, getL l' 35 = j35, getL l' 36 = j36, getL l' 37 = j37, getL l' 38 = j38, getL l' 39 = j39, getL l' 40 = j40, getL l' 41 = j41, getL l' 42 = j42, getL l' 43 = j43, getL l' 44 = j44, getL l' 45 = j45, getL l' 46 = j46, getL l' 47 = j47, getL l' 48 = j48, getL l' 49 = j49, getL l' 50 = j50, getL l' 51 = j51, getL l' 52 = j52, getL l' 53 = j53, getL l' 54 = j54, getL l' 55 = j55, getL l' 56 = j56, getL l' 57 = j57, getL l' 58 = j58, getL l' 59 = j59, getL l' 60 = j60, getL l' 61 = j61, getL l' 62 = j62, getL l' 63 = j63, getL l' 64 = j64, getL l' 65 = j65, getL l' 66 = j66, getL l' 67 = j67, getL l' 68 = j68, getL l' 69 = j69, getL l' 70 = j70, getL l' 71 = j71, getL l' 72 = j72, getL l' 73 = j73, getL l' 74 = j74, getL l' 75 = j75, getL l' 76 = j76, getL l' 77 = j77, getL l' 78 = j78, getL l' 79 = j79, getL l' 80 = j80, getL l' 81 = j81, getL l' 82 = j82, getL l' 83 = j83, getL l' 84 = j84, getL l' 85 = j85, getL l' 86 = j86, getL l' 87 = j87, getL l' 88 = j88, getL l' 89 = j89, getL l' 90 = j90, getL l' 91 = j91, getL l' 92 = j92, getL l' 93 = j93, getL l' 94 = j94, getL l' 95 = j95, getL l' 96 = j96, getL l' 97 = j97, getL l' 98 = j98, getL l' 99 = j99, getL l' 100 = j100 at hl
    subst hl
    cases kf with
    | zero => simp [impl_along_impl_DiffOf_1.l1] at H
    | succ kf =>
      rw [impl_along_impl_DiffOf_1.l1] at H
      refine HT_seq_k ?_
      intro K277 hK277
      refine joinH H fun G278 hG278 H => ?_
      refine HT_joinK (fun l' s' => ∃ (x280 : Bool), G278 x280 = some r ∧ l' = [.slice A0p p0.length c0p, .slice A1p p1.length c1p, .func (.func 158) #[] #[.pointer (some ⟨bp2c0, 0, none⟩)], undef, undef, undef, .slice A3 u2.length c3, .int .i64 x213, .int .i64 x214, .slice A0p p0.length c0p, .slice A1p p1.length c1p, .slice A3 u2.length c3, getL l' 12, getL l' 13, getL l' 14, getL l' 15, getL l' 16, getL l' 17, getL l' 18, getL l' 19, getL l' 20, .bool x280, j22, j23, j24, j25, j26, j27, j28, j29, j30, j31, j32, j33, j34, j35, j36, j37, j38, j39, j40, j41, j42, j43, j44, j45, j46, j47, j48, j49, j50, j51, j52, j53, j54, j55, j56, j57, j58, j59, j60, j61, j62, j63, j64, j65, j66, j67, j68, j69, j70, j71, j72, j73, j74, j75, j76, j77, j78, j79, j80, j81, j82, j83, j84, j85, j86, j87, j88, j89, j90, j91, j92, j93, j94, j95, j96, j97, j98, j99, j100] ∧ Hp sb s F0 s' [Ck.ol (Ow.sl OI 3) 24 A3 c3 u2, Ck.ol OS170 170 A215 c215 x215, Ck.ov bp2c0 [.slice A215 x215.length c215] 85]) ?_ ?_
      · intro K278 hK278
        refine HT_region ?_
        refine HL_cons rfl ?_
        refine o_move ?_
        try dsimp only [putL, setL, evL, getL]
        refine HL_cons rfl ?_
        refine o_move ?_
        try dsimp only [putL, setL, evL, getL]
        refine HL_cons rfl ?_
        refine o_len rfl Try.underlying24 ?_
        try dsimp only [putL, setL, evL, getL]
        refine HL_cons rfl ?_
        refine o_bin rfl rfl rfl ?_
        try dsimp only [putL, setL, evL, getL]
        refine HL_cons rfl ?_
        refine o_move ?_
        try dsimp only [putL, setL, evL, getL]
        rcases Bool.eq_false_or_eq_true (decide (x213 < (p0.length : Int))) with hb281 | hb281
        · replace H := iteT hb281 H
          refine HL_skip ?_ ?_
          · exact wantF (j := 4) (b := false) (t := 16) (c := decide (x213 < (p0.length : Int))) rfl rfl rfl rfl hb281
          try dsimp only [putL, setL, evL, getL]
          refine HL_skip ?_ ?_
          · exact wantF (j := 4) (b := false) (t := 16) (c := decide (x213 < (p0.length : Int))) rfl rfl rfl rfl hb281
          try dsimp only [putL, setL, evL, getL]
          refine HL_skip ?_ ?_
          · exact wantF (j := 4) (b := false) (t := 16) (c := decide (x213 < (p0.length : Int))) rfl rfl rfl rfl hb281
          try dsimp only [putL, setL, evL, getL]
          refine HL_skip ?_ ?_
          · exact wantF (j := 4) (b := false) (t := 16) (c := decide (x213 < (p0.length : Int))) rfl rfl rfl rfl hb281
          try dsimp only [putL, setL, evL, getL]
          refine HL_cons rfl ?_
          refine o_pickT rfl hb281 ?_
          try dsimp only [putL, setL, evL, getL]
          refine HL_nil ?_
          exact hK278 _ _ ⟨true, H, rfl, hH.sel [1, 0, 2] (by decide)⟩
        · replace H := iteF hb281 H
          refine HL_want ?_ ?_
          · exact wantT (j := 4) (b := false) (t := 16) (c := decide (x213 < (p0.length : Int))) rfl rfl rfl rfl hb281
          refine o_move ?_
          try dsimp only [putL, setL, evL, getL]
          refine HL_want ?_ ?_
          · exact wantT (j := 4) (b := false) (t := 16) (c := decide (x213 < (p0.length : Int))) rfl rfl rfl rfl hb281
          refine o_move ?_
          try dsimp only [putL, setL, evL, getL]
          refine HL_want ?_ ?_
          · exact wantT (j := 4) (b := false) (t := 16) (c := decide (x213 < (p0.length : Int))) rfl rfl rfl rfl hb281
          refine o_len rfl Try.underlying24 ?_
          try dsimp only [putL, setL, evL, getL]
          refine HL_want ?_ ?_
          · exact wantT (j := 4) (b := false) (t := 16) (c := decide (x213 < (p0.length : Int))) rfl rfl rfl rfl hb281
          refine o_bin rfl rfl rfl ?_
          try dsimp only [putL, setL, evL, getL]
          refine HL_cons rfl ?_
          refine o_pickF rfl hb281 ?_
          try dsimp only [putL, setL, evL, getL]
          refine HL_nil ?_
          exact hK278 _ _ ⟨decide (x214 < (p1.length : Int)), H, rfl, hH.sel [1, 0, 2] (by decide)⟩
      · rintro l' s282 ⟨x280, H, hl, hH⟩
        generalize getL l' 12 = j12, getL l' 13 = j13, getL l' 14 = j14, getL l' 15 = j15, getL l' 16 = j16, getL l' 17 = j17, getL l' 18 = j18, getL l' 19 = j19, getL l' 20 = j20 at hl
        subst hl
        replace H := hG278 _ H
        try dsimp only at H
        rcases Bool.eq_false_or_eq_true x280 with hb283 | hb283
        · replace H := iteT hb283 H
          refine HT_true (congrArg Value.bool hb283) ?_
          refine HT_skip ?_
          refine hK277 _ _ ?_
          refine HT_block ?_
          refine HT_block ?_
          refine HT_seq_k ?_
          intro K284 hK284
          refine HT_region ?_
          refine HL_cons rfl ?_
          refine o_move ?_
          try dsimp only [putL, setL, evL, getL]
          refine HL_cons rfl ?_
          refine o_move ?_
          try dsimp only [putL, setL, evL, getL]
          refine HL_cons rfl ?_
          refine o_len rfl Try.underlying24 ?_
          try dsimp only [putL, setL, evL, getL]
          refine HL_cons rfl ?_
          refine o_bin rfl rfl rfl ?_
          try dsimp only [putL, setL, evL, getL]
          refine HL_cons rfl ?_
          refine o_assign ?_
          try dsimp only [putL, setL, evL, getL]
          refine HL_nil ?_
          refine hK284 _ _ ?_
          rcases Bool.eq_false_or_eq_true (x214 == (p1.length : Int)) with hb285 | hb285
          · replace H := iteT hb285 H
            refine HT_true (congrArg Value.bool hb285) ?_
            refine HT_seq_k ?_
            intro K286 hK286
            refine HT_region ?_
            refine HL_cons rfl ?_
            refine o_move ?_
            try dsimp only [putL, setL, evL, getL]
            refine HL_cons rfl ?_
            refine o_move ?_
            try dsimp only [putL, setL, evL, getL]
            refine HL_cons rfl ?_
            refine o_move ?_
            try dsimp only [putL, setL, evL, getL]
            replace H := headE H
            obtain ⟨u287, hu287, H⟩ := H
            obtain ⟨b287, o287, cs287, hr287, hh287, hel287⟩ := Rd.elb HRp0 hu287
            obtain rfl := hr287
            refine HL_cons rfl ?_
            refine hel287 s282 rfl rfl Try.underlying24 tI3 ?_
            try dsimp only [putL, setL, evL, getL]
            refine HL_cons rfl ?_
            refine o_load' rfl Try.underlying3 rfl ((hh287 hH.bs.mono) 0 _ rfl) ?_
            try dsimp only [putL, setL, evL, getL]
            replace H := headE H
            obtain ⟨u288, hu288, H⟩ := H
            obtain ⟨F1, hA, hB⟩ := hH.take [2, 1] (by decide)
            dsimp only [addC, setC, rmC, selC, getC] at hA
            refine HL_cons rfl ?_
            refine o_callv (first := #[]) (cap := #[.pointer (some ⟨bp2c0, 0, none⟩)]) (args := #[.int .i64 2, .int .i64 u287, .pointer (some ⟨bp2c0, 0, none⟩)]) rfl Try.func158 rfl rfl [.int .i64 2, .int .i64 u287] rfl (by simp) (impl_DiffOf_1.ok sb s282 F1 2 u287 bp2c0 A215 c215 x215 hA _ hu288) ?_
            rintro _ s288 ⟨A289, c289, rfl, hD⟩
            replace hH := hB _ _ _ (Up.refl _ _ _) hD
            clear hD hA hB
            dsimp only [addC, setC, rmC, selC, getC] at hH
            try dsimp only [putL, setL, evL, getL]
            refine HL_nil ?_
            refine hK286 _ _ ?_
            refine HT_region ?_
            refine HL_cons rfl ?_
            refine o_move ?_
            try dsimp only [putL, setL, evL, getL]
            refine HL_cons rfl ?_
            refine o_bin rfl rfl rfl ?_
            try dsimp only [putL, setL, evL, getL]
            refine HL_cons rfl ?_
            refine o_assign ?_
            try dsimp only [putL, setL, evL, getL]
            refine HL_nil ?_
            exact hK269 _ _ ⟨kf, Nat.lt_succ_self kf, IntKind.i64.wrap (x213 + 1), x214, u288, A289, c289, H, rfl, hH.sel [3, 0, 4] (by decide)⟩
          · replace H := iteF hb285 H
            refine HT_false (congrArg Value.bool hb285) ?_
            refine HT_seq_k ?_
            intro K290 hK290
            refine HT_region ?_
            refine HL_cons rfl ?_
            refine o_move ?_
            try dsimp only [putL, setL, evL, getL]
            refine HL_cons rfl ?_
            refine o_move ?_
            try dsimp only [putL, setL, evL, getL]
            refine HL_cons rfl ?_
            refine o_len rfl Try.underlying24 ?_
            try dsimp only [putL, setL, evL, getL]
            refine HL_cons rfl ?_
            refine o_bin rfl rfl rfl ?_
            try dsimp only [putL, setL, evL, getL]
            refine HL_cons rfl ?_
            refine o_assign ?_
            try dsimp only [putL, setL, evL, getL]
            refine HL_nil ?_
            refine hK290 _ _ ?_
            rcases Bool.eq_false_or_eq_true (x213 == (p0.length : Int)) with hb291 | hb291
            · replace H := iteT hb291 H
              refine HT_true (congrArg Value.bool hb291) ?_
              refine HT_seq_k ?_
              intro K292 hK292
              refine HT_region ?_
              refine HL_cons rfl ?_
              refine o_move ?_
              try dsimp only [putL, setL, evL, getL]
              refine HL_cons rfl ?_
              refine o_move ?_
              try dsimp only [putL, setL, evL, getL]
              refine HL_cons rfl ?_
              refine o_move ?_
              try dsimp only [putL, setL, evL, getL]
              replace H := headE H
              obtain ⟨u293, hu293, H⟩ := H
              obtain ⟨b293, o293, cs293, hr293, hh293, hel293⟩ := Rd.elb HRp1 hu293
              obtain rfl := hr293
              refine HL_cons rfl ?_
              refine hel293 s282 rfl rfl Try.underlying24 tI3 ?_
              try dsimp only [putL, setL, evL, getL]
              refine HL_cons rfl ?_
              refine o_load' rfl Try.underlying3 rfl ((hh293 hH.bs.mono) 0 _ rfl) ?_
              try dsimp only [putL, setL, evL, getL]
              replace H := headE H
              obtain ⟨u294, hu294, H⟩ := H
              obtain ⟨F1, hA, hB⟩ := hH.take [2, 1] (by decide)
              dsimp only [addC, setC, rmC, selC, getC] at hA
              refine HL_cons rfl ?_
              refine o_callv (first := #[]) (cap := #[.pointer (some ⟨bp2c0, 0, none⟩)]) (args := #[.int .i64 3, .int .i64 u293, .pointer (some ⟨bp2c0, 0, none⟩)]) rfl Try.func158 rfl rfl [.int .i64 3, .int .i64 u293] rfl (by simp) (impl_DiffOf_1.ok sb s282 F1 3 u293 bp2c0 A215 c215 x215 hA _ hu294) ?_
              rintro _ s294 ⟨A295, c295, rfl, hD⟩
              replace hH := hB _ _ _ (Up.refl _ _ _) hD
              clear hD hA hB
              dsimp only [addC, setC, rmC, selC, getC] at hH
              try dsimp only [putL, setL, evL, getL]
              refine HL_nil ?_
              refine hK292 _ _ ?_
              refine HT_region ?_
              refine HL_cons rfl ?_
              refine o_move ?_
              try dsimp only [putL, setL, evL, getL]
              refine HL_cons rfl ?_
              refine o_bin rfl rfl rfl ?_
              try dsimp only [putL, setL, evL, getL]
              refine HL_cons rfl ?_
              refine o_assign ?_
              try dsimp only [putL, setL, evL, getL]
              refine HL_nil ?_
              exact hK269 _ _ ⟨kf, Nat.lt_succ_self kf, x213, IntKind.i64.wrap (x214 + 1), u294, A295, c295, H, rfl, hH.sel [3, 0, 4] (by decide)⟩
            · replace H := iteF hb291 H
              refine HT_false (congrArg Value.bool hb291) ?_
              refine HT_seq_k ?_
              intro K296 hK296
              refine HX_draw hMix ?_
              refine HX_lim (R := fun _ => True) (k := 0) (fun s' => Gro s282 s') 11 ?_
              have hR := Gro.refl s282
              have hH0 := hH
              refine HK_readP 0 (v := .slice A0p p0.length c0p) rfl (by kernel_rfl) (fun c l s h => hQp c l s h) rfl (fun s' K hK => ?_) rfl rfl (fun _ => hR) ?_
              · refine o_move ?_
                exact hK
              try dsimp only [putL, setL, evL, getL]
              refine HK_readP 1 (v := .int .i64 x213) rfl (by kernel_rfl) (fun c l s h => hQp c l s h) rfl (fun s' K hK => ?_) rfl rfl (fun _ => hR) ?_
              · refine o_move ?_
                exact hK
              try dsimp only [putL, setL, evL, getL]
              replace H := headE H
              obtain ⟨u297, hu297, H⟩ := H
              obtain ⟨b297, o297, cs297, hr297, hh297, hel297⟩ := Rd.elb HRp0 hu297
              obtain rfl := hr297
              refine HK_readP 2 (v := .pointer (some ⟨b297, o297, none⟩)) rfl (by kernel_rfl) (fun c l s h => hQp c l s h) rfl (fun s' K hK => ?_) rfl rfl (fun _ => hR) ?_
              · refine hel297 s' rfl rfl Try.underlying24 tI3 ?_
                exact hK
              try dsimp only [putL, setL, evL, getL]
              refine HK_read 3 (v := .int .i64 u297) rfl (by kernel_rfl) (fun c l s h => hQp c l s h) rfl (fun s' hR' K hK => ?_) rfl rfl hR ?_
              · refine o_load' rfl Try.underlying3 rfl ((hh297 (hH0.bs.mono.trans hR'.mono)) 0 _ rfl) ?_
                exact hK
              try dsimp only [putL, setL, evL, getL]
              refine HK_readP 4 (v := .slice A1p p1.length c1p) rfl (by kernel_rfl) (fun c l s h => hQp c l s h) rfl (fun s' K hK => ?_) rfl rfl (fun _ => hR) ?_
              · refine o_move ?_
                exact hK
              try dsimp only [putL, setL, evL, getL]
              refine HK_readP 5 (v := .int .i64 x214) rfl (by kernel_rfl) (fun c l s h => hQp c l s h) rfl (fun s' K hK => ?_) rfl rfl (fun _ => hR) ?_
              · refine o_move ?_
                exact hK
              try dsimp only [putL, setL, evL, getL]
              replace H := headE H
              obtain ⟨u298, hu298, H⟩ := H
              obtain ⟨b298, o298, cs298, hr298, hh298, hel298⟩ := Rd.elb HRp1 hu298
              obtain rfl := hr298
              refine HK_readP 6 (v := .pointer (some ⟨b298, o298, none⟩)) rfl (by kernel_rfl) (fun c l s h => hQp c l s h) rfl (fun s' K hK => ?_) rfl rfl (fun _ => hR) ?_
              · refine hel298 s' rfl rfl Try.underlying24 tI3 ?_
                exact hK
              try dsimp only [putL, setL, evL, getL]
              refine HK_read 7 (v := .int .i64 u298) rfl (by kernel_rfl) (fun c l s h => hQp c l s h) rfl (fun s' hR' K hK => ?_) rfl rfl hR ?_
              · refine o_load' rfl Try.underlying3 rfl ((hh298 (hH0.bs.mono.trans hR'.mono)) 0 _ rfl) ?_
                exact hK
              try dsimp only [putL, setL, evL, getL]
              refine HK_readP 8 (v := .bool (u297 == u298)) rfl (by kernel_rfl) (fun c l s h => hQp c l s h) rfl (fun s' K hK => ?_) rfl rfl (fun _ => hR) ?_
              · refine o_bin rfl rfl rfl ?_
                exact hK
              try dsimp only [putL, setL, evL, getL]
              refine HK_more [9] (by kernel_rfl) rfl (fun _ => hR) ⟨⟨_, rfl, Or.inl ⟨rfl, ?_⟩⟩, trivial⟩
              skip
              refine o_assign ?_
              try dsimp only [putL, setL, evL, getL]
              refine HK_done (fun _ => hR) (by kernel_rfl) ?_
              refine hK296 _ _ ?_
              rcases Bool.eq_false_or_eq_true (u297 == u298) with hb299 | hb299
              · replace H := iteT hb299 H
                refine HT_true (congrArg Value.bool hb299) ?_
                refine HT_seq_k ?_
                intro K300 hK300
                refine HT_region ?_
                refine HL_cons rfl ?_
                refine o_move ?_
                try dsimp only [putL, setL, evL, getL]
                refine HL_cons rfl ?_
                refine o_move ?_
                try dsimp only [putL, setL, evL, getL]
                refine HL_cons rfl ?_
                refine o_move ?_
                try dsimp only [putL, setL, evL, getL]
                replace H := headE H
                obtain ⟨u301, hu301, H⟩ := H
                obtain ⟨b301, o301, cs301, hr301, hh301, hel301⟩ := Rd.elb HRp0 hu301
                obtain rfl := hr301
                refine HL_cons rfl ?_
                refine hel301 s282 rfl rfl Try.underlying24 tI3 ?_
                try dsimp only [putL, setL, evL, getL]
                refine HL_cons rfl ?_
                refine o_load' rfl Try.underlying3 rfl ((hh301 hH.bs.mono) 0 _ rfl) ?_
                try dsimp only [putL, setL, evL, getL]
                replace H := headE H
                obtain ⟨u302, hu302, H⟩ := H
                obtain ⟨F1, hA, hB⟩ := hH.take [2, 1] (by decide)
                dsimp only [addC, setC, rmC, selC, getC] at hA
                refine HL_cons rfl ?_
                refine o_callv (first := #[]) (cap := #[.pointer (some ⟨bp2c0, 0, none⟩)]) (args := #[.int .i64 1, .int .i64 u301, .pointer (some ⟨bp2c0, 0, none⟩)]) rfl Try.func158 rfl rfl [.int .i64 1, .int .i64 u301] rfl (by simp) (impl_DiffOf_1.ok sb s282 F1 1 u301 bp2c0 A215 c215 x215 hA _ hu302) ?_
                rintro _ s302 ⟨A303, c303, rfl, hD⟩
                replace hH := hB _ _ _ (Up.refl _ _ _) hD
                clear hD hA hB
                dsimp only [addC, setC, rmC, selC, getC] at hH
                try dsimp only [putL, setL, evL, getL]
                refine HL_nil ?_
                refine hK300 _ _ ?_
                refine HT_region ?_
                refine HL_cons rfl ?_
                refine o_move ?_
                try dsimp only [putL, setL, evL, getL]
                refine HL_cons rfl ?_
                refine o_bin rfl rfl rfl ?_
                try dsimp only [putL, setL, evL, getL]
                refine HL_cons rfl ?_
                refine o_move ?_
                try dsimp only [putL, setL, evL, getL]
                refine HL_cons rfl ?_
                refine o_bin rfl rfl rfl ?_
                try dsimp only [putL, setL, evL, getL]
                refine HL_cons rfl ?_
                refine o_assign ?_
                try dsimp only [putL, setL, evL, getL]
                refine HL_cons rfl ?_
                refine o_assign ?_
                try dsimp only [putL, setL, evL, getL]
                refine HL_nil ?_
                exact hK269 _ _ ⟨kf, Nat.lt_succ_self kf, IntKind.i64.wrap (x213 + 1), IntKind.i64.wrap (x214 + 1), u302, A303, c303, H, rfl, hH.sel [3, 0, 4] (by decide)⟩
              · replace H := iteF hb299 H
                refine HT_false (congrArg Value.bool hb299) ?_
                refine HT_seq_k ?_
                intro K304 hK304
                refine HX_draw hMix ?_
                refine HX_lim (R := fun _ => True) (k := 0) (fun s' => Gro s282 s') 18 ?_
                have hR := Gro.refl s282
                have hH0 := hH
                refine HK_readP 0 (v := .slice A3 u2.length c3) rfl (by kernel_rfl) (fun c l s h => hQp c l s h) rfl (fun s' K hK => ?_) rfl rfl (fun _ => hR) ?_
                · refine o_move ?_
                  exact hK
                try dsimp only [putL, setL, evL, getL]
                refine HK_readP 1 (v := .int .i64 x213) rfl (by kernel_rfl) (fun c l s h => hQp c l s h) rfl (fun s' K hK => ?_) rfl rfl (fun _ => hR) ?_
                · refine o_move ?_
                  exact hK
                try dsimp only [putL, setL, evL, getL]
                refine HK_readP 2 (v := .int .i64 (IntKind.i64.wrap (x213 + 1))) rfl (by kernel_rfl) (fun c l s h => hQp c l s h) rfl (fun s' K hK => ?_) rfl rfl (fun _ => hR) ?_
                · refine o_bin rfl rfl rfl ?_
                  exact hK
                try dsimp only [putL, setL, evL, getL]
                replace H := headE H
                obtain ⟨u305, hu305, H⟩ := H
                obtain ⟨b305, o305, cs305, hA305, hr305, hh305, hel305⟩ := hH0.elo 0 rfl hu305
                obtain ⟨A306, c306, rfl, D306⟩ := hr305
                refine HK_readP 3 (v := .pointer (some ⟨b305, o305 + Int.toNat (IntKind.i64.wrap (x213 + 1)) * Kd.sz (Kd.sl KI), none⟩)) rfl (by kernel_rfl) (fun c l s h => hQp c l s h) rfl (fun s' K hK => ?_) rfl rfl (fun _ => hR) ?_
                · refine hel305 s' rfl rfl Try.underlying105 tI24 ?_
                  exact hK
                try dsimp only [putL, setL, evL, getL]
                refine HK_read 4 (v := .slice A306 u305.length c306) rfl (by kernel_rfl) (fun c l s h => hQp c l s h) rfl (fun s' hR' K hK => ?_) rfl rfl hR ?_
                · refine o_load' rfl Try.underlying24 rfl (has_gro hR' (hh305 0 _ rfl)) ?_
                  exact hK
                try dsimp only [putL, setL, evL, getL]
                refine HK_readP 5 (v := .int .i64 x214) rfl (by kernel_rfl) (fun c l s h => hQp c l s h) rfl (fun s' K hK => ?_) rfl rfl (fun _ => hR) ?_
                · refine o_move ?_
                  exact hK
                try dsimp only [putL, setL, evL, getL]
                replace H := headE H
                obtain ⟨u307, hu307, H⟩ := H
                obtain ⟨b307, o307, cs307, hr307, hh307, hel307⟩ := Rd.el D306 hu307
                obtain rfl := hr307
                refine HK_readP 6 (v := .pointer (some ⟨b307, o307, none⟩)) rfl (by kernel_rfl) (fun c l s h => hQp c l s h) rfl (fun s' K hK => ?_) rfl rfl (fun _ => hR) ?_
                · refine hel307 s' rfl rfl Try.underlying24 tI3 ?_
                  exact hK
                try dsimp only [putL, setL, evL, getL]
                refine HK_read 7 (v := .int .i64 u307) rfl (by kernel_rfl) (fun c l s h => hQp c l s h) rfl (fun s' hR' K hK => ?_) rfl rfl hR ?_
                · refine o_load' rfl Try.underlying3 rfl (has_gro hR' (hh307 0 _ rfl)) ?_
                  exact hK
                try dsimp only [putL, setL, evL, getL]
                refine HK_readP 8 (v := .slice A3 u2.length c3) rfl (by kernel_rfl) (fun c l s h => hQp c l s h) rfl (fun s' K hK => ?_) rfl rfl (fun _ => hR) ?_
                · refine o_move ?_
                  exact hK
                try dsimp only [putL, setL, evL, getL]
                refine HK_readP 9 (v := .int .i64 x213) rfl (by kernel_rfl) (fun c l s h => hQp c l s h) rfl (fun s' K hK => ?_) rfl rfl (fun _ => hR) ?_
                · refine o_move ?_
                  exact hK
                try dsimp only [putL, setL, evL, getL]
                replace H := headE H
                obtain ⟨u308, hu308, H⟩ := H
                obtain ⟨b308, o308, cs308, hA308, hr308, hh308, hel308⟩ := hH0.elo 0 rfl hu308
                obtain ⟨A309, c309, rfl, D309⟩ := hr308
                refine HK_readP 10 (v := .pointer (some ⟨b308, o308 + Int.toNat x213 * Kd.sz (Kd.sl KI), none⟩)) rfl (by kernel_rfl) (fun c l s h => hQp c l s h) rfl (fun s' K hK => ?_) rfl rfl (fun _ => hR) ?_
                · refine hel308 s' rfl rfl Try.underlying105 tI24 ?_
                  exact hK
                try dsimp only [putL, setL, evL, getL]
                refine HK_read 11 (v := .slice A309 u308.length c309) rfl (by kernel_rfl) (fun c l s h => hQp c l s h) rfl (fun s' hR' K hK => ?_) rfl rfl hR ?_
                · refine o_load' rfl Try.underlying24 rfl (has_gro hR' (hh308 0 _ rfl)) ?_
                  exact hK
                try dsimp only [putL, setL, evL, getL]
                refine HK_readP 12 (v := .int .i64 x214) rfl (by kernel_rfl) (fun c l s h => hQp c l s h) rfl (fun s' K hK => ?_) rfl rfl (fun _ => hR) ?_
                · refine o_move ?_
                  exact hK
                try dsimp only [putL, setL, evL, getL]
                replace H := headE H
                obtain ⟨u310, hu310, H⟩ := H
                obtain ⟨b310, o310, cs310, hr310, hh310, hel310⟩ := Rd.el D309 hu310
                obtain rfl := hr310
                refine HK_readP 13 (v := .pointer (some ⟨b310, o310, none⟩)) rfl (by kernel_rfl) (fun c l s h => hQp c l s h) rfl (fun s' K hK => ?_) rfl rfl (fun _ => hR) ?_
                · refine hel310 s' rfl rfl Try.underlying24 tI3 ?_
                  exact hK
                try dsimp only [putL, setL, evL, getL]
                refine HK_read 14 (v := .int .i64 u310) rfl (by kernel_rfl) (fun c l s h => hQp c l s h) rfl (fun s' hR' K hK => ?_) rfl rfl hR ?_
                · refine o_load' rfl Try.underlying3 rfl (has_gro hR' (hh310 0 _ rfl)) ?_
                  exact hK
                try dsimp only [putL, setL, evL, getL]
                refine HK_readP 15 (v := .bool (u307 == u310)) rfl (by kernel_rfl) (fun c l s h => hQp c l s h) rfl (fun s' K hK => ?_) rfl rfl (fun _ => hR) ?_
                · refine o_bin rfl rfl rfl ?_
                  exact hK
                try dsimp only [putL, setL, evL, getL]
                refine HK_more [16] (by kernel_rfl) rfl (fun _ => hR) ⟨⟨_, rfl, Or.inl ⟨rfl, ?_⟩⟩, trivial⟩
                skip
                refine o_assign ?_
                try dsimp only [putL, setL, evL, getL]
                refine HK_done (fun _ => hR) (by kernel_rfl) ?_
                refine hK304 _ _ ?_
                rcases Bool.eq_false_or_eq_true (u307 == u310) with hb311 | hb311
                · replace H := iteT hb311 H
                  refine HT_true (congrArg Value.bool hb311) ?_
                  refine HT_seq_k ?_
                  intro K312 hK312
                  refine HT_region ?_
                  refine HL_cons rfl ?_
                  refine o_move ?_
                  try dsimp only [putL, setL, evL, getL]
                  refine HL_cons rfl ?_
                  refine o_move ?_
                  try dsimp only [putL, setL, evL, getL]
                  refine HL_cons rfl ?_
                  refine o_move ?_
                  try dsimp only [putL, setL, evL, getL]
                  replace H := headE H
                  obtain ⟨u313, hu313, H⟩ := H
                  obtain ⟨b313, o313, cs313, hr313, hh313, hel313⟩ := Rd.elb HRp0 hu313
                  obtain rfl := hr313
                  refine HL_cons rfl ?_
                  refine hel313 s282 rfl rfl Try.underlying24 tI3 ?_
                  try dsimp only [putL, setL, evL, getL]
                  refine HL_cons rfl ?_
                  refine o_load' rfl Try.underlying3 rfl ((hh313 hH.bs.mono) 0 _ rfl) ?_
                  try dsimp only [putL, setL, evL, getL]
                  replace H := headE H
                  obtain ⟨u314, hu314, H⟩ := H
                  obtain ⟨F1, hA, hB⟩ := hH.take [2, 1] (by decide)
                  dsimp only [addC, setC, rmC, selC, getC] at hA
                  refine HL_cons rfl ?_
                  refine o_callv (first := #[]) (cap := #[.pointer (some ⟨bp2c0, 0, none⟩)]) (args := #[.int .i64 2, .int .i64 u313, .pointer (some ⟨bp2c0, 0, none⟩)]) rfl Try.func158 rfl rfl [.int .i64 2, .int .i64 u313] rfl (by simp) (impl_DiffOf_1.ok sb s282 F1 2 u313 bp2c0 A215 c215 x215 hA _ hu314) ?_
                  rintro _ s314 ⟨A315, c315, rfl, hD⟩
                  replace hH := hB _ _ _ (Up.refl _ _ _) hD
                  clear hD hA hB
                  dsimp only [addC, setC, rmC, selC, getC] at hH
                  try dsimp only [putL, setL, evL, getL]
                  refine HL_nil ?_
                  refine hK312 _ _ ?_
                  refine HT_region ?_
                  refine HL_cons rfl ?_
                  refine o_move ?_
                  try dsimp only [putL, setL, evL, getL]
                  refine HL_cons rfl ?_
                  refine o_bin rfl rfl rfl ?_
                  try dsimp only [putL, setL, evL, getL]
                  refine HL_cons rfl ?_
                  refine o_assign ?_
                  try dsimp only [putL, setL, evL, getL]
                  refine HL_nil ?_
                  exact hK269 _ _ ⟨kf, Nat.lt_succ_self kf, IntKind.i64.wrap (x213 + 1), x214, u314, A315, c315, H, rfl, hH.sel [3, 0, 4] (by decide)⟩
                · replace H := iteF hb311 H
                  refine HT_false (congrArg Value.bool hb311) ?_
                  refine HT_seq_k ?_
                  intro K316 hK316
                  refine HT_region ?_
                  refine HL_cons rfl ?_
                  refine o_move ?_
                  try dsimp only [putL, setL, evL, getL]
                  refine HL_cons rfl ?_
                  refine o_move ?_
                  try dsimp only [putL, setL, evL, getL]
                  refine HL_cons rfl ?_
                  refine o_move ?_
                  try dsimp only [putL, setL, evL, getL]
                  replace H := headE H
                  obtain ⟨u317, hu317, H⟩ := H
                  obtain ⟨b317, o317, cs317, hr317, hh317, hel317⟩ := Rd.elb HRp1 hu317
                  obtain rfl := hr317
                  refine HL_cons rfl ?_
                  refine hel317 s282 rfl rfl Try.underlying24 tI3 ?_
                  try dsimp only [putL, setL, evL, getL]
                  refine HL_cons rfl ?_
                  refine o_load' rfl Try.underlying3 rfl ((hh317 hH.bs.mono) 0 _ rfl) ?_
                  try dsimp only [putL, setL, evL, getL]
                  replace H := headE H
                  obtain ⟨u318, hu318, H⟩ := H
                  obtain ⟨F1, hA, hB⟩ := hH.take [2, 1] (by decide)
                  dsimp only [addC, setC, rmC, selC, getC] at hA
                  refine HL_cons rfl ?_
                  refine o_callv (first := #[]) (cap := #[.pointer (some ⟨bp2c0, 0, none⟩)]) (args := #[.int .i64 3, .int .i64 u317, .pointer (some ⟨bp2c0, 0, none⟩)]) rfl Try.func158 rfl rfl [.int .i64 3, .int .i64 u317] rfl (by simp) (impl_DiffOf_1.ok sb s282 F1 3 u317 bp2c0 A215 c215 x215 hA _ hu318) ?_
                  rintro _ s318 ⟨A319, c319, rfl, hD⟩
                  replace hH := hB _ _ _ (Up.refl _ _ _) hD
                  clear hD hA hB
                  dsimp only [addC, setC, rmC, selC, getC] at hH
                  try dsimp only [putL, setL, evL, getL]
                  refine HL_nil ?_
                  refine hK316 _ _ ?_
                  refine HT_region ?_
                  refine HL_cons rfl ?_
                  refine o_move ?_
                  try dsimp only [putL, setL, evL, getL]
                  refine HL_cons rfl ?_
                  refine o_bin rfl rfl rfl ?_
                  try dsimp only [putL, setL, evL, getL]
                  refine HL_cons rfl ?_
                  refine o_assign ?_
                  try dsimp only [putL, setL, evL, getL]
                  refine HL_nil ?_
                  exact hK269 _ _ ⟨kf, Nat.lt_succ_self kf, x213, IntKind.i64.wrap (x214 + 1), u318, A319, c319, H, rfl, hH.sel [3, 0, 4] (by decide)⟩
        · replace H := iteF hb283 H
          refine HT_false (congrArg Value.bool hb283) ?_
          refine HT_exit ?_
          exact hK4 _ _ ⟨x215, A215, c215, H, rfl, hH.sel [1, 2] (by decide)⟩
  · rintro l' s320 ⟨x162, A162, c162, H, hl, hH⟩
    generalize getL l' 7 = j7, getL l' 8 = j8, getL l' 12 = j12, getL l' 13 = j13, getL l' 14 = j14, getL l' 15 = j15, getL l' 16 = j16, getL l' 17 = j17, getL l' 18 = j18, getL l' 19 = j19, getL l' 20 = j20, getL l' 21 = j21, getL l' 22 = j22, getL l' 23 = j23, getL l' 24 = j24, getL l' 25 = j25, getL l' 26 = j26, getL l' 27 = j27, getL l' 28 = j28, getL l' 29 = j29, getL l' 30 = j30, getL l' 31 = j31, getL l' 32 = j32, getL l' 33 = j33, getL l' 34 = j34, getL l' 35 = j35, getL l' 36 = j36, getL l' 37 = j37, getL l' 38 = j38, getL l' 39 = j39, getL l' 40 = j40, getL l' 41 = j41, getL l' 42 = j42, getL l' 43 = j43, getL l' 44 = j44, getL l' 45 = j45, getL l' 46 = j46, getL l' 47 = j47, getL l' 48 = j48, getL l' 49 = j49, getL l' 50 = j50, getL l' 51 = j51, getL l' 52 = j52, getL l' 53 = j53, getL l' 54 = j54, getL l' 55 = j55, getL l' 56 = j56, getL l' 57 = j57, getL l' 58 = j58, getL l' 59 = j59, getL l' 60 = j60, getL l' 61 = j61, getL l' 62 = j62, getL l' 63 = j63, getL l' 64 = j64, getL l' 65 = j65, getL l' 66 = j66, getL l' 67 = j67, getL l' 68 = j68, getL l' 69 = j69, getL l' 70 = j70, getL l' 71 = j71, getL l' 72 = j72, getL l' 73 = j73, getL l' 74 = j74, getL l' 75 = j75, getL l' 76 = j76, getL l' 77 = j77, getL l' 78 = j78, getL l' 79 = j79, getL l' 80 = j80, getL l' 81 = j81, getL l' 82 = j82, getL l' 83 = j83, getL l' 84 = j84, getL l' 85 = j85, getL l' 86 = j86, getL l' 87 = j87, getL l' 88 = j88, getL l' 89 = j89, getL l' 90 = j90, getL l' 91 = j91, getL l' 92 = j92, getL l' 93 = j93, getL l' 94 = j94, getL l' 95 = j95, getL l' 96 = j96, getL l' 97 = j97, getL l' 98 = j98, getL l' 99 = j99, getL l' 100 = j100 at hl
    subst hl
    replace H := hG4 _ H
    try dsimp only at H
    exact hQn _ _ [] trivial (retH (fun r => impl_along_impl_DiffOf_1.post sb s F0 bp2c0 r _ _) (show some _ = some r from H) ⟨A162, c162, rfl, hH⟩)
def impl_DiffOf.f (p0 : List (Int)) (p1 : List (Int)) : Option ((List ((Int) × (List (Int)))) × Bool) := (impl_areShort.f [p0, p1]).bind fun u5 => if (!u5) = true then (some ([], false)) else ((impl_along_impl_DiffOf_1.f p0 p1 ([] : List ((Int) × (List (Int))))).bind fun u13 => some (u13, true))
def impl_DiffOf.post (sb s : St) (F0 : Fp) (r : (List ((Int) × (List (Int)))) × Bool) : Value → St → Prop := fun v s' => ∃ (A0 : Option Addr) (c0 : Nat), v = .tuple #[.slice A0 r.1.length c0, .bool r.2] ∧ Hp sb s F0 s' [Ck.ol OS170 170 A0 c0 r.1]
set_option maxRecDepth 100000 in
set_option maxHeartbeats 4000000 in
theorem impl_DiffOf.ok (sb s : St) (F0 : Fp) (A0p : Option Addr) (c0p : Nat) (p0 : List (Int)) (A1p : Option Addr) (c1p : Nat) (p1 : List (Int)) (HRp0 : Rd KI sb A0p c0p p0) (HRp1 : Rd KI sb A1p c1p p1) (hH : Hp sb s F0 s []) (r : (List ((Int) × (List (Int)))) × Bool) (H : impl_DiffOf.f p0 p1 = some r) : GCall Try.prog 67 #[.slice A0p p0.length c0p, .slice A1p p1.length c1p] s (impl_DiffOf.post sb s F0 r) := by
  refine GCall_ofk [.tmp 4, .tmp 5] [.slice A0p p0.length c0p, .slice A1p p1.length c1p, undef, undef, undef, undef, undef, undef, undef, undef, undef, undef, undef, undef, undef, undef, undef, undef] Try.func67 rfl rfl rfl ?_
  intro w Q hQr hQn hQp
  replace H := topE H
  unfold impl_DiffOf.f at H
  refine HT_seq_k ?_
  intro K1 hK1
  refine HT_region ?_
  refine HL_cons rfl ?_
  refine o_assign ?_
  try dsimp only [putL, setL, evL, getL]
  refine HL_cons rfl ?_
  refine o_assign ?_
  try dsimp only [putL, setL, evL, getL]
  refine HL_nil ?_
  refine hK1 _ _ ?_
  refine HT_seq_k ?_
  intro K2 hK2
  refine HT_seq_k ?_
  intro K3 hK3
  refine HT_region ?_
  refine HL_cons rfl ?_
  refine o_move ?_
  try dsimp only [putL, setL, evL, getL]
  refine HL_cons rfl ?_
  refine o_move ?_
  try dsimp only [putL, setL, evL, getL]
  refine HL_cons rfl ?_
  refine o_litF (K := (Kd.sl KI)) (O := (Ow.lent (Kd.sl KI))) (ca := #[.slice A0p p0.length c0p, .slice A1p p1.length c1p]) [[.slice A0p p0.length c0p], [.slice A1p p1.length c1p]] [p0, p1] hH Try.underlying105 tI24 rfl (by decide) rfl rfl (by kernel_rfl) rfl ⟨rfl, Ent.own (Ent.lent ⟨_, _, rfl, HRp0⟩), rfl, Ent.own (Ent.lent ⟨_, _, rfl, HRp1⟩), trivial⟩ ?_
  intro A4 s4 hH' hG
  replace hH : Hp sb s F0 s4 [Ck.ol (Ow.lent (Kd.sl KI)) 24 A4 2 [p0, p1]] := hH'
  clear hH' hG
  try dsimp only [putL, setL, evL, getL]
  replace H := headE H
  obtain ⟨u5, hu5, H⟩ := H
  refine HL_cons rfl ?_
  refine o_call (args := #[.slice A4 [p0, p1].length 2]) Try.func99 rfl rfl rfl (impl_areShort.ok s4 s4 no A4 2 [p0, p1] (hH.rd 0 rfl) (Hp.own (Bs.refl s4)) _ hu5) ?_
  rintro _ s5 ⟨rfl, hD⟩
  replace hH := hH.back0T hD
  clear hD
  dsimp only [addC, setC, rmC, selC, getC] at hH
  try dsimp only [putL, setL, evL, getL]
  refine HL_cons rfl ?_
  refine o_not rfl ?_
  try dsimp only [putL, setL, evL, getL]
  refine HL_nil ?_
  refine hK3 _ _ ?_
  rcases Bool.eq_false_or_eq_true (!u5) with hb6 | hb6
  · replace H := iteT hb6 H
    refine HT_true (congrArg Value.bool hb6) ?_
    refine HT_seq_k ?_
    intro K7 hK7
    refine HT_region ?_
    refine HL_cons rfl ?_
    refine o_assign ?_
    try dsimp only [putL, setL, evL, getL]
    refine HL_cons rfl ?_
    refine o_assign ?_
    try dsimp only [putL, setL, evL, getL]
    refine HL_nil ?_
    refine hK7 _ _ ?_
    refine HT_ret ?_
    exact hQr _ _ [.slice none 0 0, .bool false] ⟨rfl, rfl, trivial⟩ (retH (fun r => impl_DiffOf.post sb s F0 r _ _) (show some _ = some r from H) ⟨none, 0, rfl, (hH.nil (K := KS170) OS170 170).sel [1] (by decide)⟩)
  · replace H := iteF hb6 H
    refine HT_false (congrArg Value.bool hb6) ?_
    refine HT_skip ?_
    refine hK2 _ _ ?_
    refine HT_seq_k ?_
    intro K8 hK8
    refine HT_region ?_
    refine HL_cons rfl ?_
    refine o_lit0H (α := (Int) × (List (Int))) (K := KS170) (O := OS170) hH Try.underlying85 tI170 ?_
    intro A9 s9 hH' hG
    replace hH : Hp sb s F0 s9 [Ck.ol (Ow.lent (Kd.sl KI)) 24 A4 2 [p0, p1], Ck.ol OS170 170 A9 0 ([] : List ((Int) × (List (Int))))] := hH'
    clear hH' hG
    try dsimp only [putL, setL, evL, getL]
    refine HL_cons rfl ?_
    refine o_allocH hH tI85 ?_
    intro b10 s10 hH' hG
    replace hH : Hp sb s F0 s10 [Ck.ol (Ow.lent (Kd.sl KI)) 24 A4 2 [p0, p1], Ck.ol OS170 170 A9 0 ([] : List ((Int) × (List (Int)))), Ck.ov b10 [.slice none 0 0] 85] := hH'
    clear hH' hG
    try dsimp only [putL, setL, evL, getL]
    refine HL_cons rfl ?_
    refine o_stvH (vs := [.slice A9 ([] : List ((Int) × (List (Int)))).length 0]) (us' := [.slice A9 ([] : List ((Int) × (List (Int)))).length 0]) hH 2 rfl rfl rfl rfl rfl tI85 rfl (List.cons_ne_nil _ _) rfl rfl rfl ?_
    intro s11 hH'
    replace hH : Hp sb s F0 s11 [Ck.ol (Ow.lent (Kd.sl KI)) 24 A4 2 [p0, p1], Ck.ol OS170 170 A9 0 ([] : List ((Int) × (List (Int)))), Ck.ov b10 [.slice A9 ([] : List ((Int) × (List (Int)))).length 0] 85] := hH'
    clear hH'
    try dsimp only [putL, setL, evL, getL]
    refine HL_nil ?_
    refine hK8 _ _ ?_
    refine HT_seq_k ?_
    intro K12 hK12
    refine HT_region ?_
    refine HL_cons rfl ?_
    refine o_move ?_
    try dsimp only [putL, setL, evL, getL]
    refine HL_cons rfl ?_
    refine o_move ?_
    try dsimp only [putL, setL, evL, getL]
    refine HL_cons rfl ?_
    refine o_func rfl rfl ?_
    try dsimp only [putL, setL, evL, getL]
    replace H := headE H
    obtain ⟨u13, hu13, H⟩ := H
    obtain ⟨F1, hA, hB⟩ := hH.take [2, 1] (by decide)
    dsimp only [addC, setC, rmC, selC, getC] at hA
    refine HL_cons rfl ?_
    refine o_call (args := #[.slice A0p p0.length c0p, .slice A1p p1.length c1p, .func (.func 158) #[] #[.pointer (some ⟨b10, 0, none⟩)]]) Try.func157 rfl rfl rfl (impl_along_impl_DiffOf_1.ok sb s11 F1 A0p c0p p0 A1p c1p p1 b10 A9 0 ([] : List ((Int) × (List (Int)))) HRp0 HRp1 hA _ hu13) ?_
    rintro _ s13 ⟨A14, c14, rfl, hD⟩
    replace hH := hB _ _ _ (Up.refl _ _ _) hD
    clear hD hA hB
    dsimp only [addC, setC, rmC, selC, getC] at hH
    try dsimp only [putL, setL, evL, getL]
    refine HL_nil ?_
    refine hK12 _ _ ?_
    refine HT_seq_k ?_
    intro K15 hK15
    refine HT_region ?_
    refine HL_cons rfl ?_
    refine o_load' rfl Try.underlying85 rfl (hH.hasv 4 rfl rfl) ?_
    try dsimp only [putL, setL, evL, getL]
    refine HL_cons rfl ?_
    refine o_assign ?_
    try dsimp only [putL, setL, evL, getL]
    refine HL_cons rfl ?_
    refine o_assign ?_
    try dsimp only [putL, setL, evL, getL]
    refine HL_nil ?_
    refine hK15 _ _ ?_
    refine HT_ret ?_
    exact hQr _ _ [.slice A14 u13.length c14, .bool true] ⟨rfl, rfl, trivial⟩ (retH (fun r => impl_DiffOf.post sb s F0 r _ _) (show some _ = some r from H) ⟨A14, c14, rfl, hH.sel [3] (by decide)⟩)
def spec_l1In.f (p0 : Int) (p1 : Int) (p2 : Int) : Option Bool := if (decide (p0 ≥ p1)) = true then (some (decide (p0 ≤ p2))) else (some false)
def spec_l1In.post (sb s : St) (F0 : Fp) (r : Bool) : Value → St → Prop := fun v s' => v = .bool r ∧ Hp sb s F0 s' []
set_option maxRecDepth 100000 in
set_option maxHeartbeats 4000000 in
theorem spec_l1In.ok (sb s : St) (F0 : Fp) (p0 : Int) (p1 : Int) (p2 : Int) (hH : Hp sb s F0 s []) (r : Bool) (H : spec_l1In.f p0 p1 p2 = some r) : GCall Try.prog 108 #[.int .i64 p0, .int .i64 p1, .int .i64 p2] s (spec_l1In.post sb s F0 r) := by
  refine GCall_ofk [.tmp 6] [.int .i64 p0, .int .i64 p1, .int .i64 p2, undef, undef, undef, undef, undef, undef, undef, undef, undef, undef, undef, undef] Try.func108 rfl rfl rfl ?_
  intro w Q hQr hQn hQp
  replace H := topE H
  unfold spec_l1In.f at H
  refine HT_seq_k ?_
  intro K1 hK1
  refine HT_region ?_
  refine HL_cons rfl ?_
  refine o_assign ?_
  try dsimp only [putL, setL, evL, getL]
  refine HL_nil ?_
  refine hK1 _ _ ?_
  refine HT_seq_k ?_
  intro K2 hK2
  refine HT_region ?_
  refine HL_cons rfl ?_
  refine o_move ?_
  try dsimp only [putL, setL, evL, getL]
  refine HL_cons rfl ?_
  refine o_move ?_
  try dsimp only [putL, setL, evL, getL]
  refine HL_cons rfl ?_
  refine o_bin rfl rfl rfl ?_
  try dsimp only [putL, setL, evL, getL]
  refine HL_cons rfl ?_
  refine o_move ?_
  try dsimp only [putL, setL, evL, getL]
  rcases Bool.eq_false_or_eq_true (decide (p0 ≥ p1)) with hb3 | hb3
  · replace H := iteT hb3 H
    refine HL_want ?_ ?_
    · exact wantT (j := 3) (b := true) (t := 10) (c := decide (p0 ≥ p1)) rfl rfl rfl rfl hb3
    refine o_move ?_
    try dsimp only [putL, setL, evL, getL]
    refine HL_want ?_ ?_
    · exact wantT (j := 3) (b := true) (t := 10) (c := decide (p0 ≥ p1)) rfl rfl rfl rfl hb3
    refine o_move ?_
    try dsimp only [putL, setL, evL, getL]
    refine HL_want ?_ ?_
    · exact wantT (j := 3) (b := true) (t := 10) (c := decide (p0 ≥ p1)) rfl rfl rfl rfl hb3
    refine o_bin rfl rfl rfl ?_
    try dsimp only [putL, setL, evL, getL]
    refine HL_cons rfl ?_
    refine o_pickT rfl hb3 ?_
    try dsimp only [putL, setL, evL, getL]
    refine HL_cons rfl ?_
    refine o_assign ?_
    try dsimp only [putL, setL, evL, getL]
    refine HL_nil ?_
    refine hK2 _ _ ?_
    refine HT_ret ?_
    exact hQr _ _ [.bool (decide (p0 ≤ p2))] ⟨rfl, trivial⟩ (retH (fun r => spec_l1In.post sb s F0 r _ _) (show some _ = some r from H) ⟨rfl, hH⟩)
  · replace H := iteF hb3 H
    refine HL_skip ?_ ?_
    · exact wantF (j := 3) (b := true) (t := 10) (c := decide (p0 ≥ p1)) rfl rfl rfl rfl hb3
    try dsimp only [putL, setL, evL, getL]
    refine HL_skip ?_ ?_
    · exact wantF (j := 3) (b := true) (t := 10) (c := decide (p0 ≥ p1)) rfl rfl rfl rfl hb3
    try dsimp only [putL, setL, evL, getL]
    refine HL_skip ?_ ?_
    · exact wantF (j := 3) (b := true) (t := 10) (c := decide (p0 ≥ p1)) rfl rfl rfl rfl hb3
    try dsimp only [putL, setL, evL, getL]
    refine HL_cons rfl ?_
    refine o_pickF rfl hb3 ?_
    try dsimp only [putL, setL, evL, getL]
    refine HL_cons rfl ?_
    refine o_assign ?_
    try dsimp only [putL, setL, evL, getL]
    refine HL_nil ?_
    refine hK2 _ _ ?_
    refine HT_ret ?_
    exact hQr _ _ [.bool false] ⟨rfl, trivial⟩ (retH (fun r => spec_l1In.post sb s F0 r _ _) (show some _ = some r from H) ⟨rfl, hH⟩)
def spec_GoodRune.f (p0 : Int) : Option Bool := (spec_l1In.f p0 0 1114111).bind fun u3 => if u3 = true then ((spec_l1In.f p0 55296 57343).bind fun u5 => some (!u5)) else (some false)
def spec_GoodRune.post (sb s : St) (F0 : Fp) (r : Bool) : Value → St → Prop := fun v s' => v = .bool r ∧ Hp sb s F0 s' []
set_option maxRecDepth 100000 in
set_option maxHeartbeats 4000000 in
theorem spec_GoodRune.ok (sb s : St) (F0 : Fp) (p0 : Int) (hH : Hp sb s F0 s []) (r : Bool) (H : spec_GoodRune.f p0 = some r) : GCall Try.prog 148 #[.int .i64 p0] s (spec_GoodRune.post sb s F0 r) := by
  refine GCall_ofk [.tmp 2] [.int .i64 p0, undef, undef, undef, undef, undef, undef, undef, undef, undef] Try.func148 rfl rfl rfl ?_
  intro w Q hQr hQn hQp
  replace H := topE H
  unfold spec_GoodRune.f at H
  refine HT_seq_k ?_
  intro K1 hK1
  refine HT_region ?_
  refine HL_cons rfl ?_
  refine o_assign ?_
  try dsimp only [putL, setL, evL, getL]
  refine HL_nil ?_
  refine hK1 _ _ ?_
  refine HT_seq_k ?_
  intro K2 hK2
  refine HT_region ?_
  refine HL_cons rfl ?_
  refine o_move ?_
  try dsimp only [putL, setL, evL, getL]
  replace H := headE H
  obtain ⟨u3, hu3, H⟩ := H
  refine HL_cons rfl ?_
  refine o_call (args := #[.int .i64 p0, .int .i64 0, .int .i64 1114111]) Try.func108 rfl rfl rfl (spec_l1In.ok sb s no p0 0 1114111 (Hp.own hH.bs) _ hu3) ?_
  rintro _ s3 ⟨rfl, hD⟩
  replace hH := hH.back0 hD (Up.refl _ _ _)
  clear hD
  dsimp only [addC, setC, rmC, selC, getC] at hH
  try dsimp only [putL, setL, evL, getL]
  refine HL_cons rfl ?_
  refine o_move ?_
  try dsimp only [putL, setL, evL, getL]
  rcases Bool.eq_false_or_eq_true u3 with hb4 | hb4
  · replace H := iteT hb4 H
    refine HL_want ?_ ?_
    · exact wantT (j := 2) (b := true) (t := 5) (c := u3) rfl rfl rfl rfl hb4
    refine o_move ?_
    try dsimp only [putL, setL, evL, getL]
    replace H := headE H
    obtain ⟨u5, hu5, H⟩ := H
    refine HL_want ?_ ?_
    · exact wantT (j := 2) (b := true) (t := 5) (c := u3) rfl rfl rfl rfl hb4
    refine o_call (args := #[.int .i64 p0, .int .i64 55296, .int .i64 57343]) Try.func108 rfl rfl rfl (spec_l1In.ok sb s3 no p0 55296 57343 (Hp.own hH.bs) _ hu5) ?_
    rintro _ s5 ⟨rfl, hD⟩
    replace hH := hH.back0 hD (Up.refl _ _ _)
    clear hD
    dsimp only [addC, setC, rmC, selC, getC] at hH
    try dsimp only [putL, setL, evL, getL]
    refine HL_want ?_ ?_
    · exact wantT (j := 2) (b := true) (t := 5) (c := u3) rfl rfl rfl rfl hb4
    refine o_not rfl ?_
    try dsimp only [putL, setL, evL, getL]
    refine HL_cons rfl ?_
    refine o_pickT rfl hb4 ?_
    try dsimp only [putL, setL, evL, getL]
    refine HL_cons rfl ?_
    refine o_assign ?_
    try dsimp only [putL, setL, evL, getL]
    refine HL_nil ?_
    refine hK2 _ _ ?_
    refine HT_ret ?_
    exact hQr _ _ [.bool (!u5)] ⟨rfl, trivial⟩ (retH (fun r => spec_GoodRune.post sb s F0 r _ _) (show some _ = some r from H) ⟨rfl, hH⟩)
  · replace H := iteF hb4 H
    refine HL_skip ?_ ?_
    · exact wantF (j := 2) (b := true) (t := 5) (c := u3) rfl rfl rfl rfl hb4
    try dsimp only [putL, setL, evL, getL]
    refine HL_skip ?_ ?_
    · exact wantF (j := 2) (b := true) (t := 5) (c := u3) rfl rfl rfl rfl hb4
    try dsimp only [putL, setL, evL, getL]
    refine HL_skip ?_ ?_
    · exact wantF (j := 2) (b := true) (t := 5) (c := u3) rfl rfl rfl rfl hb4
    try dsimp only [putL, setL, evL, getL]
    refine HL_cons rfl ?_
    refine o_pickF rfl hb4 ?_
    try dsimp only [putL, setL, evL, getL]
    refine HL_cons rfl ?_
    refine o_assign ?_
    try dsimp only [putL, setL, evL, getL]
    refine HL_nil ?_
    refine hK2 _ _ ?_
    refine HT_ret ?_
    exact hQr _ _ [.bool false] ⟨rfl, trivial⟩ (retH (fun r => spec_GoodRune.post sb s F0 r _ _) (show some _ = some r from H) ⟨rfl, hH⟩)
def spec_l1AllRunes.l1 (p0 : List (Int)) : Nat → Int → Option (Lo Unit Bool)
  | 0, _ => none
  | kf + 1, x48 => if (decide (x48 < (p0.length : Int))) = true then ((rd? p0 x48).bind fun u66 => (spec_GoodRune.f u66).bind fun u68 => if (!u68) = true then ((some false).bind fun z => some (Lo.ret z)) else (spec_l1AllRunes.l1 p0 kf (IntKind.i64.wrap (x48 + 1)))) else (some (Lo.go ()))
def spec_l1AllRunes.f (p0 : List (Int)) : Option Bool := (spec_l1AllRunes.l1 p0 ((((p0.length : Int)) - (0)).toNat + 2) 0).bind fun (o : Lo Unit Bool) => match o with | .go () => (some (decide ((p0.length : Int) ≤ 1000))) | .ret z => some z
def spec_l1AllRunes.post (sb s : St) (F0 : Fp) (r : Bool) : Value → St → Prop := fun v s' => v = .bool r ∧ Hp sb s F0 s' []
set_option maxRecDepth 100000 in
set_option maxHeartbeats 4000000 in
theorem spec_l1AllRunes.ok (sb s : St) (F0 : Fp) (A0p : Option Addr) (c0p : Nat) (p0 : List (Int)) (HRp0 : Rd KI sb A0p c0p p0) (hH : Hp sb s F0 s []) (r : Bool) (H : spec_l1AllRunes.f p0 = some r) : GCall Try.prog 119 #[.slice A0p p0.length c0p] s (spec_l1AllRunes.post sb s F0 r) := by
  refine GCall_ofk [.tmp 2] [.slice A0p p0.length c0p, undef, undef, undef, undef, undef, undef, undef, undef, undef, undef, undef, undef, undef, undef, undef, undef, undef] Try.func119 rfl rfl rfl ?_
  intro w Q hQr hQn hQp
  replace H := topE H
  unfold spec_l1AllRunes.f at H
  refine HT_seq_k ?_
  intro K1 hK1
  refine HT_region ?_
  refine HL_cons rfl ?_
  refine o_assign ?_
  try dsimp only [putL, setL, evL, getL]
  refine HL_nil ?_
  refine hK1 _ _ ?_
  refine HT_seq_k ?_
  intro K2 hK2
  refine HT_seq_k ?_
  intro K3 hK3
  refine HT_region ?_
  refine HL_cons rfl ?_
  refine o_move ?_
  try dsimp only [putL, setL, evL, getL]
  refine HL_cons rfl ?_
  refine o_len rfl Try.underlying24 ?_
  try dsimp only [putL, setL, evL, getL]
  refine HL_cons rfl ?_
  refine o_move ?_
  try dsimp only [putL, setL, evL, getL]
  refine HL_nil ?_
  refine hK3 _ _ ?_
  refine joinH H fun G4 hG4 H => ?_
  refine HT_toK (fun l' s' => G4 (.go ()) = some r ∧ l' = [.slice A0p p0.length c0p, undef, getL l' 2, undef, getL l' 4, .slice A0p p0.length c0p, .int .i64 (p0.length : Int), getL l' 7, getL l' 8, getL l' 9, getL l' 10, getL l' 11, getL l' 12, getL l' 13, getL l' 14, undef, undef, undef] ∧ Hp sb s F0 s' []) ?_ ?_
  · intro K4 hK4
    refine HT_block ?_
    refine HT_loopK (fun kf l' s' => ∃ (x48 : Int), (spec_l1AllRunes.l1 p0 kf x48).bind G4 = some r ∧ l' = [.slice A0p p0.length c0p, undef, getL l' 2, undef, getL l' 4, .slice A0p p0.length c0p, .int .i64 (p0.length : Int), .int .i64 x48, getL l' 8, getL l' 9, getL l' 10, getL l' 11, getL l' 12, getL l' 13, getL l' 14, undef, undef, undef] ∧ Hp sb s F0 s' []) ((((p0.length : Int)) - (0)).toNat + 2) ⟨0, H, rfl, hH⟩ ?_
    rintro kf l' s60 ⟨x48, H, hl, hH⟩ K60 hK60
    generalize getL l' 2 = j2, getL l' 4 = j4, getL l' 8 = j8, getL l' 9 = j9, getL l' 10 = j10, getL l' 11 = j11, getL l' 12 = j12, getL l' 13 = j13, getL l' 14 = j14 at hl
    subst hl
    cases kf with
    | zero => simp [spec_l1AllRunes.l1] at H
    | succ kf =>
      rw [spec_l1AllRunes.l1] at H
      refine HT_seq_k ?_
      intro K61 hK61
      refine HT_region ?_
      refine HL_cons rfl ?_
      refine o_bin rfl rfl rfl ?_
      try dsimp only [putL, setL, evL, getL]
      refine HL_nil ?_
      refine hK61 _ _ ?_
      refine HT_seq_k ?_
      intro K62 hK62
      rcases Bool.eq_false_or_eq_true (decide (x48 < (p0.length : Int))) with hb63 | hb63
      · replace H := iteT hb63 H
        refine HT_true (congrArg Value.bool hb63) ?_
        refine HT_skip ?_
        refine hK62 _ _ ?_
        refine HT_seq_k ?_
        intro K64 hK64
        refine HT_block ?_
        refine HT_seq_k ?_
        intro K65 hK65
        refine HT_region ?_
        replace H := headE H
        obtain ⟨u66, hu66, H⟩ := H
        obtain ⟨b66, o66, cs66, hr66, hh66, hel66⟩ := Rd.elb HRp0 hu66
        obtain rfl := hr66
        refine HL_cons rfl ?_
        refine hel66 s60 rfl rfl Try.underlying24 tI3 ?_
        try dsimp only [putL, setL, evL, getL]
        refine HL_cons rfl ?_
        refine o_load' rfl Try.underlying3 rfl ((hh66 hH.bs.mono) 0 _ rfl) ?_
        try dsimp only [putL, setL, evL, getL]
        refine HL_cons rfl ?_
        refine o_assign ?_
        try dsimp only [putL, setL, evL, getL]
        refine HL_nil ?_
        refine hK65 _ _ ?_
        refine HT_seq_k ?_
        intro K67 hK67
        refine HT_region ?_
        refine HL_cons rfl ?_
        refine o_move ?_
        try dsimp only [putL, setL, evL, getL]
        replace H := headE H
        obtain ⟨u68, hu68, H⟩ := H
        refine HL_cons rfl ?_
        refine o_call (args := #[.int .i64 u66]) Try.func148 rfl rfl rfl (spec_GoodRune.ok sb s60 no u66 (Hp.own hH.bs) _ hu68) ?_
        rintro _ s68 ⟨rfl, hD⟩
        replace hH := hH.back0 hD (Up.refl _ _ _)
        clear hD
        dsimp only [addC, setC, rmC, selC, getC] at hH
        try dsimp only [putL, setL, evL, getL]
        refine HL_cons rfl ?_
        refine o_not rfl ?_
        try dsimp only [putL, setL, evL, getL]
        refine HL_nil ?_
        refine hK67 _ _ ?_
        rcases Bool.eq_false_or_eq_true (!u68) with hb69 | hb69
        · replace H := iteT hb69 H
          refine HT_true (congrArg Value.bool hb69) ?_
          refine HT_seq_k ?_
          intro K70 hK70
          refine HT_region ?_
          refine HL_cons rfl ?_
          refine o_assign ?_
          try dsimp only [putL, setL, evL, getL]
          refine HL_nil ?_
          refine hK70 _ _ ?_
          refine HT_ret ?_
          replace H := escH (fun z hz => hG4 _ hz) H
          exact hQr _ _ [.bool false] ⟨rfl, trivial⟩ (retH (fun r => spec_l1AllRunes.post sb s F0 r _ _) (show some _ = some r from H) ⟨rfl, hH⟩)
        · replace H := iteF hb69 H
          refine HT_false (congrArg Value.bool hb69) ?_
          refine HT_skip ?_
          refine hK64 _ _ ?_
          refine HT_region ?_
          refine HL_cons rfl ?_
          refine o_bin rfl rfl rfl ?_
          try dsimp only [putL, setL, evL, getL]
          refine HL_cons rfl ?_
          refine o_move ?_
          try dsimp only [putL, setL, evL, getL]
          refine HL_nil ?_
          exact hK60 _ _ ⟨kf, Nat.lt_succ_self kf, IntKind.i64.wrap (x48 + 1), H, rfl, hH⟩
      · replace H := iteF hb63 H
        refine HT_false (congrArg Value.bool hb63) ?_
        refine HT_exit ?_
        exact hK4 _ _ ⟨H, rfl, hH⟩
  · rintro l' s71 ⟨H, hl, hH⟩
    generalize getL l' 2 = j2, getL l' 4 = j4, getL l' 7 = j7, getL l' 8 = j8, getL l' 9 = j9, getL l' 10 = j10, getL l' 11 = j11, getL l' 12 = j12, getL l' 13 = j13, getL l' 14 = j14 at hl
    subst hl
    replace H := hG4 _ H
    try dsimp only at H
    refine hK2 _ _ ?_
    refine HT_seq_k ?_
    intro K72 hK72
    refine HT_region ?_
    refine HL_cons rfl ?_
    refine o_move ?_
    try dsimp only [putL, setL, evL, getL]
    refine HL_cons rfl ?_
    refine o_len rfl Try.underlying24 ?_
    try dsimp only [putL, setL, evL, getL]
    refine HL_cons rfl ?_
    refine o_bin rfl rfl rfl ?_
    try dsimp only [putL, setL, evL, getL]
    refine HL_cons rfl ?_
    refine o_assign ?_
    try dsimp only [putL, setL, evL, getL]
    refine HL_nil ?_
    refine hK72 _ _ ?_
    refine HT_ret ?_
    exact hQr _ _ [.bool (decide ((p0.length : Int) ≤ 1000))] ⟨rfl, trivial⟩ (retH (fun r => spec_l1AllRunes.post sb s F0 r _ _) (show some _ = some r from H) ⟨rfl, hH⟩)
def spec_l15List.f (p0 : List (Int)) : Option Bool := (spec_l1AllRunes.f p0).bind fun u3 => if u3 = true then (some (decide ((p0.length : Int) ≤ 60))) else (some false)
def spec_l15List.post (sb s : St) (F0 : Fp) (r : Bool) : Value → St → Prop := fun v s' => v = .bool r ∧ Hp sb s F0 s' []
set_option maxRecDepth 100000 in
set_option maxHeartbeats 4000000 in
theorem spec_l15List.ok (sb s : St) (F0 : Fp) (A0p : Option Addr) (c0p : Nat) (p0 : List (Int)) (HRp0 : Rd KI sb A0p c0p p0) (hH : Hp sb s F0 s []) (r : Bool) (H : spec_l15List.f p0 = some r) : GCall Try.prog 101 #[.slice A0p p0.length c0p] s (spec_l15List.post sb s F0 r) := by
  refine GCall_ofk [.tmp 2] [.slice A0p p0.length c0p, undef, undef, undef, undef, undef, undef, undef, undef, undef] Try.func101 rfl rfl rfl ?_
  intro w Q hQr hQn hQp
  replace H := topE H
  unfold spec_l15List.f at H
  refine HT_seq_k ?_
  intro K1 hK1
  refine HT_region ?_
  refine HL_cons rfl ?_
  refine o_assign ?_
  try dsimp only [putL, setL, evL, getL]
  refine HL_nil ?_
  refine hK1 _ _ ?_
  refine HT_seq_k ?_
  intro K2 hK2
  refine HT_region ?_
  refine HL_cons rfl ?_
  refine o_move ?_
  try dsimp only [putL, setL, evL, getL]
  replace H := headE H
  obtain ⟨u3, hu3, H⟩ := H
  refine HL_cons rfl ?_
  refine o_call (args := #[.slice A0p p0.length c0p]) Try.func119 rfl rfl rfl (spec_l1AllRunes.ok sb s no A0p c0p p0 HRp0 (Hp.own hH.bs) _ hu3) ?_
  rintro _ s3 ⟨rfl, hD⟩
  replace hH := hH.back0 hD (Up.refl _ _ _)
  clear hD
  dsimp only [addC, setC, rmC, selC, getC] at hH
  try dsimp only [putL, setL, evL, getL]
  refine HL_cons rfl ?_
  refine o_move ?_
  try dsimp only [putL, setL, evL, getL]
  rcases Bool.eq_false_or_eq_true u3 with hb4 | hb4
  · replace H := iteT hb4 H
    refine HL_want ?_ ?_
    · exact wantT (j := 2) (b := true) (t := 5) (c := u3) rfl rfl rfl rfl hb4
    refine o_move ?_
    try dsimp only [putL, setL, evL, getL]
    refine HL_want ?_ ?_
    · exact wantT (j := 2) (b := true) (t := 5) (c := u3) rfl rfl rfl rfl hb4
    refine o_len rfl Try.underlying24 ?_
    try dsimp only [putL, setL, evL, getL]
    refine HL_want ?_ ?_
    · exact wantT (j := 2) (b := true) (t := 5) (c := u3) rfl rfl rfl rfl hb4
    refine o_bin rfl rfl rfl ?_
    try dsimp only [putL, setL, evL, getL]
    refine HL_cons rfl ?_
    refine o_pickT rfl hb4 ?_
    try dsimp only [putL, setL, evL, getL]
    refine HL_cons rfl ?_
    refine o_assign ?_
    try dsimp only [putL, setL, evL, getL]
    refine HL_nil ?_
    refine hK2 _ _ ?_
    refine HT_ret ?_
    exact hQr _ _ [.bool (decide ((p0.length : Int) ≤ 60))] ⟨rfl, trivial⟩ (retH (fun r => spec_l15List.post sb s F0 r _ _) (show some _ = some r from H) ⟨rfl, hH⟩)
  · replace H := iteF hb4 H
    refine HL_skip ?_ ?_
    · exact wantF (j := 2) (b := true) (t := 5) (c := u3) rfl rfl rfl rfl hb4
    try dsimp only [putL, setL, evL, getL]
    refine HL_skip ?_ ?_
    · exact wantF (j := 2) (b := true) (t := 5) (c := u3) rfl rfl rfl rfl hb4
    try dsimp only [putL, setL, evL, getL]
    refine HL_skip ?_ ?_
    · exact wantF (j := 2) (b := true) (t := 5) (c := u3) rfl rfl rfl rfl hb4
    try dsimp only [putL, setL, evL, getL]
    refine HL_cons rfl ?_
    refine o_pickF rfl hb4 ?_
    try dsimp only [putL, setL, evL, getL]
    refine HL_cons rfl ?_
    refine o_assign ?_
    try dsimp only [putL, setL, evL, getL]
    refine HL_nil ?_
    refine hK2 _ _ ?_
    refine HT_ret ?_
    exact hQr _ _ [.bool false] ⟨rfl, trivial⟩ (retH (fun r => spec_l15List.post sb s F0 r _ _) (show some _ = some r from H) ⟨rfl, hH⟩)
def spec_l1Most.f (p0 : Int) (p1 : Int) : Option Int := if (decide (p0 > p1)) = true then (some p0) else (some p1)
def spec_l1Most.post (sb s : St) (F0 : Fp) (r : Int) : Value → St → Prop := fun v s' => v = .int .i64 r ∧ Hp sb s F0 s' []
set_option maxRecDepth 100000 in
set_option maxHeartbeats 4000000 in
theorem spec_l1Most.ok (sb s : St) (F0 : Fp) (p0 : Int) (p1 : Int) (hH : Hp sb s F0 s []) (r : Int) (H : spec_l1Most.f p0 p1 = some r) : GCall Try.prog 187 #[.int .i64 p0, .int .i64 p1] s (spec_l1Most.post sb s F0 r) := by
  refine GCall_ofk [.tmp 4] [.int .i64 p0, .int .i64 p1, undef, undef, undef, undef, undef, undef, undef, undef] Try.func187 rfl rfl rfl ?_
  intro w Q hQr hQn hQp
  replace H := topE H
  unfold spec_l1Most.f at H
  refine HT_seq_k ?_
  intro K1 hK1
  refine HT_region ?_
  refine HL_cons rfl ?_
  refine o_assign ?_
  try dsimp only [putL, setL, evL, getL]
  refine HL_nil ?_
  refine hK1 _ _ ?_
  refine HT_seq_k ?_
  intro K2 hK2
  refine HT_seq_k ?_
  intro K3 hK3
  refine HT_region ?_
  refine HL_cons rfl ?_
  refine o_move ?_
  try dsimp only [putL, setL, evL, getL]
  refine HL_cons rfl ?_
  refine o_move ?_
  try dsimp only [putL, setL, evL, getL]
  refine HL_cons rfl ?_
  refine o_bin rfl rfl rfl ?_
  try dsimp only [putL, setL, evL, getL]
  refine HL_nil ?_
  refine hK3 _ _ ?_
  rcases Bool.eq_false_or_eq_true (decide (p0 > p1)) with hb4 | hb4
  · replace H := iteT hb4 H
    refine HT_true (congrArg Value.bool hb4) ?_
    refine HT_seq_k ?_
    intro K5 hK5
    refine HT_region ?_
    refine HL_cons rfl ?_
    refine o_move ?_
    try dsimp only [putL, setL, evL, getL]
    refine HL_cons rfl ?_
    refine o_assign ?_
    try dsimp only [putL, setL, evL, getL]
    refine HL_nil ?_
    refine hK5 _ _ ?_
    refine HT_ret ?_
    exact hQr _ _ [.int .i64 p0] ⟨rfl, trivial⟩ (retH (fun r => spec_l1Most.post sb s F0 r _ _) (show some _ = some r from H) ⟨rfl, hH⟩)
  · replace H := iteF hb4 H
    refine HT_false (congrArg Value.bool hb4) ?_
    refine HT_skip ?_
    refine hK2 _ _ ?_
    refine HT_seq_k ?_
    intro K6 hK6
    refine HT_region ?_
    refine HL_cons rfl ?_
    refine o_move ?_
    try dsimp only [putL, setL, evL, getL]
    refine HL_cons rfl ?_
    refine o_assign ?_
    try dsimp only [putL, setL, evL, getL]
    refine HL_nil ?_
    refine hK6 _ _ ?_
    refine HT_ret ?_
    exact hQr _ _ [.int .i64 p1] ⟨rfl, trivial⟩ (retH (fun r => spec_l1Most.post sb s F0 r _ _) (show some _ = some r from H) ⟨rfl, hH⟩)
def spec_l15Common.l2 (p0 : List (Int)) (p1 : List (Int)) (x3310 : Int) : Nat → (List (List (Int))) → Int → Option (List (List (Int)))
  | 0, _, _ => none
  | kf + 1, x4825, x4826 => (if (decide (x4826 ≥ 0)) = true then (some (decide (x3310 < (p0.length : Int)))) else (some false)).bind fun (o : Bool) => match o with | x4905 => (if x4905 = true then (((rd? p0 x3310).bind fun u4936 => (rd? p1 x4826).bind fun u4937 => if (u4936 == u4937) = true then ((rd? x4825 (IntKind.i64.wrap (x3310 + 1))).bind fun u4939 => (rd? u4939 (IntKind.i64.wrap (x4826 + 1))).bind fun u4941 => (rd? x4825 x3310).bind fun u4942 => (rd? u4942 x4826).bind fun u4944 => (st? u4942 x4826 (IntKind.i64.wrap (u4941 + 1))).bind fun x4945 => (st? x4825 x3310 x4945).bind fun x4946 => some x4946) else ((rd? x4825 (IntKind.i64.wrap (x3310 + 1))).bind fun u4947 => (rd? u4947 x4826).bind fun u4949 => (rd? x4825 x3310).bind fun u4950 => (rd? u4950 (IntKind.i64.wrap (x4826 + 1))).bind fun u4952 => (rd? x4825 x3310).bind fun u4953 => (spec_l1Most.f u4949 u4952).bind fun u4955 => (rd? u4953 x4826).bind fun u4956 => (st? u4953 x4826 u4955).bind fun x4957 => (st? x4825 x3310 x4957).bind fun x4958 => some x4958)).bind fun (o : (List (List (Int)))) => match o with | x4934 => (spec_l15Common.l2 p0 p1 x3310 kf x4934 (IntKind.i64.wrap (x4826 - 1)))) else (some x4825))
def spec_l15Common.l1 (p0 : List (Int)) (p1 : List (Int)) : Nat → (List (List (Int))) → Int → Option (List (List (Int)))
  | 0, _, _ => none
  | kf + 1, x3309, x3310 => if (decide (x3310 ≥ 0)) = true then (((mk? 17592186044416 0 (IntKind.i64.wrap ((p1.length : Int) + 1))).bind fun x4553 => (rd? x3309 x3310).bind fun u4554 => (st? x3309 x3310 x4553).bind fun x4556 => (spec_l15Common.l2 p0 p1 x3310 (((IntKind.i64.wrap ((p1.length : Int) - 1)) - (0)).toNat + 2) x4556 (IntKind.i64.wrap ((p1.length : Int) - 1))).bind fun (o : (List (List (Int)))) => match o with | x4759 => (some x4759)).bind fun (o : (List (List (Int)))) => match o with | x4551 => (spec_l15Common.l1 p0 p1 kf x4551 (IntKind.i64.wrap (x3310 - 1)))) else (some x3309)
def spec_l15Common.f (p0 : List (Int)) (p1 : List (Int)) : Option (List (List (Int))) := (mk? 5864062014805 [] (IntKind.i64.wrap ((p0.length : Int) + 1))).bind fun x3 => (spec_l15Common.l1 p0 p1 ((((p0.length : Int)) - (0)).toNat + 2) x3 (p0.length : Int)).bind fun (o : (List (List (Int)))) => match o with | x2484 => (some x2484)
def spec_l15Common.post (sb s : St) (F0 : Fp) (r : (List (List (Int)))) : Value → St → Prop := fun v s' => ∃ (A0 : Option Addr) (c0 : Nat), v = .slice A0 r.length c0 ∧ Hp sb s F0 s' [Ck.ol (Ow.sl OI 3) 24 A0 c0 r]
set_option maxRecDepth 100000 in
set_option maxHeartbeats 4000000 in
theorem spec_l15Common.ok (sb s : St) (F0 : Fp) (A0p : Option Addr) (c0p : Nat) (p0 : List (Int)) (A1p : Option Addr) (c1p : Nat) (p1 : List (Int)) (HRp0 : Rd KI sb A0p c0p p0) (HRp1 : Rd KI sb A1p c1p p1) (hH : Hp sb s F0 s []) (r : (List (List (Int)))) (H : spec_l15Common.f p0 p1 = some r) : GCall Try.prog 208 #[.slice A0p p0.length c0p, .slice A1p p1.length c1p] s (spec_l15Common.post sb s F0 r) := by
  refine GCall_ofk [.tmp 4] [.slice A0p p0.length c0p, .slice A1p p1.length c1p, undef, undef, undef, undef, undef, undef, undef, undef, undef, undef, undef, undef, undef, undef, undef, undef, undef, undef, undef, undef, undef, undef, undef, undef, undef, undef, undef, undef, undef, undef, undef, undef, undef, undef, undef, undef, undef, undef, undef, undef, undef, undef, undef, undef, undef, undef, undef, undef, undef, undef, undef, undef, undef, undef, undef, undef, undef, undef, undef, undef, undef, undef, undef, undef, undef, undef, undef, undef, undef, undef, undef, undef, undef, undef, undef, undef, undef, undef, undef, undef, undef, undef, undef, undef, undef] Try.func208 rfl rfl rfl ?_
  intro w Q hQr hQn hQp
  replace H := topE H
  unfold spec_l15Common.f at H
  refine HT_seq_k ?_
  intro K1 hK1
  refine HT_region ?_
  refine HL_cons rfl ?_
  refine o_assign ?_
  try dsimp only [putL, setL, evL, getL]
  refine HL_nil ?_
  refine hK1 _ _ ?_
  refine HT_seq_k ?_
  intro K2 hK2
  refine HT_region ?_
  refine HL_cons rfl ?_
  refine o_move ?_
  try dsimp only [putL, setL, evL, getL]
  refine HL_cons rfl ?_
  refine o_len rfl Try.underlying24 ?_
  try dsimp only [putL, setL, evL, getL]
  refine HL_cons rfl ?_
  refine o_bin rfl rfl rfl ?_
  try dsimp only [putL, setL, evL, getL]
  replace H := headE H
  obtain ⟨x3, hx3, H⟩ := H
  refine HL_cons rfl ?_
  refine o_makeH (K := (Kd.sl KI)) (O := (Ow.sl OI 3)) (x0 := []) hH rfl Try.underlying105 tI24 rfl (by decide) (by decide) (by decide) Own0.nil hx3 ?_
  intro A3 c3 s3 hH' hG
  replace hH : Hp sb s F0 s3 [Ck.ol (Ow.sl OI 3) 24 A3 c3 x3] := hH'
  clear hH' hG
  try dsimp only [putL, setL, evL, getL]
  refine HL_cons rfl ?_
  refine o_assign ?_
  try dsimp only [putL, setL, evL, getL]
  refine HL_nil ?_
  refine hK2 _ _ ?_
  refine HT_seq_k ?_
  intro K4 hK4
  refine HT_seq_k ?_
  intro K5 hK5
  refine HT_region ?_
  refine HL_cons rfl ?_
  refine o_move ?_
  try dsimp only [putL, setL, evL, getL]
  refine HL_cons rfl ?_
  refine o_len rfl Try.underlying24 ?_
  try dsimp only [putL, setL, evL, getL]
  refine HL_cons rfl ?_
  refine o_assign ?_
  try dsimp only [putL, setL, evL, getL]
  refine HL_nil ?_
  refine hK5 _ _ ?_
  refine joinH H fun G6 hG6 H => ?_
  refine HT_toK (fun l' s' => ∃ (x2484 : List (List (Int))), G6 x2484 = some r ∧ l' = [.slice A0p p0.length c0p, .slice A1p p1.length c1p, undef, undef, .slice none 0 0, .slice A3 x3.length c3, getL l' 6, getL l' 7, .slice A0p p0.length c0p, .int .i64 (p0.length : Int), .int .i64 (IntKind.i64.wrap ((p0.length : Int) + 1)), .slice A3 x3.length c3, .slice A0p p0.length c0p, .int .i64 (p0.length : Int), getL l' 14, getL l' 15, getL l' 16, getL l' 17, getL l' 18, getL l' 19, getL l' 20, getL l' 21, getL l' 22, getL l' 23, getL l' 24, getL l' 25, getL l' 26, getL l' 27, getL l' 28, getL l' 29, getL l' 30, getL l' 31, getL l' 32, getL l' 33, getL l' 34, getL l' 35, getL l' 36, getL l' 37, getL l' 38, getL l' 39, getL l' 40, getL l' 41, getL l' 42, getL l' 43, getL l' 44, getL l' 45, getL l' 46, getL l' 47, getL l' 48, getL l' 49, getL l' 50, getL l' 51, getL l' 52, getL l' 53, getL l' 54, getL l' 55, getL l' 56, getL l' 57, getL l' 58, getL l' 59, getL l' 60, getL l' 61, getL l' 62, getL l' 63, getL l' 64, getL l' 65, getL l' 66, getL l' 67, getL l' 68, getL l' 69, getL l' 70, getL l' 71, getL l' 72, getL l' 73, getL l' 74, getL l' 75, getL l' 76, getL l' 77, getL l' 78, getL l' 79, getL l' 80, getL l' 81, getL l' 82, getL l' 83, getL l' 84, getL l' 85, undef] ∧ Hp sb s F0 s' [Ck.ol (Ow.sl OI 3) 24 A3 c3 x2484] ∧ x2484.length = x3.length) ?_ ?_
  · intro K6 hK6
    refine HT_block ?_
    refine HT_loopK (fun kf l' s' => ∃ (x3309 : List (List (Int))) (x3310 : Int), (spec_l15Common.l1 p0 p1 kf x3309 x3310).bind G6 = some r ∧ l' = [.slice A0p p0.length c0p, .slice A1p p1.length c1p, undef, undef, .slice none 0 0, .slice A3 x3.length c3, .int .i64 x3310, getL l' 7, .slice A0p p0.length c0p, .int .i64 (p0.length : Int), .int .i64 (IntKind.i64.wrap ((p0.length : Int) + 1)), .slice A3 x3.length c3, .slice A0p p0.length c0p, .int .i64 (p0.length : Int), getL l' 14, getL l' 15, getL l' 16, getL l' 17, getL l' 18, getL l' 19, getL l' 20, getL l' 21, getL l' 22, getL l' 23, getL l' 24, getL l' 25, getL l' 26, getL l' 27, getL l' 28, getL l' 29, getL l' 30, getL l' 31, getL l' 32, getL l' 33, getL l' 34, getL l' 35, getL l' 36, getL l' 37, getL l' 38, getL l' 39, getL l' 40, getL l' 41, getL l' 42, getL l' 43, getL l' 44, getL l' 45, getL l' 46, getL l' 47, getL l' 48, getL l' 49, getL l' 50, getL l' 51, getL l' 52, getL l' 53, getL l' 54, getL l' 55, getL l' 56, getL l' 57, getL l' 58, getL l' 59, getL l' 60, getL l' 61, getL l' 62, getL l' 63, getL l' 64, getL l' 65, getL l' 66, getL l' 67, getL l' 68, getL l' 69, getL l' 70, getL l' 71, getL l' 72, getL l' 73, getL l' 74, getL l' 75, getL l' 76, getL l' 77, getL l' 78, getL l' 79, getL l' 80, getL l' 81, getL l' 82, getL l' 83, getL l' 84, getL l' 85, undef] ∧ Hp sb s F0 s' [Ck.ol (Ow.sl OI 3) 24 A3 c3 x3309] ∧ x3309.length = x3.length) ((((p0.length : Int)) - (0)).toNat + 2) ⟨x3, (p0.length : Int), H, rfl, hH, rfl⟩ ?_
    rintro kf l' s4137 ⟨x3309, x3310, H, hl, hH, hl3309⟩ K4137 hK4137
    generalize getL l' 7 = j7, getL l' 14 = j14, getL l' 15 = j15, getL l' 16 = j16, getL l' 17 = j17, getL l' 18 = j18, getL l' 19 = j19, getL l' 20 = j20, getL l' 21 = j21, getL l' 22 = j22, getL l' 23 = j23, getL l' 24 = j24, getL l' 25 = j25, getL l' 26 = j26, getL l' 27 = j27, getL l' 28 = j28, getL l' 29 = j29, getL l' 30 = j30, getL l' 31 = j31, getL l' 32 = j32, getL l' 33 = j33, getL l' 34 = j34, getL l' 35 = j35, getL l' 36 = j36, getL l' 37 = j37, getL l' 38 = j38, getL l' 39 = j39, getL l' 40 = j40, getL l' 41 = j41, getL l' 42 = j42, getL l' 43 = j43, getL l' 44 = j44, getL l' 45 = j45, getL l' 46 = j46, getL l' 47 = j47, getL l' 48 = j48, getL l' 49 = j49, getL l' 50 = j50, getL l' 51 = j51, getL l' 52 = j52, getL l' 53 = j53, getL l' 54 = j54, getL l' 55 = j55, getL l' 56 = j56, getL l' 57 = j57, getL l' 58 = j58, getL l' 59 = j59, getL l' 60 = j60, getL l' 61 = j61, getL l' 62 = j62, getL l' 63 = j63, getL l' 64 = j64, getL l' 65 = j65, getL l' 66 = j66, getL l' 67 = j67, getL l' 68 = j68, getL l' 69 = j69, getL l' 70 = j70, getL l' 71 = j71, getL l' 72 = j72, getL l' 73 = j73, getL l' 74 = j74, getL l' 75 = j75, getL l' 76 = j76, getL l' 77 = j77, getL l' 78 = j78, getL l' 79 = j79, getL l' 80 = j80, getL l' 81 = j81, getL l' 82 = j82, getL l' 83 = j83, getL l' 84 = j84, getL l' 85 = j85 at hl
    subst hl
    cases kf with
    | zero => simp [spec_l15Common.l1] at H
    | succ kf =>
      rw [spec_l15Common.l1] at H
      refine HT_seq_k ?_
      intro K4138 hK4138
      refine HT_seq_k ?_
      intro K4139 hK4139
      refine HT_region ?_
      refine HL_cons rfl ?_
      refine o_move ?_
      try dsimp only [putL, setL, evL, getL]
      refine HL_cons rfl ?_
      refine o_bin rfl rfl rfl ?_
      try dsimp only [putL, setL, evL, getL]
      refine HL_nil ?_
      refine hK4139 _ _ ?_
      rcases Bool.eq_false_or_eq_true (decide (x3310 ≥ 0)) with hb4140 | hb4140
      · replace H := iteT hb4140 H
        refine HT_true (congrArg Value.bool hb4140) ?_
        refine HT_skip ?_
        refine hK4138 _ _ ?_
        refine joinH H fun G4141 hG4141 H => ?_
        refine HT_joinK (fun l' s' => ∃ (x4551 : List (List (Int))), G4141 x4551 = some r ∧ l' = [.slice A0p p0.length c0p, .slice A1p p1.length c1p, undef, undef, .slice none 0 0, .slice A3 x3.length c3, .int .i64 x3310, getL l' 7, .slice A0p p0.length c0p, .int .i64 (p0.length : Int), .int .i64 (IntKind.i64.wrap ((p0.length : Int) + 1)), .slice A3 x3.length c3, .slice A0p p0.length c0p, .int .i64 (p0.length : Int), .int .i64 x3310, .bool (decide (x3310 ≥ 0)), j16, j17, getL l' 18, getL l' 19, getL l' 20, getL l' 21, getL l' 22, getL l' 23, getL l' 24, getL l' 25, getL l' 26, getL l' 27, getL l' 28, getL l' 29, getL l' 30, getL l' 31, getL l' 32, getL l' 33, getL l' 34, getL l' 35, getL l' 36, getL l' 37, getL l' 38, getL l' 39, getL l' 40, getL l' 41, getL l' 42, getL l' 43, getL l' 44, getL l' 45, getL l' 46, getL l' 47, getL l' 48, getL l' 49, getL l' 50, getL l' 51, getL l' 52, getL l' 53, getL l' 54, getL l' 55, getL l' 56, getL l' 57, getL l' 58, getL l' 59, getL l' 60, getL l' 61, getL l' 62, getL l' 63, getL l' 64, getL l' 65, getL l' 66, getL l' 67, getL l' 68, getL l' 69, getL l' 70, getL l' 71, getL l' 72, getL l' 73, getL l' 74, getL l' 75, getL l' 76, getL l' 77, getL l' 78, getL l' 79, getL l' 80, getL l' 81, getL l' 82, getL l' 83, getL l' 84, getL l' 85, undef] ∧ Hp sb s F0 s' [Ck.ol (Ow.sl OI 3) 24 A3 c3 x4551] ∧ x4551.length = x3.length) ?_ ?_
        · intro K4141 hK4141
          refine HT_block ?_
          refine HT_seq_k ?_
          intro K4552 hK4552
          refine HT_region ?_
          refine HL_cons rfl ?_
          refine o_move ?_
          try dsimp only [putL, setL, evL, getL]
          refine HL_cons rfl ?_
          refine o_move ?_
          try dsimp only [putL, setL, evL, getL]
          refine HL_cons rfl ?_
          refine o_move ?_
          try dsimp only [putL, setL, evL, getL]
          refine HL_cons rfl ?_
          refine o_len rfl Try.underlying24 ?_
          try dsimp only [putL, setL, evL, getL]
          refine HL_cons rfl ?_
          refine o_bin rfl rfl rfl ?_
          try dsimp only [putL, setL, evL, getL]
          replace H := headE H
          obtain ⟨x4553, hx4553, H⟩ := H
          refine HL_cons rfl ?_
          refine o_makeH (K := KI) (O := OI) (x0 := 0) hH rfl Try.underlying24 tI3 rfl (by decide) (by decide) (by decide) (Own0.fl fun _ => rfl) hx4553 ?_
          intro A4553 c4553 s4553 hH' hG
          replace hH : Hp sb s F0 s4553 [Ck.ol (Ow.sl OI 3) 24 A3 c3 x3309, Ck.ol OI 3 A4553 c4553 x4553] := hH'
          clear hH' hG
          try dsimp only [putL, setL, evL, getL]
          replace H := headE H
          obtain ⟨u4554, hu4554, H⟩ := H
          obtain ⟨b4554, o4554, cs4554, hA4554, hr4554, hh4554, hel4554⟩ := hH.elo 0 rfl hu4554
          obtain ⟨A4555, c4555, rfl, D4555⟩ := hr4554
          refine HL_cons rfl ?_
          refine hel4554 s4553 (sliceLen hl3309) rfl Try.underlying105 tI24 ?_
          try dsimp only [putL, setL, evL, getL]
          replace hH := hH.conv [1] (by decide) (d := Ck.el (Ow.sl OI 3) [.slice A4553 x4553.length c4553] x4553) Ent.sl
          dsimp only [addC, setC, rmC, selC, getC] at hH
          replace H := headE H
          obtain ⟨x4556, hx4556, H⟩ := H
          refine HL_cons rfl ?_
          refine o_setD (u := x4553) hH 0 2 (by decide) rfl rfl rfl rfl rfl rfl tI24 hA4554 hx4556 ?_
          intro s4556 hH'
          have hl4556 := (st?_len hx4556).trans hl3309
          replace hH : Hp sb s F0 s4556 [Ck.ol (Ow.sl OI 3) 24 A3 c3 x4556, Ck.emp, Ck.emp] := hH'
          clear hH'
          try dsimp only [putL, setL, evL, getL]
          refine HL_nil ?_
          refine hK4552 _ _ ?_
          refine HT_seq_k ?_
          intro K4557 hK4557
          refine HT_region ?_
          refine HL_cons rfl ?_
          refine o_move ?_
          try dsimp only [putL, setL, evL, getL]
          refine HL_cons rfl ?_
          refine o_len rfl Try.underlying24 ?_
          try dsimp only [putL, setL, evL, getL]
          refine HL_cons rfl ?_
          refine o_bin rfl rfl rfl ?_
          try dsimp only [putL, setL, evL, getL]
          refine HL_cons rfl ?_
          refine o_assign ?_
          try dsimp only [putL, setL, evL, getL]
          refine HL_nil ?_
          refine hK4557 _ _ ?_
          refine joinH H fun G4558 hG4558 H => ?_
          refine HT_toK (fun l' s' => ∃ (x4759 : List (List (Int))), G4558 x4759 = some r ∧ l' = [.slice A0p p0.length c0p, .slice A1p p1.length c1p, undef, undef, .slice none 0 0, .slice A3 x3.length c3, .int .i64 x3310, getL l' 7, .slice A0p p0.length c0p, .int .i64 (p0.length : Int), .int .i64 (IntKind.i64.wrap ((p0.length : Int) + 1)), .slice A3 x3.length c3, .slice A0p p0.length c0p, .int .i64 (p0.length : Int), .int .i64 x3310, .bool (decide (x3310 ≥ 0)), j16, j17, .slice A3 x3.length c3, .int .i64 x3310, .slice A1p p1.length c1p, .int .i64 (p1.length : Int), .int .i64 (IntKind.i64.wrap ((p1.length : Int) + 1)), .slice A4553 x4553.length c4553, .pointer (some ⟨b4554, o4554 + Int.toNat x3310 * Kd.sz (Kd.sl KI), none⟩), .slice A1p p1.length c1p, .int .i64 (p1.length : Int), .int .i64 (IntKind.i64.wrap ((p1.length : Int) - 1)), getL l' 28, getL l' 29, getL l' 30, getL l' 31, getL l' 32, getL l' 33, getL l' 34, getL l' 35, getL l' 36, getL l' 37, getL l' 38, getL l' 39, getL l' 40, getL l' 41, getL l' 42, getL l' 43, getL l' 44, getL l' 45, getL l' 46, getL l' 47, getL l' 48, getL l' 49, getL l' 50, getL l' 51, getL l' 52, getL l' 53, getL l' 54, getL l' 55, getL l' 56, getL l' 57, getL l' 58, getL l' 59, getL l' 60, getL l' 61, getL l' 62, getL l' 63, getL l' 64, getL l' 65, getL l' 66, getL l' 67, getL l' 68, getL l' 69, getL l' 70, getL l' 71, getL l' 72, getL l' 73, getL l' 74, getL l' 75, getL l' 76, getL l' 77, getL l' 78, getL l' 79, getL l' 80, getL l' 81, getL l' 82, getL l' 83, getL l' 84, getL l' 85, undef] ∧ Hp sb s F0 s' [Ck.ol (Ow.sl OI 3) 24 A3 c3 x4759] ∧ x4759.length = x3.length) ?_ ?_
          · intro K4558 hK4558
            refine HT_block ?_
            refine HT_loopK (fun kf l' s' => ∃ (x4825 : List (List (Int))) (x4826 : Int), (spec_l15Common.l2 p0 p1 x3310 kf x4825 x4826).bind G4558 = some r ∧ l' = [.slice A0p p0.length c0p, .slice A1p p1.length c1p, undef, undef, .slice none 0 0, .slice A3 x3.length c3, .int .i64 x3310, .int .i64 x4826, .slice A0p p0.length c0p, .int .i64 (p0.length : Int), .int .i64 (IntKind.i64.wrap ((p0.length : Int) + 1)), .slice A3 x3.length c3, .slice A0p p0.length c0p, .int .i64 (p0.length : Int), .int .i64 x3310, .bool (decide (x3310 ≥ 0)), j16, j17, .slice A3 x3.length c3, .int .i64 x3310, .slice A1p p1.length c1p, .int .i64 (p1.length : Int), .int .i64 (IntKind.i64.wrap ((p1.length : Int) + 1)), .slice A4553 x4553.length c4553, .pointer (some ⟨b4554, o4554 + Int.toNat x3310 * Kd.sz (Kd.sl KI), none⟩), .slice A1p p1.length c1p, .int .i64 (p1.length : Int), .int .i64 (IntKind.i64.wrap ((p1.length : Int) - 1)), getL l' 28, getL l' 29, getL l' 30, getL l' 31, getL l' 32, getL l' 33, getL l' 34, getL l' 35, getL l' 36, getL l' 37, getL l' 38, getL l' 39, getL l' 40, getL l' 41, getL l' 42, getL l' 43, getL l' 44, getL l' 45, getL l' 46, getL l' 47, getL l' 48, getL l' 49, getL l' 50, getL l' 51, getL l' 52, getL l' 53, getL l' 54, getL l' 55, getL l' 56, getL l' 57, getL l' 58, getL l' 59, getL l' 60, getL l' 61, getL l' 62, getL l' 63, getL l' 64, getL l' 65, getL l' 66, getL l' 67, getL l' 68, getL l' 69, getL l' 70, getL l' 71, getL l' 72, getL l' 73, getL l' 74, getL l' 75, getL l' 76, getL l' 77, getL l' 78, getL l' 79, getL l' 80, getL l' 81, getL l' 82, getL l' 83, getL l' 84, getL l' 85, undef] ∧ Hp sb s F0 s' [Ck.ol (Ow.sl OI 3) 24 A3 c3 x4825] ∧ x4825.length = x3.length) (((IntKind.i64.wrap ((p1.length : Int) - 1)) - (0)).toNat + 2) ⟨x4556, IntKind.i64.wrap ((p1.length : Int) - 1), H, rfl, hH.sel [0] (by decide), hl4556⟩ ?_
            rintro kf l' s4894 ⟨x4825, x4826, H, hl, hH, hl4825⟩ K4894 hK4894
            generalize getL l' 28 = j28, getL l' 29 = j29, getL l' 30 = j30, getL l' 31 = j31, getL l' 32 = j32, getL l' 33 = j33, getL l' 34 = j34, getL l' 35 = j35, getL l' 36 = j36, getL l' 37 = j37, getL l' 38 = j38, getL l' 39 = j39, getL l' 40 = j40, getL l' 41 = j41, getL l' 42 = j42, getL l' 43 = j43, getL l' 44 = j44, getL l' 45 = j45, getL l' 46 = j46, getL l' 47 = j47, getL l' 48 = j48, getL l' 49 = j49, getL l' 50 = j50, getL l' 51 = j51, getL l' 52 = j52, getL l' 53 = j53, getL l' 54 = j54, getL l' 55 = j55, getL l' 56 = j56, getL l' 57 = j57, getL l' 58 = j58, getL l' 59 = j59, getL l' 60 = j60, getL l' 61 = j61, getL l' 62 = j62, getL l' 63 = j63, getL l' 64 = j64, getL l' 65 = j65, getL l' 66 = j66, getL l' 67 = j67, getL l' 68 = j68, getL l' 69 = j69, getL l' 70 = j70, getL l' 71 = j71, getL l' 72 = j72, getL l' 73 = j73, getL l' 74 = j74, getL l' 75 = j75, getL l' 76 = j76, getL l' 77 = j77, getL l' 78 = j78, getL l' 79 = j79, getL l' 80 = j80, getL l' 81 = j81, getL l' 82 = j82, getL l' 83 = j83, getL l' 84 = j84, getL l' 85 = j85 at hl
            subst hl
            cases kf with
            | zero => simp [spec_l15Common.l2] at H
            | succ kf =>
              rw [spec_l15Common.l2] at H
              refine HT_seq_k ?_
              intro K4902 hK4902
              refine joinH H fun G4903 hG4903 H => ?_
              refine HT_joinK (fun l' s' => ∃ (x4905 : Bool), G4903 x4905 = some r ∧ l' = [.slice A0p p0.length c0p, .slice A1p p1.length c1p, undef, undef, .slice none 0 0, .slice A3 x3.length c3, .int .i64 x3310, .int .i64 x4826, .slice A0p p0.length c0p, .int .i64 (p0.length : Int), .int .i64 (IntKind.i64.wrap ((p0.length : Int) + 1)), .slice A3 x3.length c3, .slice A0p p0.length c0p, .int .i64 (p0.length : Int), .int .i64 x3310, .bool (decide (x3310 ≥ 0)), j16, j17, .slice A3 x3.length c3, .int .i64 x3310, .slice A1p p1.length c1p, .int .i64 (p1.length : Int), .int .i64 (IntKind.i64.wrap ((p1.length : Int) + 1)), .slice A4553 x4553.length c4553, .pointer (some ⟨b4554, o4554 + Int.toNat x3310 * Kd.sz (Kd.sl KI), none⟩), .slice A1p p1.length c1p, .int .i64 (p1.length : Int), .int .i64 (IntKind.i64.wrap ((p1.length : Int) - 1)), getL l' 28, getL l' 29, getL l' 30, getL l' 31, getL l' 32, getL l' 33, getL l' 34, .bool x4905, j36, j37, j38, j39, j40, j41, j42, j43, j44, j45, j46, j47, j48, j49, j50, j51, j52, j53, j54, j55, j56, j57, j58, j59, j60, j61, j62, j63, j64, j65, j66, j67, j68, j69, j70, j71, j72, j73, j74, j75, j76, j77, j78, j79, j80, j81, j82, j83, j84, j85, undef] ∧ Hp sb s F0 s' [Ck.ol (Ow.sl OI 3) 24 A3 c3 x4825]) ?_ ?_
              · intro K4903 hK4903
                refine HT_region ?_
                refine HL_cons rfl ?_
                refine o_move ?_
                try dsimp only [putL, setL, evL, getL]
                refine HL_cons rfl ?_
                refine o_bin rfl rfl rfl ?_
                try dsimp only [putL, setL, evL, getL]
                refine HL_cons rfl ?_
                refine o_move ?_
                try dsimp only [putL, setL, evL, getL]
                rcases Bool.eq_false_or_eq_true (decide (x4826 ≥ 0)) with hb4906 | hb4906
                · replace H := iteT hb4906 H
                  refine HL_want ?_ ?_
                  · exact wantT (j := 2) (b := true) (t := 30) (c := decide (x4826 ≥ 0)) rfl rfl rfl rfl hb4906
                  refine o_move ?_
                  try dsimp only [putL, setL, evL, getL]
                  refine HL_want ?_ ?_
                  · exact wantT (j := 2) (b := true) (t := 30) (c := decide (x4826 ≥ 0)) rfl rfl rfl rfl hb4906
                  refine o_move ?_
                  try dsimp only [putL, setL, evL, getL]
                  refine HL_want ?_ ?_
                  · exact wantT (j := 2) (b := true) (t := 30) (c := decide (x4826 ≥ 0)) rfl rfl rfl rfl hb4906
                  refine o_len rfl Try.underlying24 ?_
                  try dsimp only [putL, setL, evL, getL]
                  refine HL_want ?_ ?_
                  · exact wantT (j := 2) (b := true) (t := 30) (c := decide (x4826 ≥ 0)) rfl rfl rfl rfl hb4906
                  refine o_bin rfl rfl rfl ?_
                  try dsimp only [putL, setL, evL, getL]
                  refine HL_cons rfl ?_
                  refine o_pickT rfl hb4906 ?_
                  try dsimp only [putL, setL, evL, getL]
                  refine HL_nil ?_
                  exact hK4903 _ _ ⟨decide (x3310 < (p0.length : Int)), H, rfl, hH⟩
                · replace H := iteF hb4906 H
                  refine HL_skip ?_ ?_
                  · exact wantF (j := 2) (b := true) (t := 30) (c := decide (x4826 ≥ 0)) rfl rfl rfl rfl hb4906
                  try dsimp only [putL, setL, evL, getL]
                  refine HL_skip ?_ ?_
                  · exact wantF (j := 2) (b := true) (t := 30) (c := decide (x4826 ≥ 0)) rfl rfl rfl rfl hb4906
                  try dsimp only [putL, setL, evL, getL]
                  refine HL_skip ?_ ?_
                  · exact wantF (j := 2) (b := true) (t := 30) (c := decide (x4826 ≥ 0)) rfl rfl rfl rfl hb4906
                  try dsimp only [putL, setL, evL, getL]
                  refine HL_skip ?_ ?_
                  · exact wantF (j := 2) (b := true) (t := 30) (c := decide (x4826 ≥ 0)) rfl rfl rfl rfl hb4906
                  try dsimp only [putL, setL, evL, getL]
                  refine HL_cons rfl ?_
                  refine o_pickF rfl hb4906 ?_
                  try dsimp only [putL, setL, evL, getL]
                  refine HL_nil ?_
                  exact hK4903 _ _ ⟨false, H, rfl, hH⟩
              · rintro l' s4907 ⟨x4905, H, hl, hH⟩
                generalize getL l' 28 = j28, getL l' 29 = j29, getL l' 30 = j30, getL l' 31 = j31, getL l' 32 = j32, getL l' 33 = j33, getL l' 34 = j34 at hl
                subst hl
                replace H := hG4903 _ H
                try dsimp only at H
                rcases Bool.eq_false_or_eq_true x4905 with hb4908 | hb4908
                · replace H := iteT hb4908 H
                  refine HT_true (congrArg Value.bool hb4908) ?_
                  refine HT_skip ?_
                  refine hK4902 _ _ ?_
                  refine joinH H fun G4909 hG4909 H => ?_
                  refine HT_joinK (fun l' s' => ∃ (x4934 : List (List (Int))), G4909 x4934 = some r ∧ l' = [.slice A0p p0.length c0p, .slice A1p p1.length c1p, undef, undef, .slice none 0 0, .slice A3 x3.length c3, .int .i64 x3310, .int .i64 x4826, .slice A0p p0.length c0p, .int .i64 (p0.length : Int), .int .i64 (IntKind.i64.wrap ((p0.length : Int) + 1)), .slice A3 x3.length c3, .slice A0p p0.length c0p, .int .i64 (p0.length : Int), .int .i64 x3310, .bool (decide (x3310 ≥ 0)), j16, j17, .slice A3 x3.length c3, .int .i64 x3310, .slice A1p p1.length c1p, .int .i64 (p1.length : Int), .int .i64 (IntKind.i64.wrap ((p1.length : Int) + 1)), .slice A4553 x4553.length c4553, .pointer (some ⟨b4554, o4554 + Int.toNat x3310 * Kd.sz (Kd.sl KI), none⟩), .slice A1p p1.length c1p, .int .i64 (p1.length : Int), .int .i64 (IntKind.i64.wrap ((p1.length : Int) - 1)), j28, j29, j30, j31, j32, j33, j34, .bool x4905, j36, j37, getL l' 38, getL l' 39, getL l' 40, getL l' 41, getL l' 42, getL l' 43, getL l' 44, getL l' 45, getL l' 46, getL l' 47, getL l' 48, getL l' 49, getL l' 50, getL l' 51, getL l' 52, getL l' 53, getL l' 54, getL l' 55, getL l' 56, getL l' 57, getL l' 58, getL l' 59, getL l' 60, getL l' 61, getL l' 62, getL l' 63, getL l' 64, getL l' 65, getL l' 66, getL l' 67, getL l' 68, getL l' 69, getL l' 70, getL l' 71, getL l' 72, getL l' 73, getL l' 74, getL l' 75, getL l' 76, getL l' 77, getL l' 78, getL l' 79, getL l' 80, getL l' 81, getL l' 82, getL l' 83, getL l' 84, getL l' 85, undef] ∧ Hp sb s F0 s' [Ck.ol (Ow.sl OI 3) 24 A3 c3 x4934] ∧ x4934.length = x3.length) ?_ ?_
                  · intro K4909 hK4909
                    refine HT_block ?_
                    refine HT_seq_k ?_
                    intro K4935 hK4935
                    refine HX_draw hMix ?_
                    refine HX_lim (R := fun _ => True) (k := 0) (fun s' => Gro s4907 s') 10 ?_
                    have hR := Gro.refl s4907
                    have hH0 := hH
                    refine HK_readP 0 (v := .slice A0p p0.length c0p) rfl (by kernel_rfl) (fun c l s h => hQp c l s h) rfl (fun s' K hK => ?_) rfl rfl (fun _ => hR) ?_
                    · refine o_move ?_
                      exact hK
                    try dsimp only [putL, setL, evL, getL]
                    refine HK_readP 1 (v := .int .i64 x3310) rfl (by kernel_rfl) (fun c l s h => hQp c l s h) rfl (fun s' K hK => ?_) rfl rfl (fun _ => hR) ?_
                    · refine o_move ?_
                      exact hK
                    try dsimp only [putL, setL, evL, getL]
                    replace H := headE H
                    obtain ⟨u4936, hu4936, H⟩ := H
                    obtain ⟨b4936, o4936, cs4936, hr4936, hh4936, hel4936⟩ := Rd.elb HRp0 hu4936
                    obtain rfl := hr4936
                    refine HK_readP 2 (v := .pointer (some ⟨b4936, o4936, none⟩)) rfl (by kernel_rfl) (fun c l s h => hQp c l s h) rfl (fun s' K hK => ?_) rfl rfl (fun _ => hR) ?_
                    · refine hel4936 s' rfl rfl Try.underlying24 tI3 ?_
                      exact hK
                    try dsimp only [putL, setL, evL, getL]
                    refine HK_read 3 (v := .int .i64 u4936) rfl (by kernel_rfl) (fun c l s h => hQp c l s h) rfl (fun s' hR' K hK => ?_) rfl rfl hR ?_
                    · refine o_load' rfl Try.underlying3 rfl ((hh4936 (hH0.bs.mono.trans hR'.mono)) 0 _ rfl) ?_
                      exact hK
                    try dsimp only [putL, setL, evL, getL]
                    refine HK_readP 4 (v := .slice A1p p1.length c1p) rfl (by kernel_rfl) (fun c l s h => hQp c l s h) rfl (fun s' K hK => ?_) rfl rfl (fun _ => hR) ?_
                    · refine o_move ?_
                      exact hK
                    try dsimp only [putL, setL, evL, getL]
                    refine HK_readP 5 (v := .int .i64 x4826) rfl (by kernel_rfl) (fun c l s h => hQp c l s h) rfl (fun s' K hK => ?_) rfl rfl (fun _ => hR) ?_
                    · refine o_move ?_
                      exact hK
                    try dsimp only [putL, setL, evL, getL]
                    replace H := headE H
                    obtain ⟨u4937, hu4937, H⟩ := H
                    obtain ⟨b4937, o4937, cs4937, hr4937, hh4937, hel4937⟩ := Rd.elb HRp1 hu4937
                    obtain rfl := hr4937
                    refine HK_readP 6 (v := .pointer (some ⟨b4937, o4937, none⟩)) rfl (by kernel_rfl) (fun c l s h => hQp c l s h) rfl (fun s' K hK => ?_) rfl rfl (fun _ => hR) ?_
                    · refine hel4937 s' rfl rfl Try.underlying24 tI3 ?_
                      exact hK
                    try dsimp only [putL, setL, evL, getL]
                    refine HK_read 7 (v := .int .i64 u4937) rfl (by kernel_rfl) (fun c l s h => hQp c l s h) rfl (fun s' hR' K hK => ?_) rfl rfl hR ?_
                    · refine o_load' rfl Try.underlying3 rfl ((hh4937 (hH0.bs.mono.trans hR'.mono)) 0 _ rfl) ?_
                      exact hK
                    try dsimp only [putL, setL, evL, getL]
                    refine HK_readP 8 (v := .bool (u4936 == u4937)) rfl (by kernel_rfl) (fun c l s h => hQp c l s h) rfl (fun s' K hK => ?_) rfl rfl (fun _ => hR) ?_
                    · refine o_bin rfl rfl rfl ?_
                      exact hK
                    try dsimp only [putL, setL, evL, getL]
                    refine HK_done (fun _ => hR) (by kernel_rfl) ?_
                    refine hK4935 _ _ ?_
                    rcases Bool.eq_false_or_eq_true (u4936 == u4937) with hb4938 | hb4938
                    · replace H := iteT hb4938 H
                      refine HT_true (congrArg Value.bool hb4938) ?_
                      refine HX_draw hMix ?_
                      refine HX_lim (R := fun _ => True) (k := 0) (fun s' => Gro s4907 s') 16 ?_
                      have hR := Gro.refl s4907
                      have hH0 := hH
                      refine HK_readP 5 (v := .slice A3 x3.length c3) rfl (by kernel_rfl) (fun c l s h => hQp c l s h) rfl (fun s' K hK => ?_) rfl rfl (fun _ => hR) ?_
                      · refine o_move ?_
                        exact hK
                      try dsimp only [putL, setL, evL, getL]
                      refine HK_readP 6 (v := .int .i64 x3310) rfl (by kernel_rfl) (fun c l s h => hQp c l s h) rfl (fun s' K hK => ?_) rfl rfl (fun _ => hR) ?_
                      · refine o_move ?_
                        exact hK
                      try dsimp only [putL, setL, evL, getL]
                      refine HK_readP 7 (v := .int .i64 (IntKind.i64.wrap (x3310 + 1))) rfl (by kernel_rfl) (fun c l s h => hQp c l s h) rfl (fun s' K hK => ?_) rfl rfl (fun _ => hR) ?_
                      · refine o_bin rfl rfl rfl ?_
                        exact hK
                      try dsimp only [putL, setL, evL, getL]
                      replace H := headE H
                      obtain ⟨u4939, hu4939, H⟩ := H
                      obtain ⟨b4939, o4939, cs4939, hA4939, hr4939, hh4939, hel4939⟩ := hH0.elo 0 rfl hu4939
                      obtain ⟨A4940, c4940, rfl, D4940⟩ := hr4939
                      refine HK_readP 8 (v := .pointer (some ⟨b4939, o4939 + Int.toNat (IntKind.i64.wrap (x3310 + 1)) * Kd.sz (Kd.sl KI), none⟩)) rfl (by kernel_rfl) (fun c l s h => hQp c l s h) rfl (fun s' K hK => ?_) rfl rfl (fun _ => hR) ?_
                      · refine hel4939 s' (sliceLen hl4825) rfl Try.underlying105 tI24 ?_
                        exact hK
                      try dsimp only [putL, setL, evL, getL]
                      refine HK_read 9 (v := .slice A4940 u4939.length c4940) rfl (by kernel_rfl) (fun c l s h => hQp c l s h) rfl (fun s' hR' K hK => ?_) rfl rfl hR ?_
                      · refine o_load' rfl Try.underlying24 rfl (has_gro hR' (hh4939 0 _ rfl)) ?_
                        exact hK
                      try dsimp only [putL, setL, evL, getL]
                      refine HK_readP 10 (v := .int .i64 x4826) rfl (by kernel_rfl) (fun c l s h => hQp c l s h) rfl (fun s' K hK => ?_) rfl rfl (fun _ => hR) ?_
                      · refine o_move ?_
                        exact hK
                      try dsimp only [putL, setL, evL, getL]
                      refine HK_readP 11 (v := .int .i64 (IntKind.i64.wrap (x4826 + 1))) rfl (by kernel_rfl) (fun c l s h => hQp c l s h) rfl (fun s' K hK => ?_) rfl rfl (fun _ => hR) ?_
                      · refine o_bin rfl rfl rfl ?_
                        exact hK
                      try dsimp only [putL, setL, evL, getL]
                      replace H := headE H
                      obtain ⟨u4941, hu4941, H⟩ := H
                      obtain ⟨b4941, o4941, cs4941, hr4941, hh4941, hel4941⟩ := Rd.el D4940 hu4941
                      obtain rfl := hr4941
                      refine HK_readP 12 (v := .pointer (some ⟨b4941, o4941, none⟩)) rfl (by kernel_rfl) (fun c l s h => hQp c l s h) rfl (fun s' K hK => ?_) rfl rfl (fun _ => hR) ?_
                      · refine hel4941 s' rfl rfl Try.underlying24 tI3 ?_
                        exact hK
                      try dsimp only [putL, setL, evL, getL]
                      refine HK_read 13 (v := .int .i64 u4941) rfl (by kernel_rfl) (fun c l s h => hQp c l s h) rfl (fun s' hR' K hK => ?_) rfl rfl hR ?_
                      · refine o_load' rfl Try.underlying3 rfl (has_gro hR' (hh4941 0 _ rfl)) ?_
                        exact hK
                      try dsimp only [putL, setL, evL, getL]
                      refine HK_readP 14 (v := .int .i64 (IntKind.i64.wrap (u4941 + 1))) rfl (by kernel_rfl) (fun c l s h => hQp c l s h) rfl (fun s' K hK => ?_) rfl rfl (fun _ => hR) ?_
                      · refine o_bin rfl rfl rfl ?_
                        exact hK
                      try dsimp only [putL, setL, evL, getL]
                      refine HK_readP 0 (v := .slice A3 x3.length c3) rfl (by kernel_rfl) (fun c l s h => hQp c l s h) rfl (fun s' K hK => ?_) rfl rfl (fun _ => hR) ?_
                      · refine o_move ?_
                        exact hK
                      try dsimp only [putL, setL, evL, getL]
                      refine HK_readP 1 (v := .int .i64 x3310) rfl (by kernel_rfl) (fun c l s h => hQp c l s h) rfl (fun s' K hK => ?_) rfl rfl (fun _ => hR) ?_
                      · refine o_move ?_
                        exact hK
                      try dsimp only [putL, setL, evL, getL]
                      replace H := headE H
                      obtain ⟨u4942, hu4942, H⟩ := H
                      obtain ⟨b4942, o4942, vs4942, hA4942, -, hH⟩ := hH.open 0 rfl rfl hu4942
                      dsimp only [addC, setC, rmC, selC, getC] at hH
                      obtain ⟨A4943, c4943, rfl, hH⟩ := hH.el_sl 1 rfl rfl
                      dsimp only [addC, setC, rmC, selC, getC] at hH
                      replace hH : Hp sb s F0 s4907 [Ck.oh (Ow.sl OI 3) 24 A3 c3 x4825 (Int.toNat x3310) [.slice A4943 u4942.length c4943], Ck.ol OI 3 A4943 c4943 u4942] := hH
                      refine HK_readP 2 (v := .pointer (some ⟨b4942, o4942 + Int.toNat x3310 * Kd.sz (Kd.sl KI), none⟩)) rfl (by kernel_rfl) (fun c l s h => hQp c l s h) rfl (fun s' K hK => ?_) rfl rfl (fun _ => hR) ?_
                      · refine iaddr_of (K := (Kd.sl KI)) hA4942 hu4942 s' (sliceLen hl4825) rfl Try.underlying105 tI24 ?_
                        exact hK
                      try dsimp only [putL, setL, evL, getL]
                      refine HK_read 3 (v := .slice A4943 u4942.length c4943) rfl (by kernel_rfl) (fun c l s h => hQp c l s h) rfl (fun s' hR' K hK => ?_) rfl rfl hR ?_
                      · refine o_load' rfl Try.underlying24 rfl (has_gro hR' (hH.hasoh 0 rfl hA4942 0 _ rfl)) ?_
                        exact hK
                      try dsimp only [putL, setL, evL, getL]
                      refine HK_readP 4 (v := .int .i64 x4826) rfl (by kernel_rfl) (fun c l s h => hQp c l s h) rfl (fun s' K hK => ?_) rfl rfl (fun _ => hR) ?_
                      · refine o_move ?_
                        exact hK
                      try dsimp only [putL, setL, evL, getL]
                      replace H := headE H
                      obtain ⟨u4944, hu4944, H⟩ := H
                      obtain ⟨b4944, o4944, cs4944, hA4944, hr4944, hh4944, hel4944⟩ := hH.elo 1 rfl hu4944
                      obtain rfl := hr4944
                      refine HK_readP 15 (v := .pointer (some ⟨b4944, o4944 + Int.toNat x4826 * Kd.sz KI, none⟩)) rfl (by kernel_rfl) (fun c l s h => hQp c l s h) rfl (fun s' K hK => ?_) rfl rfl (fun _ => hR) ?_
                      · refine hel4944 s' rfl rfl Try.underlying24 tI3 ?_
                        exact hK
                      try dsimp only [putL, setL, evL, getL]
                      refine HK_more [16] (by kernel_rfl) rfl (fun _ => hR) ⟨⟨_, rfl, Or.inl ⟨rfl, ?_⟩⟩, trivial⟩
                      replace H := headE H
                      obtain ⟨x4945, hx4945, H⟩ := H
                      skip
                      refine o_setF (vs := [.int .i64 (IntKind.i64.wrap (u4941 + 1))]) (u := IntKind.i64.wrap (u4941 + 1)) hH 1 rfl rfl rfl rfl rfl tI3 hA4944 hx4945 (Ent.own (Ent.flat rfl)) ?_
                      intro s4945 hH'
                      have hl4945 := st?_len hx4945
                      replace hH : Hp sb s F0 s4945 [Ck.oh (Ow.sl OI 3) 24 A3 c3 x4825 (Int.toNat x3310) [.slice A4943 u4942.length c4943], Ck.ol OI 3 A4943 c4943 x4945] := hH'
                      clear hH'
                      try dsimp only [putL, setL, evL, getL]
                      refine HK_free (by kernel_rfl) ?_
                      refine HX_done (by kernel_rfl) ?_
                      replace hH := hH.conv [1] (by decide) (d := Ck.el (Ow.sl OI 3) [.slice A4943 u4942.length c4943] x4945) (Ent.slL hl4945)
                      dsimp only [addC, setC, rmC, selC, getC] at hH
                      replace H := headE H
                      obtain ⟨x4946, hx4946, H⟩ := H
                      replace hH := hH.close (i := x3310) 0 2 (by decide) rfl rfl rfl hx4946
                      dsimp only [addC, setC, rmC, selC, getC] at hH
                      have hl4946 := (st?_len hx4946).trans hl4825
                      replace hH : Hp sb s F0 s4945 [Ck.ol (Ow.sl OI 3) 24 A3 c3 x4946, Ck.emp, Ck.emp] := hH
                      exact hK4909 _ _ ⟨x4946, H, rfl, hH.sel [0] (by decide), hl4946⟩
                    · replace H := iteF hb4938 H
                      refine HT_false (congrArg Value.bool hb4938) ?_
                      refine HX_draw hMix ?_
                      refine HX_lim (R := fun _ => True) (k := 0) (fun s' => Gro s4907 s') 23 ?_
                      have hR := Gro.refl s4907
                      have hH0 := hH
                      refine HK_readP 5 (v := .slice A3 x3.length c3) rfl (by kernel_rfl) (fun c l s h => hQp c l s h) rfl (fun s' K hK => ?_) rfl rfl (fun _ => hR) ?_
                      · refine o_move ?_
                        exact hK
                      try dsimp only [putL, setL, evL, getL]
                      refine HK_readP 6 (v := .int .i64 x3310) rfl (by kernel_rfl) (fun c l s h => hQp c l s h) rfl (fun s' K hK => ?_) rfl rfl (fun _ => hR) ?_
                      · refine o_move ?_
                        exact hK
                      try dsimp only [putL, setL, evL, getL]
                      refine HK_readP 7 (v := .int .i64 (IntKind.i64.wrap (x3310 + 1))) rfl (by kernel_rfl) (fun c l s h => hQp c l s h) rfl (fun s' K hK => ?_) rfl rfl (fun _ => hR) ?_
                      · refine o_bin rfl rfl rfl ?_
                        exact hK
                      try dsimp only [putL, setL, evL, getL]
                      replace H := headE H
                      obtain ⟨u4947, hu4947, H⟩ := H
                      obtain ⟨b4947, o4947, cs4947, hA4947, hr4947, hh4947, hel4947⟩ := hH0.elo 0 rfl hu4947
                      obtain ⟨A4948, c4948, rfl, D4948⟩ := hr4947
                      refine HK_readP 8 (v := .pointer (some ⟨b4947, o4947 + Int.toNat (IntKind.i64.wrap (x3310 + 1)) * Kd.sz (Kd.sl KI), none⟩)) rfl (by kernel_rfl) (fun c l s h => hQp c l s h) rfl (fun s' K hK => ?_) rfl rfl (fun _ => hR) ?_
                      · refine hel4947 s' (sliceLen hl4825) rfl Try.underlying105 tI24 ?_
                        exact hK
                      try dsimp only [putL, setL, evL, getL]
                      refine HK_read 9 (v := .slice A4948 u4947.length c4948) rfl (by kernel_rfl) (fun c l s h => hQp c l s h) rfl (fun s' hR' K hK => ?_) rfl rfl hR ?_
                      · refine o_load' rfl Try.underlying24 rfl (has_gro hR' (hh4947 0 _ rfl)) ?_
                        exact hK
                      try dsimp only [putL, setL, evL, getL]
                      refine HK_readP 10 (v := .int .i64 x4826) rfl (by kernel_rfl) (fun c l s h => hQp c l s h) rfl (fun s' K hK => ?_) rfl rfl (fun _ => hR) ?_
                      · refine o_move ?_
                        exact hK
                      try dsimp only [putL, setL, evL, getL]
                      replace H := headE H
                      obtain ⟨u4949, hu4949, H⟩ := H
                      obtain ⟨b4949, o4949, cs4949, hr4949, hh4949, hel4949⟩ := Rd.el D4948 hu4949
                      obtain rfl := hr4949
                      refine HK_readP 11 (v := .pointer (some ⟨b4949, o4949, none⟩)) rfl (by kernel_rfl) (fun c l s h => hQp c l s h) rfl (fun s' K hK => ?_) rfl rfl (fun _ => hR) ?_
                      · refine hel4949 s' rfl rfl Try.underlying24 tI3 ?_
                        exact hK
                      try dsimp only [putL, setL, evL, getL]
                      refine HK_read 12 (v := .int .i64 u4949) rfl (by kernel_rfl) (fun c l s h => hQp c l s h) rfl (fun s' hR' K hK => ?_) rfl rfl hR ?_
                      · refine o_load' rfl Try.underlying3 rfl (has_gro hR' (hh4949 0 _ rfl)) ?_
                        exact hK
                      try dsimp only [putL, setL, evL, getL]
                      refine HK_readP 13 (v := .slice A3 x3.length c3) rfl (by kernel_rfl) (fun c l s h => hQp c l s h) rfl (fun s' K hK => ?_) rfl rfl (fun _ => hR) ?_
                      · refine o_move ?_
                        exact hK
                      try dsimp only [putL, setL, evL, getL]
                      refine HK_readP 14 (v := .int .i64 x3310) rfl (by kernel_rfl) (fun c l s h => hQp c l s h) rfl (fun s' K hK => ?_) rfl rfl (fun _ => hR) ?_
                      · refine o_move ?_
                        exact hK
                      try dsimp only [putL, setL, evL, getL]
                      replace H := headE H
                      obtain ⟨u4950, hu4950, H⟩ := H
                      obtain ⟨b4950, o4950, cs4950, hA4950, hr4950, hh4950, hel4950⟩ := hH0.elo 0 rfl hu4950
                      obtain ⟨A4951, c4951, rfl, D4951⟩ := hr4950
                      refine HK_readP 15 (v := .pointer (some ⟨b4950, o4950 + Int.toNat x3310 * Kd.sz (Kd.sl KI), none⟩)) rfl (by kernel_rfl) (fun c l s h => hQp c l s h) rfl (fun s' K hK => ?_) rfl rfl (fun _ => hR) ?_
                      · refine hel4950 s' (sliceLen hl4825) rfl Try.underlying105 tI24 ?_
                        exact hK
                      try dsimp only [putL, setL, evL, getL]
                      refine HK_read 16 (v := .slice A4951 u4950.length c4951) rfl (by kernel_rfl) (fun c l s h => hQp c l s h) rfl (fun s' hR' K hK => ?_) rfl rfl hR ?_
                      · refine o_load' rfl Try.underlying24 rfl (has_gro hR' (hh4950 0 _ rfl)) ?_
                        exact hK
                      try dsimp only [putL, setL, evL, getL]
                      refine HK_readP 17 (v := .int .i64 x4826) rfl (by kernel_rfl) (fun c l s h => hQp c l s h) rfl (fun s' K hK => ?_) rfl rfl (fun _ => hR) ?_
                      · refine o_move ?_
                        exact hK
                      try dsimp only [putL, setL, evL, getL]
                      refine HK_readP 18 (v := .int .i64 (IntKind.i64.wrap (x4826 + 1))) rfl (by kernel_rfl) (fun c l s h => hQp c l s h) rfl (fun s' K hK => ?_) rfl rfl (fun _ => hR) ?_
                      · refine o_bin rfl rfl rfl ?_
                        exact hK
                      try dsimp only [putL, setL, evL, getL]
                      replace H := headE H
                      obtain ⟨u4952, hu4952, H⟩ := H
                      obtain ⟨b4952, o4952, cs4952, hr4952, hh4952, hel4952⟩ := Rd.el D4951 hu4952
                      obtain rfl := hr4952
                      refine HK_readP 19 (v := .pointer (some ⟨b4952, o4952, none⟩)) rfl (by kernel_rfl) (fun c l s h => hQp c l s h) rfl (fun s' K hK => ?_) rfl rfl (fun _ => hR) ?_
                      · refine hel4952 s' rfl rfl Try.underlying24 tI3 ?_
                        exact hK
                      try dsimp only [putL, setL, evL, getL]
                      refine HK_read 20 (v := .int .i64 u4952) rfl (by kernel_rfl) (fun c l s h => hQp c l s h) rfl (fun s' hR' K hK => ?_) rfl rfl hR ?_
                      · refine o_load' rfl Try.underlying3 rfl (has_gro hR' (hh4952 0 _ rfl)) ?_
                        exact hK
                      try dsimp only [putL, setL, evL, getL]
                      refine HK_readP 0 (v := .slice A3 x3.length c3) rfl (by kernel_rfl) (fun c l s h => hQp c l s h) rfl (fun s' K hK => ?_) rfl rfl (fun _ => hR) ?_
                      · refine o_move ?_
                        exact hK
                      try dsimp only [putL, setL, evL, getL]
                      refine HK_readP 1 (v := .int .i64 x3310) rfl (by kernel_rfl) (fun c l s h => hQp c l s h) rfl (fun s' K hK => ?_) rfl rfl (fun _ => hR) ?_
                      · refine o_move ?_
                        exact hK
                      try dsimp only [putL, setL, evL, getL]
                      replace H := headE H
                      obtain ⟨u4953, hu4953, H⟩ := H
                      obtain ⟨b4953, o4953, vs4953, hA4953, -, hH⟩ := hH.open 0 rfl rfl hu4953
                      dsimp only [addC, setC, rmC, selC, getC] at hH
                      obtain ⟨A4954, c4954, rfl, hH⟩ := hH.el_sl 1 rfl rfl
                      dsimp only [addC, setC, rmC, selC, getC] at hH
                      replace hH : Hp sb s F0 s4907 [Ck.oh (Ow.sl OI 3) 24 A3 c3 x4825 (Int.toNat x3310) [.slice A4954 u4953.length c4954], Ck.ol OI 3 A4954 c4954 u4953] := hH
                      refine HK_readP 2 (v := .pointer (some ⟨b4953, o4953 + Int.toNat x3310 * Kd.sz (Kd.sl KI), none⟩)) rfl (by kernel_rfl) (fun c l s h => hQp c l s h) rfl (fun s' K hK => ?_) rfl rfl (fun _ => hR) ?_
                      · refine iaddr_of (K := (Kd.sl KI)) hA4953 hu4953 s' (sliceLen hl4825) rfl Try.underlying105 tI24 ?_
                        exact hK
                      try dsimp only [putL, setL, evL, getL]
                      refine HK_read 3 (v := .slice A4954 u4953.length c4954) rfl (by kernel_rfl) (fun c l s h => hQp c l s h) rfl (fun s' hR' K hK => ?_) rfl rfl hR ?_
                      · refine o_load' rfl Try.underlying24 rfl (has_gro hR' (hH.hasoh 0 rfl hA4953 0 _ rfl)) ?_
                        exact hK
                      try dsimp only [putL, setL, evL, getL]
                      refine HK_readP 4 (v := .int .i64 x4826) rfl (by kernel_rfl) (fun c l s h => hQp c l s h) rfl (fun s' K hK => ?_) rfl rfl (fun _ => hR) ?_
                      · refine o_move ?_
                        exact hK
                      try dsimp only [putL, setL, evL, getL]
                      refine HK_more [21] (by kernel_rfl) rfl (fun _ => hR) ⟨⟨_, rfl, Or.inl ⟨rfl, ?_⟩⟩, trivial⟩
                      replace H := headE H
                      obtain ⟨u4955, hu4955, H⟩ := H
                      skip
                      refine o_call (args := #[.int .i64 u4949, .int .i64 u4952]) Try.func187 rfl rfl rfl (spec_l1Most.ok sb s4907 no u4949 u4952 (Hp.own hH.bs) _ hu4955) ?_
                      rintro _ s4955 ⟨rfl, hD⟩
                      replace hR := hR.trans hD.gro
                      replace hH := hH.back0 hD (Up.refl _ _ _)
                      clear hD
                      dsimp only [addC, setC, rmC, selC, getC] at hH
                      try dsimp only [putL, setL, evL, getL]
                      replace H := headE H
                      obtain ⟨u4956, hu4956, H⟩ := H
                      obtain ⟨b4956, o4956, cs4956, hA4956, hr4956, hh4956, hel4956⟩ := hH.elo 1 rfl hu4956
                      obtain rfl := hr4956
                      refine HK_readP 22 (v := .pointer (some ⟨b4956, o4956 + Int.toNat x4826 * Kd.sz KI, none⟩)) rfl (by kernel_rfl) (fun c l s h => hQp c l s h) rfl (fun s' K hK => ?_) rfl rfl (fun _ => hR) ?_
                      · refine hel4956 s' rfl rfl Try.underlying24 tI3 ?_
                        exact hK
                      try dsimp only [putL, setL, evL, getL]
                      refine HK_more [23] (by kernel_rfl) rfl (fun _ => hR) ⟨⟨_, rfl, Or.inl ⟨rfl, ?_⟩⟩, trivial⟩
                      replace H := headE H
                      obtain ⟨x4957, hx4957, H⟩ := H
                      skip
                      refine o_setF (vs := [.int .i64 u4955]) (u := u4955) hH 1 rfl rfl rfl rfl rfl tI3 hA4956 hx4957 (Ent.own (Ent.flat rfl)) ?_
                      intro s4957 hH'
                      have hl4957 := st?_len hx4957
                      replace hH : Hp sb s F0 s4957 [Ck.oh (Ow.sl OI 3) 24 A3 c3 x4825 (Int.toNat x3310) [.slice A4954 u4953.length c4954], Ck.ol OI 3 A4954 c4954 x4957] := hH'
                      clear hH'
                      try dsimp only [putL, setL, evL, getL]
                      refine HK_free (by kernel_rfl) ?_
                      refine HX_done (by kernel_rfl) ?_
                      replace hH := hH.conv [1] (by decide) (d := Ck.el (Ow.sl OI 3) [.slice A4954 u4953.length c4954] x4957) (Ent.slL hl4957)
                      dsimp only [addC, setC, rmC, selC, getC] at hH
                      replace H := headE H
                      obtain ⟨x4958, hx4958, H⟩ := H
                      replace hH := hH.close (i := x3310) 0 2 (by decide) rfl rfl rfl hx4958
                      dsimp only [addC, setC, rmC, selC, getC] at hH
                      have hl4958 := (st?_len hx4958).trans hl4825
                      replace hH : Hp sb s F0 s4957 [Ck.ol (Ow.sl OI 3) 24 A3 c3 x4958, Ck.emp, Ck.emp] := hH
                      exact hK4909 _ _ ⟨x4958, H, rfl, hH.sel [0] (by decide), hl4958⟩
                  · rintro l' s4959 ⟨x4934, H, hl, hH, hl4934⟩
                    generalize getL l' 38 = j38, getL l' 39 = j39, getL l' 40 = j40, getL l' 41 = j41, getL l' 42 = j42, getL l' 43 = j43, getL l' 44 = j44, getL l' 45 = j45, getL l' 46 = j46, getL l' 47 = j47, getL l' 48 = j48, getL l' 49 = j49, getL l' 50 = j50, getL l' 51 = j51, getL l' 52 = j52, getL l' 53 = j53, getL l' 54 = j54, getL l' 55 = j55, getL l' 56 = j56, getL l' 57 = j57, getL l' 58 = j58, getL l' 59 = j59, getL l' 60 = j60, getL l' 61 = j61, getL l' 62 = j62, getL l' 63 = j63, getL l' 64 = j64, getL l' 65 = j65, getL l' 66 = j66, getL l' 67 = j67, getL l' 68 = j68, getL l' 69 = j69, getL l' 70 = j70, getL l' 71 = j71, getL l' 72 = j72, getL l' 73 = j73, getL l' 74 = j74, getL l' 75 = j75, getL l' 76 = j76, getL l' 77 = j77, getL l' 78 = j78, getL l' 79 = j79, getL l' 80 = j80, getL l' 81 = j81, getL l' 82 = j82, getL l' 83 = j83, getL l' 84 = j84, getL l' 85 = j85 at hl
                    subst hl
                    replace H := hG4909 _ H
                    try dsimp only at H
                    refine HT_region ?_
                    refine HL_cons rfl ?_
                    refine o_move ?_
                    try dsimp only [putL, setL, evL, getL]
                    refine HL_cons rfl ?_
                    refine o_bin rfl rfl rfl ?_
                    try dsimp only [putL, setL, evL, getL]
                    refine HL_cons rfl ?_
                    refine o_assign ?_
                    try dsimp only [putL, setL, evL, getL]
                    refine HL_nil ?_
                    exact hK4894 _ _ ⟨kf, Nat.lt_succ_self kf, x4934, IntKind.i64.wrap (x4826 - 1), H, rfl, hH, hl4934⟩
                · replace H := iteF hb4908 H
                  refine HT_false (congrArg Value.bool hb4908) ?_
                  refine HT_exit ?_
                  exact hK4558 _ _ ⟨x4825, H, rfl, hH, hl4825⟩
          · rintro l' s4960 ⟨x4759, H, hl, hH, hl4759⟩
            generalize getL l' 7 = j7, getL l' 28 = j28, getL l' 29 = j29, getL l' 30 = j30, getL l' 31 = j31, getL l' 32 = j32, getL l' 33 = j33, getL l' 34 = j34, getL l' 35 = j35, getL l' 36 = j36, getL l' 37 = j37, getL l' 38 = j38, getL l' 39 = j39, getL l' 40 = j40, getL l' 41 = j41, getL l' 42 = j42, getL l' 43 = j43, getL l' 44 = j44, getL l' 45 = j45, getL l' 46 = j46, getL l' 47 = j47, getL l' 48 = j48, getL l' 49 = j49, getL l' 50 = j50, getL l' 51 = j51, getL l' 52 = j52, getL l' 53 = j53, getL l' 54 = j54, getL l' 55 = j55, getL l' 56 = j56, getL l' 57 = j57, getL l' 58 = j58, getL l' 59 = j59, getL l' 60 = j60, getL l' 61 = j61, getL l' 62 = j62, getL l' 63 = j63, getL l' 64 = j64, getL l' 65 = j65, getL l' 66 = j66, getL l' 67 = j67, getL l' 68 = j68, getL l' 69 = j69, getL l' 70 = j70, getL l' 71 = j71, getL l' 72 = j72, getL l' 73 = j73, getL l' 74 = j74, getL l' 75 = j75, getL l' 76 = j76, getL l' 77 = j77, getL l' 78 = j78, getL l' 79 = j79, getL l' 80 = j80, getL l' 81 = j81, getL l' 82 = j82, getL l' 83 = j83, getL l' 84 = j84, getL l' 85 = j85 at hl
            subst hl
            replace H := hG4558 _ H
            try dsimp only at H
            exact hK4141 _ _ ⟨x4759, H, rfl, hH, hl4759⟩
        · rintro l' s4961 ⟨x4551, H, hl, hH, hl4551⟩
          generalize getL l' 7 = j7, getL l' 18 = j18, getL l' 19 = j19, getL l' 20 = j20, getL l' 21 = j21, getL l' 22 = j22, getL l' 23 = j23, getL l' 24 = j24, getL l' 25 = j25, getL l' 26 = j26, getL l' 27 = j27, getL l' 28 = j28, getL l' 29 = j29, getL l' 30 = j30, getL l' 31 = j31, getL l' 32 = j32, getL l' 33 = j33, getL l' 34 = j34, getL l' 35 = j35, getL l' 36 = j36, getL l' 37 = j37, getL l' 38 = j38, getL l' 39 = j39, getL l' 40 = j40, getL l' 41 = j41, getL l' 42 = j42, getL l' 43 = j43, getL l' 44 = j44, getL l' 45 = j45, getL l' 46 = j46, getL l' 47 = j47, getL l' 48 = j48, getL l' 49 = j49, getL l' 50 = j50, getL l' 51 = j51, getL l' 52 = j52, getL l' 53 = j53, getL l' 54 = j54, getL l' 55 = j55, getL l' 56 = j56, getL l' 57 = j57, getL l' 58 = j58, getL l' 59 = j59, getL l' 60 = j60, getL l' 61 = j61, getL l' 62 = j62, getL l' 63 = j63, getL l' 64 = j64, getL l' 65 = j65, getL l' 66 = j66, getL l' 67 = j67, getL l' 68 = j68, getL l' 69 = j69, getL l' 70 = j70, getL l' 71 = j71, getL l' 72 = j72, getL l' 73 = j73, getL l' 74 = j74, getL l' 75 = j75, getL l' 76 = j76, getL l' 77 = j77, getL l' 78 = j78, getL l' 79 = j79, getL l' 80 = j80, getL l' 81 = j81, getL l' 82 = j82, getL l' 83 = j83, getL l' 84 = j84, getL l' 85 = j85 at hl
          subst hl
          replace H := hG4141 _ H
          try dsimp only at H
          refine HT_region ?_
          refine HL_cons rfl ?_
          refine o_move ?_
          try dsimp only [putL, setL, evL, getL]
          refine HL_cons rfl ?_
          refine o_bin rfl rfl rfl ?_
          try dsimp only [putL, setL, evL, getL]
          refine HL_cons rfl ?_
          refine o_assign ?_
          try dsimp only [putL, setL, evL, getL]
          refine HL_nil ?_
          exact hK4137 _ _ ⟨kf, Nat.lt_succ_self kf, x4551, IntKind.i64.wrap (x3310 - 1), H, rfl, hH, hl4551⟩
      · replace H := iteF hb4140 H
        refine HT_false (congrArg Value.bool hb4140) ?_
        refine HT_exit ?_
        exact hK6 _ _ ⟨x3309, H, rfl, hH, hl3309⟩
  · rintro l' s4962 ⟨x2484, H, hl, hH, hl2484⟩
    generalize getL l' 6 = j6, getL l' 7 = j7, getL l' 14 = j14, getL l' 15 = j15, getL l' 16 = j16, getL l' 17 = j17, getL l' 18 = j18, getL l' 19 = j19, getL l' 20 = j20, getL l' 21 = j21, getL l' 22 = j22, getL l' 23 = j23, getL l' 24 = j24, getL l' 25 = j25, getL l' 26 = j26, getL l' 27 = j27, getL l' 28 = j28, getL l' 29 = j29, getL l' 30 = j30, getL l' 31 = j31, getL l' 32 = j32, getL l' 33 = j33, getL l' 34 = j34, getL l' 35 = j35, getL l' 36 = j36, getL l' 37 = j37, getL l' 38 = j38, getL l' 39 = j39, getL l' 40 = j40, getL l' 41 = j41, getL l' 42 = j42, getL l' 43 = j43, getL l' 44 = j44, getL l' 45 = j45, getL l' 46 = j46, getL l' 47 = j47, getL l' 48 = j48, getL l' 49 = j49, getL l' 50 = j50, getL l' 51 = j51, getL l' 52 = j52, getL l' 53 = j53, getL l' 54 = j54, getL l' 55 = j55, getL l' 56 = j56, getL l' 57 = j57, getL l' 58 = j58, getL l' 59 = j59, getL l' 60 = j60, getL l' 61 = j61, getL l' 62 = j62, getL l' 63 = j63, getL l' 64 = j64, getL l' 65 = j65, getL l' 66 = j66, getL l' 67 = j67, getL l' 68 = j68, getL l' 69 = j69, getL l' 70 = j70, getL l' 71 = j71, getL l' 72 = j72, getL l' 73 = j73, getL l' 74 = j74, getL l' 75 = j75, getL l' 76 = j76, getL l' 77 = j77, getL l' 78 = j78, getL l' 79 = j79, getL l' 80 = j80, getL l' 81 = j81, getL l' 82 = j82, getL l' 83 = j83, getL l' 84 = j84, getL l' 85 = j85 at hl
    subst hl
    replace H := hG6 _ H
    try dsimp only at H
    refine hK4 _ _ ?_
    refine HT_seq_k ?_
    intro K4963 hK4963
    refine HT_region ?_
    refine HL_cons rfl ?_
    refine o_move ?_
    try dsimp only [putL, setL, evL, getL]
    refine HL_cons rfl ?_
    refine o_assign ?_
    try dsimp only [putL, setL, evL, getL]
    refine HL_nil ?_
    refine hK4963 _ _ ?_
    refine HT_ret ?_
    exact hQr _ _ [.slice A3 x3.length c3] ⟨rfl, trivial⟩ (retH (fun r => spec_l15Common.post sb s F0 r _ _) (show some _ = some r from H) ⟨A3, c3, (by first | (rw [hl2484]; first | done | rfl) | rfl), hH⟩)
def spec_l15Add.f (p0 : List ((Int) × (List (Int)))) (p1 : Int) (p2 : Int) : Option (List ((Int) × (List (Int)))) := (if (decide ((p0.length : Int) > 0)) = true then ((rd? p0 (IntKind.i64.wrap ((p0.length : Int) - 1))).bind fun u33 => some (u33.1 == p1)) else (some false)).bind fun (o : Bool) => match o with | x31 => (if x31 = true then ((rd? p0 (IntKind.i64.wrap ((p0.length : Int) - 1))).bind fun u38 => (app? 17592186044416 u38.2 [p2]).bind fun x43 => (st? p0 (IntKind.i64.wrap ((p0.length : Int) - 1)) (u38.1, x43)).bind fun x47 => some x47) else ((app? 4398046511104 p0 [(p1, [p2])]).bind fun x51 => some x51))
def spec_l15Add.post (sb s : St) (F0 : Fp) (r : (List ((Int) × (List (Int))))) : Value → St → Prop := fun v s' => ∃ (A0 : Option Addr) (c0 : Nat), v = .slice A0 r.length c0 ∧ Hp sb s F0 s' [Ck.ol OS170 170 A0 c0 r]
set_option maxRecDepth 100000 in
set_option maxHeartbeats 4000000 in
theorem spec_l15Add.ok (sb s : St) (F0 : Fp) (A0p : Option Addr) (c0p : Nat) (p0 : List ((Int) × (List (Int)))) (p1 : Int) (p2 : Int) (hH : Hp sb s F0 s [Ck.ol OS170 170 A0p c0p p0]) (r : (List ((Int) × (List (Int))))) (H : spec_l15Add.f p0 p1 p2 = some r) : GCall Try.prog 209 #[.slice A0p p0.length c0p, .int .i64 p1, .int .i64 p2] s (spec_l15Add.post sb s F0 r) := by
  refine GCall_ofk [.tmp 6] [.slice A0p p0.length c0p, .int .i64 p1, .int .i64 p2, undef, undef, undef, undef, undef, undef, undef, undef, undef, undef, undef, undef, undef, undef, undef, undef, undef, undef, undef, undef, undef, undef, undef, undef, undef, undef, undef, undef, undef, undef, undef, undef, undef, undef, undef, undef, undef, undef, undef, undef, undef] Try.func209 rfl rfl rfl ?_
  intro w Q hQr hQn hQp
  replace H := topE H
  unfold spec_l15Add.f at H
  refine HT_seq_k ?_
  intro K1 hK1
  refine HT_region ?_
  refine HL_cons rfl ?_
  refine o_assign ?_
  try dsimp only [putL, setL, evL, getL]
  refine HL_nil ?_
  refine hK1 _ _ ?_
  refine HT_seq_k ?_
  intro K25 hK25
  refine HT_seq_k ?_
  intro K26 hK26
  refine HT_region ?_
  refine HL_cons rfl ?_
  refine o_move ?_
  try dsimp only [putL, setL, evL, getL]
  refine HL_cons rfl ?_
  refine o_len rfl Try.underlying85 ?_
  try dsimp only [putL, setL, evL, getL]
  refine HL_cons rfl ?_
  refine o_assign ?_
  try dsimp only [putL, setL, evL, getL]
  refine HL_nil ?_
  refine hK26 _ _ ?_
  refine joinH H fun G27 hG27 H => ?_
  refine HT_joinK (fun l' s' => ∃ (x31 : Bool), G27 x31 = some r ∧ l' = [.slice A0p p0.length c0p, .int .i64 p1, .int .i64 p2, undef, undef, undef, .slice none 0 0, .int .i64 (p0.length : Int), .slice A0p p0.length c0p, .int .i64 (p0.length : Int), getL l' 10, getL l' 11, getL l' 12, getL l' 13, getL l' 14, getL l' 15, getL l' 16, getL l' 17, getL l' 18, getL l' 19, getL l' 20, .bool x31, undef, undef, undef, undef, undef, undef, undef, undef, undef, undef, undef, undef, undef, undef, undef, undef, undef, undef, undef, undef, undef, undef] ∧ Hp sb s F0 s' [Ck.ol OS170 170 A0p c0p p0]) ?_ ?_
  · intro K27 hK27
    refine HT_region ?_
    refine HL_cons rfl ?_
    refine o_move ?_
    try dsimp only [putL, setL, evL, getL]
    refine HL_cons rfl ?_
    refine o_bin rfl rfl rfl ?_
    try dsimp only [putL, setL, evL, getL]
    refine HL_cons rfl ?_
    refine o_move ?_
    try dsimp only [putL, setL, evL, getL]
    rcases Bool.eq_false_or_eq_true (decide ((p0.length : Int) > 0)) with hb32 | hb32
    · replace H := iteT hb32 H
      refine HL_want ?_ ?_
      · exact wantT (j := 2) (b := true) (t := 12) (c := decide ((p0.length : Int) > 0)) rfl rfl rfl rfl hb32
      refine o_move ?_
      try dsimp only [putL, setL, evL, getL]
      refine HL_want ?_ ?_
      · exact wantT (j := 2) (b := true) (t := 12) (c := decide ((p0.length : Int) > 0)) rfl rfl rfl rfl hb32
      refine o_move ?_
      try dsimp only [putL, setL, evL, getL]
      refine HL_want ?_ ?_
      · exact wantT (j := 2) (b := true) (t := 12) (c := decide ((p0.length : Int) > 0)) rfl rfl rfl rfl hb32
      refine o_bin rfl rfl rfl ?_
      try dsimp only [putL, setL, evL, getL]
      replace H := headE H
      obtain ⟨u33, hu33, H⟩ := H
      obtain ⟨b33, o33, cs33, hA33, hr33, hh33, hel33⟩ := hH.elo 0 rfl hu33
      obtain ⟨_, _, rfl, rfl, ⟨A34, c34, rfl, D34⟩⟩ := hr33
      refine HL_want ?_ ?_
      · exact wantT (j := 2) (b := true) (t := 12) (c := decide ((p0.length : Int) > 0)) rfl rfl rfl rfl hb32
      refine hel33 s rfl rfl Try.underlying85 tI170 ?_
      try dsimp only [putL, setL, evL, getL]
      refine HL_want ?_ ?_
      · exact wantT (j := 2) (b := true) (t := 12) (c := decide ((p0.length : Int) > 0)) rfl rfl rfl rfl hb32
      refine o_faddr' (ft := 3) (off := 0) rfl Try.underlying170 rfl tI3 (by decide) ?_
      try dsimp only [putL, setL, evL, getL]
      refine HL_want ?_ ?_
      · exact wantT (j := 2) (b := true) (t := 12) (c := decide ((p0.length : Int) > 0)) rfl rfl rfl rfl hb32
      refine o_load' rfl Try.underlying3 rfl (hh33 0 _ rfl) ?_
      try dsimp only [putL, setL, evL, getL]
      refine HL_want ?_ ?_
      · exact wantT (j := 2) (b := true) (t := 12) (c := decide ((p0.length : Int) > 0)) rfl rfl rfl rfl hb32
      refine o_move ?_
      try dsimp only [putL, setL, evL, getL]
      refine HL_want ?_ ?_
      · exact wantT (j := 2) (b := true) (t := 12) (c := decide ((p0.length : Int) > 0)) rfl rfl rfl rfl hb32
      refine o_bin rfl rfl rfl ?_
      try dsimp only [putL, setL, evL, getL]
      refine HL_cons rfl ?_
      refine o_pickT rfl hb32 ?_
      try dsimp only [putL, setL, evL, getL]
      refine HL_nil ?_
      exact hK27 _ _ ⟨u33.1 == p1, H, rfl, hH⟩
    · replace H := iteF hb32 H
      refine HL_skip ?_ ?_
      · exact wantF (j := 2) (b := true) (t := 12) (c := decide ((p0.length : Int) > 0)) rfl rfl rfl rfl hb32
      try dsimp only [putL, setL, evL, getL]
      refine HL_skip ?_ ?_
      · exact wantF (j := 2) (b := true) (t := 12) (c := decide ((p0.length : Int) > 0)) rfl rfl rfl rfl hb32
      try dsimp only [putL, setL, evL, getL]
      refine HL_skip ?_ ?_
      · exact wantF (j := 2) (b := true) (t := 12) (c := decide ((p0.length : Int) > 0)) rfl rfl rfl rfl hb32
      try dsimp only [putL, setL, evL, getL]
      refine HL_skip ?_ ?_
      · exact wantF (j := 2) (b := true) (t := 12) (c := decide ((p0.length : Int) > 0)) rfl rfl rfl rfl hb32
      try dsimp only [putL, setL, evL, getL]
      refine HL_skip ?_ ?_
      · exact wantF (j := 2) (b := true) (t := 12) (c := decide ((p0.length : Int) > 0)) rfl rfl rfl rfl hb32
      try dsimp only [putL, setL, evL, getL]
      refine HL_skip ?_ ?_
      · exact wantF (j := 2) (b := true) (t := 12) (c := decide ((p0.length : Int) > 0)) rfl rfl rfl rfl hb32
      try dsimp only [putL, setL, evL, getL]
      refine HL_skip ?_ ?_
      · exact wantF (j := 2) (b := true) (t := 12) (c := decide ((p0.length : Int) > 0)) rfl rfl rfl rfl hb32
      try dsimp only [putL, setL, evL, getL]
      refine HL_skip ?_ ?_
      · exact wantF (j := 2) (b := true) (t := 12) (c := decide ((p0.length : Int) > 0)) rfl rfl rfl rfl hb32
      try dsimp only [putL, setL, evL, getL]
      refine HL_cons rfl ?_
      refine o_pickF rfl hb32 ?_
      try dsimp only [putL, setL, evL, getL]
      refine HL_nil ?_
      exact hK27 _ _ ⟨false, H, rfl, hH⟩
  · rintro l' s35 ⟨x31, H, hl, hH⟩
    generalize getL l' 10 = j10, getL l' 11 = j11, getL l' 12 = j12, getL l' 13 = j13, getL l' 14 = j14, getL l' 15 = j15, getL l' 16 = j16, getL l' 17 = j17, getL l' 18 = j18, getL l' 19 = j19, getL l' 20 = j20 at hl
    subst hl
    replace H := hG27 _ H
    try dsimp only at H
    rcases Bool.eq_false_or_eq_true x31 with hb36 | hb36
    · replace H := iteT hb36 H
      refine HT_true (congrArg Value.bool hb36) ?_
      refine HT_seq_k ?_
      intro K37 hK37
      refine HT_region ?_
      refine HL_cons rfl ?_
      refine o_move ?_
      try dsimp only [putL, setL, evL, getL]
      refine HL_cons rfl ?_
      refine o_move ?_
      try dsimp only [putL, setL, evL, getL]
      refine HL_cons rfl ?_
      refine o_bin rfl rfl rfl ?_
      try dsimp only [putL, setL, evL, getL]
      refine HL_cons rfl ?_
      refine o_move ?_
      try dsimp only [putL, setL, evL, getL]
      refine HL_cons rfl ?_
      refine o_move ?_
      try dsimp only [putL, setL, evL, getL]
      refine HL_cons rfl ?_
      refine o_bin rfl rfl rfl ?_
      try dsimp only [putL, setL, evL, getL]
      replace H := headE H
      obtain ⟨u38, hu38, H⟩ := H
      obtain ⟨b38, o38, vs38, hA38, -, hH⟩ := hH.open 0 rfl rfl hu38
      dsimp only [addC, setC, rmC, selC, getC] at hH
      obtain ⟨v39, v40, rfl, hH⟩ := hH.el_pair 1 rfl rfl
      dsimp only [addC, setC, rmC, selC, getC] at hH
      obtain rfl := hH.el_rep 1 rfl
      replace hH := hH.drop 1 rfl
      dsimp only [addC, setC, rmC, selC, getC] at hH
      obtain ⟨A41, c41, rfl, hH⟩ := hH.el_sl 2 rfl rfl
      dsimp only [addC, setC, rmC, selC, getC] at hH
      replace hH : Hp sb s F0 s35 [Ck.oh OS170 170 A0p c0p p0 (Int.toNat (IntKind.i64.wrap ((p0.length : Int) - 1))) [.int .i64 u38.1, .slice A41 u38.2.length c41], Ck.emp, Ck.ol OI 3 A41 c41 u38.2] := hH
      refine HL_cons rfl ?_
      refine iaddr_of (K := KS170) hA38 hu38 s35 rfl rfl Try.underlying85 tI170 ?_
      try dsimp only [putL, setL, evL, getL]
      refine HL_cons rfl ?_
      refine o_faddr' (ft := 24) (off := 1) rfl Try.underlying170 rfl tI24 (by decide) ?_
      try dsimp only [putL, setL, evL, getL]
      refine HL_cons rfl ?_
      refine o_load' rfl Try.underlying24 rfl (hH.hasoh 0 rfl hA38 1 _ rfl) ?_
      try dsimp only [putL, setL, evL, getL]
      refine HL_cons rfl ?_
      refine o_move ?_
      try dsimp only [putL, setL, evL, getL]
      refine HL_cons rfl ?_
      refine o_litF (K := KI) (O := OI) (ca := #[.int .i64 p2]) [[.int .i64 p2]] [p2] hH Try.underlying24 tI3 rfl (by decide) rfl rfl (by kernel_rfl) rfl ⟨rfl, Ent.own (Ent.flat rfl), trivial⟩ ?_
      intro A42 s42 hH' hG
      replace hH : Hp sb s F0 s42 [Ck.oh OS170 170 A0p c0p p0 (Int.toNat (IntKind.i64.wrap ((p0.length : Int) - 1))) [.int .i64 u38.1, .slice A41 u38.2.length c41], Ck.emp, Ck.ol OI 3 A41 c41 u38.2, Ck.ol OI 3 A42 1 [p2]] := hH'
      clear hH' hG
      try dsimp only [putL, setL, evL, getL]
      replace H := headE H
      obtain ⟨x43, hx43, H⟩ := H
      refine HL_cons rfl ?_
      refine o_appF (K := KI) (n := 17592186044416) (A := A41) (c := c41) (xs := u38.2) (ys := [p2]) (B := A42) (c2 := 1) hH 2 rfl rfl rfl rfl Try.underlying24 tI3 rfl (by decide) (by decide) (by decide) (Src.flat (hH.rd 3 rfl)) hx43 ?_
      intro A43 c43 s43 hH'
      replace hH : Hp sb s F0 s43 [Ck.oh OS170 170 A0p c0p p0 (Int.toNat (IntKind.i64.wrap ((p0.length : Int) - 1))) [.int .i64 u38.1, .slice A41 u38.2.length c41], Ck.emp, Ck.ol OI 3 A43 c43 x43, Ck.ol OI 3 A42 1 [p2]] := hH'
      clear hH'
      try dsimp only [putL, setL, evL, getL]
      refine HL_cons rfl ?_
      refine iaddr_of (K := KS170) hA38 hu38 s43 rfl rfl Try.underlying85 tI170 ?_
      try dsimp only [putL, setL, evL, getL]
      refine HL_cons rfl ?_
      refine o_faddr' (ft := 24) (off := 1) rfl Try.underlying170 rfl tI24 (by decide) ?_
      try dsimp only [putL, setL, evL, getL]
      refine HL_cons rfl ?_
      refine o_seth (off := 1) (vs' := [.int .i64 u38.1, .slice A43 x43.length c43]) hH 0 rfl rfl rfl rfl rfl tI24 hA38 rfl rfl ?_
      intro s45 hH'
      replace hH : Hp sb s F0 s45 [Ck.oh OS170 170 A0p c0p p0 (Int.toNat (IntKind.i64.wrap ((p0.length : Int) - 1))) [.int .i64 u38.1, .slice A43 x43.length c43], Ck.emp, Ck.ol OI 3 A43 c43 x43, Ck.ol OI 3 A42 1 [p2]] := hH'
      clear hH'
      try dsimp only [putL, setL, evL, getL]
      refine HL_nil ?_
      refine hK37 _ _ ?_
      refine HT_seq_k ?_
      intro K46 hK46
      refine HT_region ?_
      refine HL_cons rfl ?_
      refine o_move ?_
      try dsimp only [putL, setL, evL, getL]
      refine HL_cons rfl ?_
      refine o_assign ?_
      try dsimp only [putL, setL, evL, getL]
      refine HL_nil ?_
      refine hK46 _ _ ?_
      refine HT_ret ?_
      replace hH := hH.conv [2] (by decide) (d := Ck.el OS170 [.int .i64 u38.1, .slice A43 x43.length c43] (u38.1, x43)) (Ent.pair (v1 := [.int .i64 u38.1]) (v2 := [.slice A43 x43.length c43]) (x1 := u38.1) (x2 := x43) (Ent.flat rfl) Ent.sl)
      dsimp only [addC, setC, rmC, selC, getC] at hH
      replace H := headE H
      obtain ⟨x47, hx47, H⟩ := H
      replace hH := hH.close (i := IntKind.i64.wrap ((p0.length : Int) - 1)) 0 4 (by decide) rfl rfl rfl hx47
      dsimp only [addC, setC, rmC, selC, getC] at hH
      have hl47 := st?_len hx47
      replace hH : Hp sb s F0 s45 [Ck.ol OS170 170 A0p c0p x47, Ck.emp, Ck.emp, Ck.ol OI 3 A42 1 [p2], Ck.emp] := hH
      exact hQr _ _ [.slice A0p p0.length c0p] ⟨rfl, trivial⟩ (retH (fun r => spec_l15Add.post sb s F0 r _ _) (show some _ = some r from H) ⟨A0p, c0p, (by first | (rw [hl47]; first | done | rfl) | rfl), hH.sel [0] (by decide)⟩)
    · replace H := iteF hb36 H
      refine HT_false (congrArg Value.bool hb36) ?_
      refine HT_skip ?_
      refine hK25 _ _ ?_
      refine HT_seq_k ?_
      intro K48 hK48
      refine HT_region ?_
      refine HL_cons rfl ?_
      refine o_move ?_
      try dsimp only [putL, setL, evL, getL]
      refine HL_cons rfl ?_
      refine o_move ?_
      try dsimp only [putL, setL, evL, getL]
      refine HL_cons rfl ?_
      refine o_move ?_
      try dsimp only [putL, setL, evL, getL]
      refine HL_cons rfl ?_
      refine o_litF (K := KI) (O := OI) (ca := #[.int .i64 p2]) [[.int .i64 p2]] [p2] hH Try.underlying24 tI3 rfl (by decide) rfl rfl (by kernel_rfl) rfl ⟨rfl, Ent.own (Ent.flat rfl), trivial⟩ ?_
      intro A49 s49 hH' hG
      replace hH : Hp sb s F0 s49 [Ck.ol OS170 170 A0p c0p p0, Ck.ol OI 3 A49 1 [p2]] := hH'
      clear hH' hG
      try dsimp only [putL, setL, evL, getL]
      refine HL_cons rfl ?_
      refine o_build (pl := [(0, 1), (1, 1)]) (cs := #[.int .i64 p1, .slice A49 [p2].length 1]) Try.underlying170 tI170 (by kernel_rfl) (by kernel_rfl) rfl ?_
      try dsimp only [putL, setL, evL, getL]
      replace hH := hH.conv [1] (by decide) (d := Ck.el OS170 [.int .i64 p1, .slice A49 [p2].length 1] (p1, [p2])) (Ent.pair (v1 := [.int .i64 p1]) (v2 := [.slice A49 [p2].length 1]) (x1 := p1) (x2 := [p2]) (Ent.flat rfl) Ent.sl)
      dsimp only [addC, setC, rmC, selC, getC] at hH
      refine HL_cons rfl ?_
      refine o_litD (K := KS170) (O := OS170) (ca := #[.int .i64 p1, .slice A49 [p2].length 1]) [[.int .i64 p1, .slice A49 [p2].length 1]] [(p1, [p2])] hH [2] (by decide) rfl Try.underlying85 tI170 rfl (by decide) rfl rfl rfl rfl (by kernel_rfl) rfl ?_
      intro A50 s50 hH' hG
      replace hH : Hp sb s F0 s50 [Ck.ol OS170 170 A0p c0p p0, Ck.emp, Ck.emp, Ck.ol OS170 170 A50 1 [(p1, [p2])]] := hH'
      clear hH' hG
      try dsimp only [putL, setL, evL, getL]
      replace H := headE H
      obtain ⟨x51, hx51, H⟩ := H
      refine HL_cons rfl ?_
      refine o_appD (K := KS170) (n := 4398046511104) (A := A0p) (c := c0p) (xs := p0) (ys := [(p1, [p2])]) (B := A50) (c2 := 1) hH 0 3 (by decide) rfl rfl rfl rfl rfl Try.underlying85 tI170 rfl (by decide) (by decide) (by decide) hx51 ?_
      intro A51 c51 s51 hH'
      replace hH : Hp sb s F0 s51 [Ck.ol OS170 170 A51 c51 x51, Ck.emp, Ck.emp, Ck.emp] := hH'
      clear hH'
      try dsimp only [putL, setL, evL, getL]
      refine HL_cons rfl ?_
      refine o_assign ?_
      try dsimp only [putL, setL, evL, getL]
      refine HL_nil ?_
      refine hK48 _ _ ?_
      refine HT_ret ?_
      exact hQr _ _ [.slice A51 x51.length c51] ⟨rfl, trivial⟩ (retH (fun r => spec_l15Add.post sb s F0 r _ _) (show some _ = some r from H) ⟨A51, c51, rfl, hH.sel [0] (by decide)⟩)
end Go.Proofs.Ytkieinlcpkpcjaa
