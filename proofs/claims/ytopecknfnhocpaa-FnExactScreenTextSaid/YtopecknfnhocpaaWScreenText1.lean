/- The functions that the law reaches, as plain functions, each with its contract: printed by a program of the prover's. No conditions: lemmas. -/
import Derived.Test.YtopecknfnhocpaaWScreenText0
set_option linter.unusedVariables false
set_option linter.unusedSimpArgs false
namespace Go.Proofs.Ytopecknfnhocpaa
open Go Go.Proofs.GL
def slices_Clone_int_int.f (p0 : List (Int)) : Option (List (Int)) := app? 17592186044416 [] p0
def slices_Clone_int_int.post (sb s : St) (F0 : Fp) (r : List (Int)) : Value → St → Prop := fun v s' => ∃ (A0 : Option Addr) (c0 : Nat), v = .slice A0 r.length c0 ∧ Hp sb s F0 s' [Ck.ol OI 3 A0 c0 r]
set_option maxRecDepth 100000 in
set_option maxHeartbeats 4000000 in
theorem slices_Clone_int_int.ok (sb s : St) (F0 : Fp) (A0p : Option Addr) (c0p : Nat) (p0 : List (Int)) (HRp0 : Rd KI sb A0p c0p p0) (hH : Hp sb s F0 s []) (r : List (Int)) (H : slices_Clone_int_int.f p0 = some r) : GCall Try.prog 94 #[.slice A0p p0.length c0p] s (slices_Clone_int_int.post sb s F0 r) := by
  refine GCall_ofk [.tmp 2] [.slice A0p p0.length c0p, undef, undef, undef, undef, undef, undef, undef] Try.func94 rfl rfl rfl ?_
  intro w Q hQr hQn hQp
  unfold slices_Clone_int_int.f at H
  refine HT_seq_k ?_
  intro K1 hK1
  refine HT_region ?_
  refine HL_cons rfl ?_
  refine o_assign ?_
  refine HL_nil ?_
  refine hK1 _ _ ?_
  refine HT_seq_k ?_
  intro K2 hK2
  refine HT_seq_k ?_
  intro K3 hK3
  refine HT_region ?_
  refine HL_cons rfl ?_
  refine o_move ?_
  dsimp only [putL, setL, evL, getL]
  refine HL_cons rfl ?_
  refine o_eqN rfl rfl Try.underlying22 ?_
  dsimp only [putL, setL, evL, getL]
  refine HL_nil ?_
  refine hK3 _ _ ?_
  cases A0p with
  | none =>
    have hp : p0 = [] := by
      by_cases h : p0 = []
      · exact h
      · obtain ⟨b, o, hA, _⟩ := HRp0.2.2 h
        cases hA
    subst hp
    obtain ⟨_, rfl⟩ := app?_some H
    refine HT_true rfl ?_
    refine HT_seq_k ?_
    intro K4 hK4
    refine HT_region ?_
    refine HL_cons rfl ?_
    refine o_assign ?_
    dsimp only [putL, setL, evL, getL]
    refine HL_nil ?_
    refine hK4 _ _ ?_
    refine HT_ret ?_
    exact hQr _ _ [.slice none 0 0] ⟨rfl, trivial⟩ ⟨none, 0, rfl, hH.nil (K := KI) OI 3⟩
  | some a =>
    refine HT_false rfl ?_
    refine HT_skip ?_
    refine hK2 _ _ ?_
    refine HT_seq_k ?_
    intro K4 hK4
    refine HT_region ?_
    refine HL_cons rfl ?_
    refine o_lit0H (α := Int) (K := KI) (O := OI) hH Try.underlying22 tI3 ?_
    intro A1 s1 hH hG
    dsimp only [putL, setL, evL, getL]
    refine HL_cons rfl ?_
    refine o_move ?_
    dsimp only [putL, setL, evL, getL]
    refine HL_cons rfl ?_
    refine o_appF (n := 17592186044416) (A := A1) (c := 0) (xs := ([] : List (Int))) (ys := p0) (B := some a) (c2 := c0p) hH 0 rfl rfl rfl rfl Try.underlying22 tI3 rfl (by decide) (by decide) (by decide) (Src.flat (HRp0.mono hH.bs.mono)) H ?_
    intro A2 c2 s2 hH
    dsimp only [putL, setL, evL, getL]
    refine HL_cons rfl ?_
    refine o_assign ?_
    dsimp only [putL, setL, evL, getL]
    refine HL_nil ?_
    refine hK4 _ _ ?_
    refine HT_ret ?_
    exact hQr _ _ [.slice A2 r.length c2] ⟨rfl, trivial⟩ ⟨A2, c2, rfl, hH⟩
def impl_Screen_rowOf.l1 : Nat → (List (Int)) → Option (List (Int))
  | 0, _ => none
  | kf + 1, x89 => (if (decide ((x89.length : Int) > 0)) = true then ((rd? x89 (IntKind.i64.wrap ((x89.length : Int) - 1))).bind fun u126 => some (u126 == 32)) else (some false)).bind fun (o : Bool) => match o with | x124 => (if x124 = true then ((cut? x89 0 (IntKind.i64.wrap ((x89.length : Int) - 1))).bind fun x129 => impl_Screen_rowOf.l1 kf x129) else (some x89))
def impl_Screen_rowOf.f (p0_0 : Int) (p0_1 : Int) (p0_2 : List (Int)) (p0_3 : Int) (p0_4 : Int) (p1 : Int) : Option (List (Int)) := (impl_Screen_row.f p0_0 p0_1 p0_2 p0_3 p0_4 p1).bind fun u4 => (slices_Clone_int_int.f u4).bind fun u6 => (impl_Screen_rowOf.l1 ((((u6.length : Int)) - (0)).toNat + 2) u6).bind fun (o : (List (Int))) => match o with | x69 => ((slices_Clone_int_int.f x69).bind fun u132 => some u132)
def impl_Screen_rowOf.post (sb s : St) (F0 : Fp) (r : (List (Int))) : Value → St → Prop := fun v s' => ∃ (A0 : Option Addr) (c0 : Nat), v = .slice A0 r.length c0 ∧ Hp sb s F0 s' [Ck.ol OI 3 A0 c0 r]
set_option maxRecDepth 100000 in
set_option maxHeartbeats 4000000 in
theorem impl_Screen_rowOf.ok (sb s : St) (F0 : Fp) (p0_0 : Int) (p0_1 : Int) (A0_2p : Option Addr) (c0_2p : Nat) (p0_2 : List (Int)) (p0_3 : Int) (p0_4 : Int) (p1 : Int) (HRp0_2 : Rd KI sb A0_2p c0_2p p0_2) (hH : Hp sb s F0 s []) (r : (List (Int))) (H : impl_Screen_rowOf.f p0_0 p0_1 p0_2 p0_3 p0_4 p1 = some r) : GCall Try.prog 105 #[.agg #[.int .i64 p0_0, .int .i64 p0_1, .slice A0_2p p0_2.length c0_2p, .int .i64 p0_3, .int .i64 p0_4], .int .i64 p1] s (impl_Screen_rowOf.post sb s F0 r) := by
  refine GCall_ofk [.tmp 4] [.agg #[.int .i64 p0_0, .int .i64 p0_1, .slice A0_2p p0_2.length c0_2p, .int .i64 p0_3, .int .i64 p0_4], .int .i64 p1, undef, undef, undef, undef, undef, undef, undef, undef, undef, undef, undef, undef, undef, undef, undef, undef, undef, undef, undef, undef, undef, undef, undef, undef, undef, undef, undef] Try.func105 rfl rfl rfl ?_
  intro w Q hQr hQn hQp
  replace H := topE H
  unfold impl_Screen_rowOf.f at H
  refine HT_seq_k ?_
  intro K1 hK1
  refine HT_region ?_
  refine HL_cons rfl ?_
  refine o_boxH hH rfl ?_
  intro b2 s2 hH' hG
  replace hH : Hp sb s F0 s2 [Ck.ov b2 [.int .i64 p0_0, .int .i64 p0_1, .slice A0_2p p0_2.length c0_2p, .int .i64 p0_3, .int .i64 p0_4] 55] := hH'
  clear hH' hG
  try dsimp only [putL, setL, evL, getL]
  refine HL_cons rfl ?_
  refine o_assign ?_
  try dsimp only [putL, setL, evL, getL]
  refine HL_nil ?_
  refine hK1 _ _ ?_
  refine HT_seq_k ?_
  intro K3 hK3
  refine HT_region ?_
  refine HL_cons rfl ?_
  refine o_loads' [.int .i64 p0_0, .int .i64 p0_1, .slice A0_2p p0_2.length c0_2p, .int .i64 p0_3, .int .i64 p0_4] rfl Try.underlying55 rfl tI55 rfl (hH.partv 0 rfl (0) [.int .i64 p0_0, .int .i64 p0_1, .slice A0_2p p0_2.length c0_2p, .int .i64 p0_3, .int .i64 p0_4] rfl) ?_
  try dsimp only [putL, setL, evL, getL]
  refine HL_cons rfl ?_
  refine o_move ?_
  try dsimp only [putL, setL, evL, getL]
  obtain ⟨u4, hu4, H⟩ := headE H
  refine HL_cons rfl ?_
  refine o_call (args := #[.agg #[.int .i64 p0_0, .int .i64 p0_1, .slice A0_2p p0_2.length c0_2p, .int .i64 p0_3, .int .i64 p0_4], .int .i64 p1]) Try.func148 rfl rfl rfl (impl_Screen_row.ok sb s2 no p0_0 p0_1 A0_2p c0_2p p0_2 p0_3 p0_4 p1 HRp0_2 (Hp.own hH.bs) _ hu4) ?_
  rintro _ s4 ⟨A5, c5, rfl, hD, D5⟩
  replace hH := hH.back0 hD (Up.refl _ _ _)
  clear hD
  dsimp only [addC, setC, rmC, selC, getC] at hH
  try dsimp only [putL, setL, evL, getL]
  obtain ⟨u6, hu6, H⟩ := headE H
  refine HL_cons rfl ?_
  refine o_call (args := #[.slice A5 u4.length c5]) Try.func94 rfl rfl rfl (slices_Clone_int_int.ok sb s4 no A5 c5 u4 D5 (Hp.own hH.bs) _ hu6) ?_
  rintro _ s6 ⟨A7, c7, rfl, hD⟩
  replace hH := hH.back0 hD (Up.refl _ _ _)
  clear hD
  dsimp only [addC, setC, rmC, selC, getC] at hH
  try dsimp only [putL, setL, evL, getL]
  refine HL_cons rfl ?_
  refine o_assign ?_
  try dsimp only [putL, setL, evL, getL]
  refine HL_nil ?_
  refine hK3 _ _ ?_
  refine joinH H fun G8 hG8 H => ?_
  refine HT_joinK (fun l' s' => ∃ (x69 : List (Int)) (A69 : Option Addr) (c69 : Nat), G8 x69 = some r ∧ l' = [.agg #[.int .i64 p0_0, .int .i64 p0_1, .slice A0_2p p0_2.length c0_2p, .int .i64 p0_3, .int .i64 p0_4], .int .i64 p1, .pointer (some ⟨b2, 0, none⟩), undef, .slice none 0 0, .slice A69 x69.length c69, .agg #[.int .i64 p0_0, .int .i64 p0_1, .slice A0_2p p0_2.length c0_2p, .int .i64 p0_3, .int .i64 p0_4], .int .i64 p1, .slice A5 u4.length c5, .slice A7 u6.length c7, getL l' 10, getL l' 11, getL l' 12, getL l' 13, getL l' 14, getL l' 15, getL l' 16, getL l' 17, getL l' 18, getL l' 19, getL l' 20, getL l' 21, getL l' 22, getL l' 23, getL l' 24, getL l' 25, getL l' 26, undef, undef] ∧ Hp sb s F0 s' [Ck.ol OI 3 A69 c69 x69]) ?_ ?_
  · intro K8 hK8
    refine HT_block ?_
    refine HT_loopK (fun kf l' s' => ∃ (x89 : List (Int)) (A89 : Option Addr) (c89 : Nat), (impl_Screen_rowOf.l1 kf x89).bind G8 = some r ∧ l' = [.agg #[.int .i64 p0_0, .int .i64 p0_1, .slice A0_2p p0_2.length c0_2p, .int .i64 p0_3, .int .i64 p0_4], .int .i64 p1, .pointer (some ⟨b2, 0, none⟩), undef, .slice none 0 0, .slice A89 x89.length c89, .agg #[.int .i64 p0_0, .int .i64 p0_1, .slice A0_2p p0_2.length c0_2p, .int .i64 p0_3, .int .i64 p0_4], .int .i64 p1, .slice A5 u4.length c5, .slice A7 u6.length c7, getL l' 10, getL l' 11, getL l' 12, getL l' 13, getL l' 14, getL l' 15, getL l' 16, getL l' 17, getL l' 18, getL l' 19, getL l' 20, getL l' 21, getL l' 22, getL l' 23, getL l' 24, getL l' 25, getL l' 26, undef, undef] ∧ Hp sb s F0 s' [Ck.ol OI 3 A89 c89 x89]) ((((u6.length : Int)) - (0)).toNat + 2) ⟨u6, A7, c7, H, rfl, hH.sel [1] (by decide)⟩ ?_
    rintro kf l' s110 ⟨x89, A89, c89, H, hl, hH⟩ K110 hK110
    generalize getL l' 10 = j10, getL l' 11 = j11, getL l' 12 = j12, getL l' 13 = j13, getL l' 14 = j14, getL l' 15 = j15, getL l' 16 = j16, getL l' 17 = j17, getL l' 18 = j18, getL l' 19 = j19, getL l' 20 = j20, getL l' 21 = j21, getL l' 22 = j22, getL l' 23 = j23, getL l' 24 = j24, getL l' 25 = j25, getL l' 26 = j26 at hl
    subst hl
    cases kf with
    | zero => simp [impl_Screen_rowOf.l1] at H
    | succ kf =>
      rw [impl_Screen_rowOf.l1] at H
      refine HT_seq_k ?_
      intro K120 hK120
      refine joinH H fun G121 hG121 H => ?_
      refine HT_joinK (fun l' s' => ∃ (x124 : Bool), G121 x124 = some r ∧ l' = [.agg #[.int .i64 p0_0, .int .i64 p0_1, .slice A0_2p p0_2.length c0_2p, .int .i64 p0_3, .int .i64 p0_4], .int .i64 p1, .pointer (some ⟨b2, 0, none⟩), undef, .slice none 0 0, .slice A89 x89.length c89, .agg #[.int .i64 p0_0, .int .i64 p0_1, .slice A0_2p p0_2.length c0_2p, .int .i64 p0_3, .int .i64 p0_4], .int .i64 p1, .slice A5 u4.length c5, .slice A7 u6.length c7, getL l' 10, getL l' 11, getL l' 12, getL l' 13, getL l' 14, getL l' 15, getL l' 16, getL l' 17, getL l' 18, getL l' 19, getL l' 20, .bool x124, j22, j23, j24, j25, j26, undef, undef] ∧ Hp sb s F0 s' [Ck.ol OI 3 A89 c89 x89]) ?_ ?_
      · intro K121 hK121
        refine HT_region ?_
        refine HL_cons rfl ?_
        refine o_move ?_
        try dsimp only [putL, setL, evL, getL]
        refine HL_cons rfl ?_
        refine o_len rfl Try.underlying22 ?_
        try dsimp only [putL, setL, evL, getL]
        refine HL_cons rfl ?_
        refine o_bin rfl rfl rfl ?_
        try dsimp only [putL, setL, evL, getL]
        refine HL_cons rfl ?_
        refine o_move ?_
        try dsimp only [putL, setL, evL, getL]
        rcases Bool.eq_false_or_eq_true (decide ((x89.length : Int) > 0)) with hb125 | hb125
        · replace H := iteT hb125 H
          refine HL_want ?_ ?_
          · exact wantT (j := 3) (b := true) (t := 13) (c := decide ((x89.length : Int) > 0)) rfl rfl rfl rfl hb125
          refine o_move ?_
          try dsimp only [putL, setL, evL, getL]
          refine HL_want ?_ ?_
          · exact wantT (j := 3) (b := true) (t := 13) (c := decide ((x89.length : Int) > 0)) rfl rfl rfl rfl hb125
          refine o_move ?_
          try dsimp only [putL, setL, evL, getL]
          refine HL_want ?_ ?_
          · exact wantT (j := 3) (b := true) (t := 13) (c := decide ((x89.length : Int) > 0)) rfl rfl rfl rfl hb125
          refine o_len rfl Try.underlying22 ?_
          try dsimp only [putL, setL, evL, getL]
          refine HL_want ?_ ?_
          · exact wantT (j := 3) (b := true) (t := 13) (c := decide ((x89.length : Int) > 0)) rfl rfl rfl rfl hb125
          refine o_bin rfl rfl rfl ?_
          try dsimp only [putL, setL, evL, getL]
          obtain ⟨u126, hu126, H⟩ := headE H
          obtain ⟨b126, o126, cs126, hA126, hr126, hh126, hel126⟩ := hH.elo 0 rfl hu126
          obtain rfl := hr126
          refine HL_want ?_ ?_
          · exact wantT (j := 3) (b := true) (t := 13) (c := decide ((x89.length : Int) > 0)) rfl rfl rfl rfl hb125
          refine hel126 s110 rfl rfl Try.underlying22 tI3 ?_
          try dsimp only [putL, setL, evL, getL]
          refine HL_want ?_ ?_
          · exact wantT (j := 3) (b := true) (t := 13) (c := decide ((x89.length : Int) > 0)) rfl rfl rfl rfl hb125
          refine o_load' rfl Try.underlying3 rfl (hh126 0 _ rfl) ?_
          try dsimp only [putL, setL, evL, getL]
          refine HL_want ?_ ?_
          · exact wantT (j := 3) (b := true) (t := 13) (c := decide ((x89.length : Int) > 0)) rfl rfl rfl rfl hb125
          refine o_bin rfl rfl rfl ?_
          try dsimp only [putL, setL, evL, getL]
          refine HL_cons rfl ?_
          refine o_pickT rfl hb125 ?_
          try dsimp only [putL, setL, evL, getL]
          refine HL_nil ?_
          exact hK121 _ _ ⟨u126 == 32, H, rfl, hH⟩
        · replace H := iteF hb125 H
          refine HL_skip ?_ ?_
          · exact wantF (j := 3) (b := true) (t := 13) (c := decide ((x89.length : Int) > 0)) rfl rfl rfl rfl hb125
          try dsimp only [putL, setL, evL, getL]
          refine HL_skip ?_ ?_
          · exact wantF (j := 3) (b := true) (t := 13) (c := decide ((x89.length : Int) > 0)) rfl rfl rfl rfl hb125
          try dsimp only [putL, setL, evL, getL]
          refine HL_skip ?_ ?_
          · exact wantF (j := 3) (b := true) (t := 13) (c := decide ((x89.length : Int) > 0)) rfl rfl rfl rfl hb125
          try dsimp only [putL, setL, evL, getL]
          refine HL_skip ?_ ?_
          · exact wantF (j := 3) (b := true) (t := 13) (c := decide ((x89.length : Int) > 0)) rfl rfl rfl rfl hb125
          try dsimp only [putL, setL, evL, getL]
          refine HL_skip ?_ ?_
          · exact wantF (j := 3) (b := true) (t := 13) (c := decide ((x89.length : Int) > 0)) rfl rfl rfl rfl hb125
          try dsimp only [putL, setL, evL, getL]
          refine HL_skip ?_ ?_
          · exact wantF (j := 3) (b := true) (t := 13) (c := decide ((x89.length : Int) > 0)) rfl rfl rfl rfl hb125
          try dsimp only [putL, setL, evL, getL]
          refine HL_skip ?_ ?_
          · exact wantF (j := 3) (b := true) (t := 13) (c := decide ((x89.length : Int) > 0)) rfl rfl rfl rfl hb125
          try dsimp only [putL, setL, evL, getL]
          refine HL_cons rfl ?_
          refine o_pickF rfl hb125 ?_
          try dsimp only [putL, setL, evL, getL]
          refine HL_nil ?_
          exact hK121 _ _ ⟨false, H, rfl, hH⟩
      · rintro l' s127 ⟨x124, H, hl, hH⟩
        generalize getL l' 10 = j10, getL l' 11 = j11, getL l' 12 = j12, getL l' 13 = j13, getL l' 14 = j14, getL l' 15 = j15, getL l' 16 = j16, getL l' 17 = j17, getL l' 18 = j18, getL l' 19 = j19, getL l' 20 = j20 at hl
        subst hl
        replace H := hG121 _ H
        try dsimp only at H
        rcases Bool.eq_false_or_eq_true x124 with hb128 | hb128
        · replace H := iteT hb128 H
          refine HT_true (congrArg Value.bool hb128) ?_
          refine HT_skip ?_
          refine hK120 _ _ ?_
          refine HT_block ?_
          refine HT_region ?_
          refine HL_cons rfl ?_
          refine o_move ?_
          try dsimp only [putL, setL, evL, getL]
          refine HL_cons rfl ?_
          refine o_move ?_
          try dsimp only [putL, setL, evL, getL]
          refine HL_cons rfl ?_
          refine o_len rfl Try.underlying22 ?_
          try dsimp only [putL, setL, evL, getL]
          refine HL_cons rfl ?_
          refine o_bin rfl rfl rfl ?_
          try dsimp only [putL, setL, evL, getL]
          obtain ⟨x129, hx129, H⟩ := headE H
          refine HL_cons rfl ?_
          refine o_cutA (xs := x89) (kl := .i64) (kh := .i64) (L := 0) (H := IntKind.i64.wrap ((x89.length : Int) - 1)) rfl rfl rfl Try.underlying22 tI3 (hH.rd 0 rfl).1 hx129 ?_
          have D129 := @Der.cut _ _ OI 3 A89 c89 _ _ _ _ hx129
          try dsimp only [putL, setL, evL, getL]
          refine HL_cons rfl ?_
          refine o_assign ?_
          try dsimp only [putL, setL, evL, getL]
          refine HL_nil ?_
          exact hK110 _ _ ⟨kf, Nat.lt_succ_self kf, x129, (cutA A89 c89 (Int.toNat 0) (Kd.sz KI)), c89 - Int.toNat 0, H, rfl, (hH.cut 0 rfl rfl hx129)⟩
        · replace H := iteF hb128 H
          refine HT_false (congrArg Value.bool hb128) ?_
          refine HT_exit ?_
          exact hK8 _ _ ⟨x89, A89, c89, H, rfl, hH⟩
  · rintro l' s130 ⟨x69, A69, c69, H, hl, hH⟩
    generalize getL l' 10 = j10, getL l' 11 = j11, getL l' 12 = j12, getL l' 13 = j13, getL l' 14 = j14, getL l' 15 = j15, getL l' 16 = j16, getL l' 17 = j17, getL l' 18 = j18, getL l' 19 = j19, getL l' 20 = j20, getL l' 21 = j21, getL l' 22 = j22, getL l' 23 = j23, getL l' 24 = j24, getL l' 25 = j25, getL l' 26 = j26 at hl
    subst hl
    replace H := hG8 _ H
    try dsimp only at H
    refine HT_seq_k ?_
    intro K131 hK131
    refine HT_region ?_
    refine HL_cons rfl ?_
    refine o_move ?_
    try dsimp only [putL, setL, evL, getL]
    obtain ⟨u132, hu132, H⟩ := headE H
    refine HL_cons rfl ?_
    refine o_call (args := #[.slice A69 x69.length c69]) Try.func94 rfl rfl rfl (slices_Clone_int_int.ok s130 s130 no A69 c69 x69 (hH.rd 0 rfl) (Hp.own (Bs.refl s130)) _ hu132) ?_
    rintro _ s132 ⟨A133, c133, rfl, hD⟩
    replace hH := hH.back0T hD
    clear hD
    dsimp only [addC, setC, rmC, selC, getC] at hH
    try dsimp only [putL, setL, evL, getL]
    refine HL_cons rfl ?_
    refine o_assign ?_
    try dsimp only [putL, setL, evL, getL]
    refine HL_nil ?_
    refine hK131 _ _ ?_
    refine HT_ret ?_
    obtain rfl := Option.some.inj (show some _ = some r from H)
    exact hQr _ _ [.slice A133 u132.length c133] ⟨rfl, trivial⟩ ⟨A133, c133, rfl, hH.sel [1] (by decide)⟩
def impl_areRunes_1.f (p0 : Int) : Option Bool := (impl_GoodRune.f p0).bind fun u3 => some (!u3)
def impl_areRunes_1.post (sb s : St) (F0 : Fp) (r : Bool) : Value → St → Prop := fun v s' => v = .bool r ∧ Hp sb s F0 s' []
set_option maxRecDepth 100000 in
set_option maxHeartbeats 4000000 in
theorem impl_areRunes_1.ok (sb s : St) (F0 : Fp) (p0 : Int) (hH : Hp sb s F0 s []) (r : Bool) (H : impl_areRunes_1.f p0 = some r) : GCall Try.prog 153 #[.int .i64 p0] s (impl_areRunes_1.post sb s F0 r) := by
  refine GCall_ofk [.tmp 2] [.int .i64 p0, undef, undef, undef, undef, undef] Try.func153 rfl rfl rfl ?_
  intro w Q hQr hQn hQp
  replace H := topE H
  unfold impl_areRunes_1.f at H
  refine HT_seq_k ?_
  intro K1 hK1
  refine HT_region ?_
  refine HL_cons rfl ?_
  refine o_assign ?_
  try dsimp only [putL, setL, evL, getL]
  refine HL_nil ?_
  refine hK1 _ _ ?_
  refine HT_seq_k ?_
  intro K2 hK2
  refine HT_region ?_
  refine HL_cons rfl ?_
  refine o_move ?_
  try dsimp only [putL, setL, evL, getL]
  obtain ⟨u3, hu3, H⟩ := headE H
  refine HL_cons rfl ?_
  refine o_call (args := #[.int .i64 p0]) Try.func147 rfl rfl rfl (impl_GoodRune.ok sb s no p0 (Hp.own hH.bs) _ hu3) ?_
  rintro _ s3 ⟨rfl, hD⟩
  replace hH := hH.back0 hD (Up.refl _ _ _)
  clear hD
  dsimp only [addC, setC, rmC, selC, getC] at hH
  try dsimp only [putL, setL, evL, getL]
  refine HL_cons rfl ?_
  refine o_not rfl ?_
  try dsimp only [putL, setL, evL, getL]
  refine HL_cons rfl ?_
  refine o_assign ?_
  try dsimp only [putL, setL, evL, getL]
  refine HL_nil ?_
  refine hK2 _ _ ?_
  refine HT_ret ?_
  obtain rfl := Option.some.inj (show some _ = some r from H)
  exact hQr _ _ [.bool (!u3)] ⟨rfl, trivial⟩ ⟨rfl, hH⟩
def slices_IndexFunc_int_int_impl_areRunes_1.l1 (p0 : List (Int)) : Nat → Int → Option (Lo Unit Int)
  | 0, _ => none
  | kf + 1, x48 => if (decide (x48 < (p0.length : Int))) = true then ((rd? p0 x48).bind fun u67 => (impl_areRunes_1.f u67).bind fun u68 => if u68 = true then ((some x48).bind fun z => some (Lo.ret z)) else (slices_IndexFunc_int_int_impl_areRunes_1.l1 p0 kf (IntKind.i64.wrap (x48 + 1)))) else (some (Lo.go ()))
def slices_IndexFunc_int_int_impl_areRunes_1.f (p0 : List (Int)) : Option Int := (slices_IndexFunc_int_int_impl_areRunes_1.l1 p0 ((((p0.length : Int)) - (0)).toNat + 2) 0).bind fun (o : Lo Unit Int) => match o with | .go () => (some (-1)) | .ret z => some z
def slices_IndexFunc_int_int_impl_areRunes_1.post (sb s : St) (F0 : Fp) (r : Int) : Value → St → Prop := fun v s' => v = .int .i64 r ∧ Hp sb s F0 s' []
set_option maxRecDepth 100000 in
set_option maxHeartbeats 4000000 in
theorem slices_IndexFunc_int_int_impl_areRunes_1.ok (sb s : St) (F0 : Fp) (A0p : Option Addr) (c0p : Nat) (p0 : List (Int)) (HRp0 : Rd KI sb A0p c0p p0) (hH : Hp sb s F0 s []) (r : Int) (H : slices_IndexFunc_int_int_impl_areRunes_1.f p0 = some r) : GCall Try.prog 151 #[.slice A0p p0.length c0p, .func (.func 153) #[] #[]] s (slices_IndexFunc_int_int_impl_areRunes_1.post sb s F0 r) := by
  refine GCall_ofk [.tmp 4] [.slice A0p p0.length c0p, .func (.func 153) #[] #[], undef, undef, undef, undef, undef, undef, undef, undef, undef, undef, undef, undef, undef, undef, undef, undef, undef] Try.func151 rfl rfl rfl ?_
  intro w Q hQr hQn hQp
  replace H := topE H
  unfold slices_IndexFunc_int_int_impl_areRunes_1.f at H
  refine HT_seq_k ?_
  intro K1 hK1
  refine HT_region ?_
  refine HL_cons rfl ?_
  refine o_assign ?_
  try dsimp only [putL, setL, evL, getL]
  refine HL_nil ?_
  refine hK1 _ _ ?_
  refine HT_seq_k ?_
  intro K2 hK2
  refine HT_seq_k ?_
  intro K3 hK3
  refine HT_region ?_
  refine HL_cons rfl ?_
  refine o_move ?_
  try dsimp only [putL, setL, evL, getL]
  refine HL_cons rfl ?_
  refine o_len rfl Try.underlying22 ?_
  try dsimp only [putL, setL, evL, getL]
  refine HL_cons rfl ?_
  refine o_move ?_
  try dsimp only [putL, setL, evL, getL]
  refine HL_nil ?_
  refine hK3 _ _ ?_
  refine joinH H fun G4 hG4 H => ?_
  refine HT_toK (fun l' s' => G4 (.go ()) = some r ∧ l' = [.slice A0p p0.length c0p, .func (.func 153) #[] #[], undef, undef, getL l' 4, getL l' 5, .slice A0p p0.length c0p, .int .i64 (p0.length : Int), getL l' 8, getL l' 9, getL l' 10, getL l' 11, getL l' 12, getL l' 13, getL l' 14, getL l' 15, getL l' 16, getL l' 17, getL l' 18] ∧ Hp sb s F0 s' []) ?_ ?_
  · intro K4 hK4
    refine HT_block ?_
    refine HT_loopK (fun kf l' s' => ∃ (x48 : Int), (slices_IndexFunc_int_int_impl_areRunes_1.l1 p0 kf x48).bind G4 = some r ∧ l' = [.slice A0p p0.length c0p, .func (.func 153) #[] #[], undef, undef, getL l' 4, getL l' 5, .slice A0p p0.length c0p, .int .i64 (p0.length : Int), .int .i64 x48, getL l' 9, getL l' 10, getL l' 11, getL l' 12, getL l' 13, getL l' 14, getL l' 15, getL l' 16, getL l' 17, getL l' 18] ∧ Hp sb s F0 s' []) ((((p0.length : Int)) - (0)).toNat + 2) ⟨0, H, rfl, hH⟩ ?_
    rintro kf l' s60 ⟨x48, H, hl, hH⟩ K60 hK60
    generalize getL l' 4 = j4, getL l' 5 = j5, getL l' 9 = j9, getL l' 10 = j10, getL l' 11 = j11, getL l' 12 = j12, getL l' 13 = j13, getL l' 14 = j14, getL l' 15 = j15, getL l' 16 = j16, getL l' 17 = j17, getL l' 18 = j18 at hl
    subst hl
    cases kf with
    | zero => simp [slices_IndexFunc_int_int_impl_areRunes_1.l1] at H
    | succ kf =>
      rw [slices_IndexFunc_int_int_impl_areRunes_1.l1] at H
      refine HT_seq_k ?_
      intro K61 hK61
      refine HT_region ?_
      refine HL_cons rfl ?_
      refine o_bin rfl rfl rfl ?_
      try dsimp only [putL, setL, evL, getL]
      refine HL_nil ?_
      refine hK61 _ _ ?_
      refine HT_seq_k ?_
      intro K62 hK62
      rcases Bool.eq_false_or_eq_true (decide (x48 < (p0.length : Int))) with hb63 | hb63
      · replace H := iteT hb63 H
        refine HT_true (congrArg Value.bool hb63) ?_
        refine HT_skip ?_
        refine hK62 _ _ ?_
        refine HT_seq_k ?_
        intro K64 hK64
        refine HT_block ?_
        refine HT_seq_k ?_
        intro K65 hK65
        refine HT_region ?_
        refine HL_cons rfl ?_
        refine o_move ?_
        try dsimp only [putL, setL, evL, getL]
        refine HL_cons rfl ?_
        refine o_assign ?_
        try dsimp only [putL, setL, evL, getL]
        refine HL_nil ?_
        refine hK65 _ _ ?_
        refine HT_seq_k ?_
        intro K66 hK66
        refine HT_region ?_
        refine HL_cons rfl ?_
        refine o_move ?_
        try dsimp only [putL, setL, evL, getL]
        refine HL_cons rfl ?_
        refine o_move ?_
        try dsimp only [putL, setL, evL, getL]
        refine HL_cons rfl ?_
        refine o_move ?_
        try dsimp only [putL, setL, evL, getL]
        obtain ⟨u67, hu67, H⟩ := headE H
        obtain ⟨b67, o67, cs67, hr67, hh67, hel67⟩ := Rd.elb HRp0 hu67
        obtain rfl := hr67
        refine HL_cons rfl ?_
        refine hel67 s60 rfl rfl Try.underlying22 tI3 ?_
        try dsimp only [putL, setL, evL, getL]
        refine HL_cons rfl ?_
        refine o_load' rfl Try.underlying3 rfl ((hh67 hH.bs.mono) 0 _ rfl) ?_
        try dsimp only [putL, setL, evL, getL]
        obtain ⟨u68, hu68, H⟩ := headE H
        refine HL_cons rfl ?_
        refine o_callv (first := #[]) (cap := #[]) (args := #[.int .i64 u67]) rfl Try.func153 rfl rfl [.int .i64 u67] rfl (by simp) (impl_areRunes_1.ok sb s60 no u67 (Hp.own hH.bs) _ hu68) ?_
        rintro _ s68 ⟨rfl, hD⟩
        replace hH := hH.back0 hD (Up.refl _ _ _)
        clear hD
        dsimp only [addC, setC, rmC, selC, getC] at hH
        try dsimp only [putL, setL, evL, getL]
        refine HL_nil ?_
        refine hK66 _ _ ?_
        rcases Bool.eq_false_or_eq_true u68 with hb69 | hb69
        · replace H := iteT hb69 H
          refine HT_true (congrArg Value.bool hb69) ?_
          refine HT_seq_k ?_
          intro K70 hK70
          refine HT_region ?_
          refine HL_cons rfl ?_
          refine o_move ?_
          try dsimp only [putL, setL, evL, getL]
          refine HL_cons rfl ?_
          refine o_assign ?_
          try dsimp only [putL, setL, evL, getL]
          refine HL_nil ?_
          refine hK70 _ _ ?_
          refine HT_ret ?_
          replace H := escH (fun z hz => hG4 _ hz) H
          obtain rfl := Option.some.inj (show some _ = some r from H)
          exact hQr _ _ [.int .i64 x48] ⟨rfl, trivial⟩ ⟨rfl, hH⟩
        · replace H := iteF hb69 H
          refine HT_false (congrArg Value.bool hb69) ?_
          refine HT_skip ?_
          refine hK64 _ _ ?_
          refine HT_region ?_
          refine HL_cons rfl ?_
          refine o_bin rfl rfl rfl ?_
          try dsimp only [putL, setL, evL, getL]
          refine HL_cons rfl ?_
          refine o_move ?_
          try dsimp only [putL, setL, evL, getL]
          refine HL_nil ?_
          exact hK60 _ _ ⟨kf, Nat.lt_succ_self kf, IntKind.i64.wrap (x48 + 1), H, rfl, hH⟩
      · replace H := iteF hb63 H
        refine HT_false (congrArg Value.bool hb63) ?_
        refine HT_exit ?_
        exact hK4 _ _ ⟨H, rfl, hH⟩
  · rintro l' s71 ⟨H, hl, hH⟩
    generalize getL l' 4 = j4, getL l' 5 = j5, getL l' 8 = j8, getL l' 9 = j9, getL l' 10 = j10, getL l' 11 = j11, getL l' 12 = j12, getL l' 13 = j13, getL l' 14 = j14, getL l' 15 = j15, getL l' 16 = j16, getL l' 17 = j17, getL l' 18 = j18 at hl
    subst hl
    replace H := hG4 _ H
    try dsimp only at H
    refine hK2 _ _ ?_
    refine HT_seq_k ?_
    intro K72 hK72
    refine HT_region ?_
    refine HL_cons rfl ?_
    refine o_assign ?_
    try dsimp only [putL, setL, evL, getL]
    refine HL_nil ?_
    refine hK72 _ _ ?_
    refine HT_ret ?_
    obtain rfl := Option.some.inj (show some _ = some r from H)
    exact hQr _ _ [.int .i64 (-1)] ⟨rfl, trivial⟩ ⟨rfl, hH⟩
def slices_ContainsFunc_int_int_impl_areRunes_1.f (p0 : List (Int)) : Option Bool := (slices_IndexFunc_int_int_impl_areRunes_1.f p0).bind fun u3 => some (decide (u3 ≥ 0))
def slices_ContainsFunc_int_int_impl_areRunes_1.post (sb s : St) (F0 : Fp) (r : Bool) : Value → St → Prop := fun v s' => v = .bool r ∧ Hp sb s F0 s' []
set_option maxRecDepth 100000 in
set_option maxHeartbeats 4000000 in
theorem slices_ContainsFunc_int_int_impl_areRunes_1.ok (sb s : St) (F0 : Fp) (A0p : Option Addr) (c0p : Nat) (p0 : List (Int)) (HRp0 : Rd KI sb A0p c0p p0) (hH : Hp sb s F0 s []) (r : Bool) (H : slices_ContainsFunc_int_int_impl_areRunes_1.f p0 = some r) : GCall Try.prog 110 #[.slice A0p p0.length c0p, .func (.func 153) #[] #[]] s (slices_ContainsFunc_int_int_impl_areRunes_1.post sb s F0 r) := by
  refine GCall_ofk [.tmp 4] [.slice A0p p0.length c0p, .func (.func 153) #[] #[], undef, undef, undef, undef, undef, undef, undef] Try.func110 rfl rfl rfl ?_
  intro w Q hQr hQn hQp
  replace H := topE H
  unfold slices_ContainsFunc_int_int_impl_areRunes_1.f at H
  refine HT_seq_k ?_
  intro K1 hK1
  refine HT_region ?_
  refine HL_cons rfl ?_
  refine o_assign ?_
  try dsimp only [putL, setL, evL, getL]
  refine HL_nil ?_
  refine hK1 _ _ ?_
  refine HT_seq_k ?_
  intro K2 hK2
  refine HT_region ?_
  refine HL_cons rfl ?_
  refine o_move ?_
  try dsimp only [putL, setL, evL, getL]
  refine HL_cons rfl ?_
  refine o_move ?_
  try dsimp only [putL, setL, evL, getL]
  obtain ⟨u3, hu3, H⟩ := headE H
  refine HL_cons rfl ?_
  refine o_call (args := #[.slice A0p p0.length c0p, .func (.func 153) #[] #[]]) Try.func151 rfl rfl rfl (slices_IndexFunc_int_int_impl_areRunes_1.ok sb s no A0p c0p p0 HRp0 (Hp.own hH.bs) _ hu3) ?_
  rintro _ s3 ⟨rfl, hD⟩
  replace hH := hH.back0 hD (Up.refl _ _ _)
  clear hD
  dsimp only [addC, setC, rmC, selC, getC] at hH
  try dsimp only [putL, setL, evL, getL]
  refine HL_cons rfl ?_
  refine o_bin rfl rfl rfl ?_
  try dsimp only [putL, setL, evL, getL]
  refine HL_cons rfl ?_
  refine o_assign ?_
  try dsimp only [putL, setL, evL, getL]
  refine HL_nil ?_
  refine hK2 _ _ ?_
  refine HT_ret ?_
  obtain rfl := Option.some.inj (show some _ = some r from H)
  exact hQr _ _ [.bool (decide (u3 ≥ 0))] ⟨rfl, trivial⟩ ⟨rfl, hH⟩
def impl_areRunes.f (p0 : List (Int)) (p1 : Int) : Option Bool := if (decide ((p0.length : Int) ≤ p1)) = true then ((slices_ContainsFunc_int_int_impl_areRunes_1.f p0).bind fun u4 => some (!u4)) else (some false)
def impl_areRunes.post (sb s : St) (F0 : Fp) (r : Bool) : Value → St → Prop := fun v s' => v = .bool r ∧ Hp sb s F0 s' []
set_option maxRecDepth 100000 in
set_option maxHeartbeats 4000000 in
theorem impl_areRunes.ok (sb s : St) (F0 : Fp) (A0p : Option Addr) (c0p : Nat) (p0 : List (Int)) (p1 : Int) (HRp0 : Rd KI sb A0p c0p p0) (hH : Hp sb s F0 s []) (r : Bool) (H : impl_areRunes.f p0 p1 = some r) : GCall Try.prog 113 #[.slice A0p p0.length c0p, .int .i64 p1] s (impl_areRunes.post sb s F0 r) := by
  refine GCall_ofk [.tmp 4] [.slice A0p p0.length c0p, .int .i64 p1, undef, undef, undef, undef, undef, undef, undef, undef, undef, undef, undef, undef] Try.func113 rfl rfl rfl ?_
  intro w Q hQr hQn hQp
  replace H := topE H
  unfold impl_areRunes.f at H
  refine HT_seq_k ?_
  intro K1 hK1
  refine HT_region ?_
  refine HL_cons rfl ?_
  refine o_assign ?_
  try dsimp only [putL, setL, evL, getL]
  refine HL_nil ?_
  refine hK1 _ _ ?_
  refine HT_seq_k ?_
  intro K2 hK2
  refine HT_region ?_
  refine HL_cons rfl ?_
  refine o_move ?_
  try dsimp only [putL, setL, evL, getL]
  refine HL_cons rfl ?_
  refine o_len rfl Try.underlying22 ?_
  try dsimp only [putL, setL, evL, getL]
  refine HL_cons rfl ?_
  refine o_move ?_
  try dsimp only [putL, setL, evL, getL]
  refine HL_cons rfl ?_
  refine o_bin rfl rfl rfl ?_
  try dsimp only [putL, setL, evL, getL]
  refine HL_cons rfl ?_
  refine o_move ?_
  try dsimp only [putL, setL, evL, getL]
  rcases Bool.eq_false_or_eq_true (decide ((p0.length : Int) ≤ p1)) with hb3 | hb3
  · replace H := iteT hb3 H
    refine HL_want ?_ ?_
    · exact wantT (j := 4) (b := true) (t := 9) (c := decide ((p0.length : Int) ≤ p1)) rfl rfl rfl rfl hb3
    refine o_move ?_
    try dsimp only [putL, setL, evL, getL]
    obtain ⟨u4, hu4, H⟩ := headE H
    refine HL_want ?_ ?_
    · exact wantT (j := 4) (b := true) (t := 9) (c := decide ((p0.length : Int) ≤ p1)) rfl rfl rfl rfl hb3
    refine o_call (args := #[.slice A0p p0.length c0p, .func (.func 153) #[] #[]]) Try.func110 rfl rfl rfl (slices_ContainsFunc_int_int_impl_areRunes_1.ok sb s no A0p c0p p0 HRp0 (Hp.own hH.bs) _ hu4) ?_
    rintro _ s4 ⟨rfl, hD⟩
    replace hH := hH.back0 hD (Up.refl _ _ _)
    clear hD
    dsimp only [addC, setC, rmC, selC, getC] at hH
    try dsimp only [putL, setL, evL, getL]
    refine HL_want ?_ ?_
    · exact wantT (j := 4) (b := true) (t := 9) (c := decide ((p0.length : Int) ≤ p1)) rfl rfl rfl rfl hb3
    refine o_not rfl ?_
    try dsimp only [putL, setL, evL, getL]
    refine HL_cons rfl ?_
    refine o_pickT rfl hb3 ?_
    try dsimp only [putL, setL, evL, getL]
    refine HL_cons rfl ?_
    refine o_assign ?_
    try dsimp only [putL, setL, evL, getL]
    refine HL_nil ?_
    refine hK2 _ _ ?_
    refine HT_ret ?_
    obtain rfl := Option.some.inj (show some _ = some r from H)
    exact hQr _ _ [.bool (!u4)] ⟨rfl, trivial⟩ ⟨rfl, hH⟩
  · replace H := iteF hb3 H
    refine HL_skip ?_ ?_
    · exact wantF (j := 4) (b := true) (t := 9) (c := decide ((p0.length : Int) ≤ p1)) rfl rfl rfl rfl hb3
    try dsimp only [putL, setL, evL, getL]
    refine HL_skip ?_ ?_
    · exact wantF (j := 4) (b := true) (t := 9) (c := decide ((p0.length : Int) ≤ p1)) rfl rfl rfl rfl hb3
    try dsimp only [putL, setL, evL, getL]
    refine HL_skip ?_ ?_
    · exact wantF (j := 4) (b := true) (t := 9) (c := decide ((p0.length : Int) ≤ p1)) rfl rfl rfl rfl hb3
    try dsimp only [putL, setL, evL, getL]
    refine HL_cons rfl ?_
    refine o_pickF rfl hb3 ?_
    try dsimp only [putL, setL, evL, getL]
    refine HL_cons rfl ?_
    refine o_assign ?_
    try dsimp only [putL, setL, evL, getL]
    refine HL_nil ?_
    refine hK2 _ _ ?_
    refine HT_ret ?_
    obtain rfl := Option.some.inj (show some _ = some r from H)
    exact hQr _ _ [.bool false] ⟨rfl, trivial⟩ ⟨rfl, hH⟩
def utf8_appendRuneNonASCII.f (p0 : List (Int)) (p1 : Int) : Option (List (Int)) := if (decide ((IntKind.u32.wrap p1) ≤ 2047)) = true then ((shrK? .i32 p1 6).bind fun u6 => (app? 140737488355328 p0 [bits .or .u8 192 (IntKind.u8.wrap u6), bits .or .u8 128 (bits .and .u8 (IntKind.u8.wrap p1) 63)]).bind fun x8 => some x8) else ((if (decide ((IntKind.u32.wrap p1) < 55296)) = true then (some (decide ((IntKind.u32.wrap p1) < 55296))) else (if (decide ((57343 : Int) < (IntKind.u32.wrap p1))) = true then (some (decide ((IntKind.u32.wrap p1) ≤ 65535))) else (some false))).bind fun (o : Bool) => match o with | x13 => (if x13 = true then ((shrK? .i32 p1 12).bind fun u20 => (shrK? .i32 p1 6).bind fun u21 => (app? 140737488355328 p0 [bits .or .u8 224 (IntKind.u8.wrap u20), bits .or .u8 128 (bits .and .u8 (IntKind.u8.wrap u21) 63), bits .or .u8 128 (bits .and .u8 (IntKind.u8.wrap p1) 63)]).bind fun x23 => some x23) else ((if (decide ((IntKind.u32.wrap p1) > 65535)) = true then (some (decide ((IntKind.u32.wrap p1) ≤ 1114111))) else (some false)).bind fun (o : Bool) => match o with | x26 => (if x26 = true then ((shrK? .i32 p1 18).bind fun u31 => (shrK? .i32 p1 12).bind fun u32 => (shrK? .i32 p1 6).bind fun u33 => (app? 140737488355328 p0 [bits .or .u8 240 (IntKind.u8.wrap u31), bits .or .u8 128 (bits .and .u8 (IntKind.u8.wrap u32) 63), bits .or .u8 128 (bits .and .u8 (IntKind.u8.wrap u33) 63), bits .or .u8 128 (bits .and .u8 (IntKind.u8.wrap p1) 63)]).bind fun x35 => some x35) else ((app? 140737488355328 p0 [239, 191, 189]).bind fun x38 => some x38)))))
def utf8_appendRuneNonASCII.post (sb s : St) (F0 : Fp) (r : (List (Int))) : Value → St → Prop := fun v s' => ∃ (A0 : Option Addr) (c0 : Nat), v = .slice A0 r.length c0 ∧ Hp sb s F0 s' [Ck.ol (Ow.flat (Kd.int_flat .u8)) 5 A0 c0 r]
set_option maxRecDepth 100000 in
set_option maxHeartbeats 4000000 in
theorem utf8_appendRuneNonASCII.ok (sb s : St) (F0 : Fp) (A0p : Option Addr) (c0p : Nat) (p0 : List (Int)) (p1 : Int) (hH : Hp sb s F0 s [Ck.ol (Ow.flat (Kd.int_flat .u8)) 5 A0p c0p p0]) (r : (List (Int))) (H : utf8_appendRuneNonASCII.f p0 p1 = some r) : GCall Try.prog 168 #[.slice A0p p0.length c0p, .int .i32 p1] s (utf8_appendRuneNonASCII.post sb s F0 r) := by
  refine GCall_ofk [.tmp 4] [.slice A0p p0.length c0p, .int .i32 p1, undef, undef, undef, undef, undef, undef, undef, undef, undef, undef, undef, undef, undef, undef, undef, undef, undef, undef, undef, undef, undef, undef, undef, undef, undef, undef, undef, undef, undef, undef, undef, undef, undef, undef, undef, undef, undef, undef, undef, undef, undef, undef, undef, undef, undef, undef, undef, undef, undef, undef, undef, undef, undef, undef, undef, undef, undef, undef, undef, undef, undef, undef, undef, undef, undef, undef, undef, undef, undef, undef, undef, undef, undef, undef, undef, undef] Try.func168 rfl rfl rfl ?_
  intro w Q hQr hQn hQp
  replace H := topE H
  unfold utf8_appendRuneNonASCII.f at H
  refine HT_seq_k ?_
  intro K1 hK1
  refine HT_region ?_
  refine HL_cons rfl ?_
  refine o_assign ?_
  try dsimp only [putL, setL, evL, getL]
  refine HL_nil ?_
  refine hK1 _ _ ?_
  refine HT_seq_k ?_
  intro K2 hK2
  refine HT_region ?_
  refine HL_cons rfl ?_
  refine o_move ?_
  try dsimp only [putL, setL, evL, getL]
  refine HL_cons rfl ?_
  refine o_conv rfl Try.underlying21 Try.underlying170 ?_
  try dsimp only [putL, setL, evL, getL]
  refine HL_cons rfl ?_
  refine o_assign ?_
  try dsimp only [putL, setL, evL, getL]
  refine HL_nil ?_
  refine hK2 _ _ ?_
  refine HT_block ?_
  refine HT_seq_k ?_
  intro K3 hK3
  refine HT_region ?_
  refine HL_cons rfl ?_
  refine o_move ?_
  try dsimp only [putL, setL, evL, getL]
  refine HL_cons rfl ?_
  refine o_bin rfl rfl rfl ?_
  try dsimp only [putL, setL, evL, getL]
  refine HL_cons rfl ?_
  refine o_assign ?_
  try dsimp only [putL, setL, evL, getL]
  refine HL_nil ?_
  refine hK3 _ _ ?_
  rcases Bool.eq_false_or_eq_true (decide ((IntKind.u32.wrap p1) ≤ 2047)) with hb4 | hb4
  · replace H := iteT hb4 H
    refine HT_true (congrArg Value.bool hb4) ?_
    refine HT_seq_k ?_
    intro K5 hK5
    refine HT_region ?_
    refine HL_cons rfl ?_
    refine o_move ?_
    try dsimp only [putL, setL, evL, getL]
    refine HL_cons rfl ?_
    refine o_move ?_
    try dsimp only [putL, setL, evL, getL]
    obtain ⟨u6, hu6, H⟩ := headE H
    refine HL_cons rfl ?_
    refine o_shrK rfl rfl hu6 ?_
    try dsimp only [putL, setL, evL, getL]
    refine HL_cons rfl ?_
    refine o_conv rfl Try.underlying21 Try.underlying5 ?_
    try dsimp only [putL, setL, evL, getL]
    refine HL_cons rfl ?_
    refine o_bin rfl rfl rfl ?_
    try dsimp only [putL, setL, evL, getL]
    refine HL_cons rfl ?_
    refine o_move ?_
    try dsimp only [putL, setL, evL, getL]
    refine HL_cons rfl ?_
    refine o_conv rfl Try.underlying21 Try.underlying5 ?_
    try dsimp only [putL, setL, evL, getL]
    refine HL_cons rfl ?_
    refine o_bin rfl rfl rfl ?_
    try dsimp only [putL, setL, evL, getL]
    refine HL_cons rfl ?_
    refine o_bin rfl rfl rfl ?_
    try dsimp only [putL, setL, evL, getL]
    refine HL_cons rfl ?_
    refine o_litF (K := (Kd.int .u8)) (O := (Ow.flat (Kd.int_flat .u8))) (ca := #[.int .u8 (bits .or .u8 192 (IntKind.u8.wrap u6)), .int .u8 (bits .or .u8 128 (bits .and .u8 (IntKind.u8.wrap p1) 63))]) [[.int .u8 (bits .or .u8 192 (IntKind.u8.wrap u6))], [.int .u8 (bits .or .u8 128 (bits .and .u8 (IntKind.u8.wrap p1) 63))]] [bits .or .u8 192 (IntKind.u8.wrap u6), bits .or .u8 128 (bits .and .u8 (IntKind.u8.wrap p1) 63)] hH Try.underlying61 tI5 rfl (by decide) rfl rfl rfl rfl ⟨rfl, Ent.own (Ent.flat rfl), rfl, Ent.own (Ent.flat rfl), trivial⟩ ?_
    intro A7 s7 hH' hG
    replace hH : Hp sb s F0 s7 [Ck.ol (Ow.flat (Kd.int_flat .u8)) 5 A0p c0p p0, Ck.ol (Ow.flat (Kd.int_flat .u8)) 5 A7 2 [bits .or .u8 192 (IntKind.u8.wrap u6), bits .or .u8 128 (bits .and .u8 (IntKind.u8.wrap p1) 63)]] := hH'
    clear hH' hG
    try dsimp only [putL, setL, evL, getL]
    obtain ⟨x8, hx8, H⟩ := headE H
    refine HL_cons rfl ?_
    refine o_appF (K := (Kd.int .u8)) (n := 140737488355328) (A := A0p) (c := c0p) (xs := p0) (ys := [bits .or .u8 192 (IntKind.u8.wrap u6), bits .or .u8 128 (bits .and .u8 (IntKind.u8.wrap p1) 63)]) (B := A7) (c2 := 2) hH 0 rfl rfl rfl rfl Try.underlying61 tI5 rfl (by decide) (by decide) (by decide) (Src.flat (hH.rd 1 rfl)) hx8 ?_
    intro A8 c8 s8 hH'
    replace hH : Hp sb s F0 s8 [Ck.ol (Ow.flat (Kd.int_flat .u8)) 5 A8 c8 x8, Ck.ol (Ow.flat (Kd.int_flat .u8)) 5 A7 2 [bits .or .u8 192 (IntKind.u8.wrap u6), bits .or .u8 128 (bits .and .u8 (IntKind.u8.wrap p1) 63)]] := hH'
    clear hH'
    try dsimp only [putL, setL, evL, getL]
    refine HL_cons rfl ?_
    refine o_assign ?_
    try dsimp only [putL, setL, evL, getL]
    refine HL_nil ?_
    refine hK5 _ _ ?_
    refine HT_ret ?_
    obtain rfl := Option.some.inj (show some _ = some r from H)
    exact hQr _ _ [.slice A8 x8.length c8] ⟨rfl, trivial⟩ ⟨A8, c8, rfl, hH.sel [0] (by decide)⟩
  · replace H := iteF hb4 H
    refine HT_false (congrArg Value.bool hb4) ?_
    refine joinH H fun G9 hG9 H => ?_
    refine HT_joinK (fun l' s' => ∃ (x13 : Bool), G9 x13 = some r ∧ l' = [.slice A0p p0.length c0p, .int .i32 p1, undef, undef, .slice none 0 0, .int .u32 (IntKind.u32.wrap p1), .int .i32 p1, .int .u32 (IntKind.u32.wrap p1), undef, undef, undef, .bool (decide ((IntKind.u32.wrap p1) ≤ 2047)), .int .u32 (IntKind.u32.wrap p1), .bool (decide ((IntKind.u32.wrap p1) ≤ 2047)), undef, undef, undef, undef, undef, undef, undef, undef, undef, undef, undef, .bool x13, getL l' 26, getL l' 27, getL l' 28, getL l' 29, getL l' 30, getL l' 31, getL l' 32, getL l' 33, undef, undef, undef, undef, undef, undef, undef, undef, undef, undef, undef, undef, undef, undef, undef, undef, undef, undef, undef, undef, undef, undef, undef, undef, undef, undef, undef, undef, undef, undef, undef, undef, undef, undef, undef, undef, undef, undef, undef, undef, undef, undef, undef, undef] ∧ Hp sb s F0 s' [Ck.ol (Ow.flat (Kd.int_flat .u8)) 5 A0p c0p p0]) ?_ ?_
    · intro K9 hK9
      refine HT_seq_k ?_
      intro K14 hK14
      refine HT_region ?_
      refine HL_cons rfl ?_
      refine o_move ?_
      try dsimp only [putL, setL, evL, getL]
      refine HL_cons rfl ?_
      refine o_bin rfl rfl rfl ?_
      try dsimp only [putL, setL, evL, getL]
      refine HL_cons rfl ?_
      refine o_assign ?_
      try dsimp only [putL, setL, evL, getL]
      refine HL_nil ?_
      refine hK14 _ _ ?_
      rcases Bool.eq_false_or_eq_true (decide ((IntKind.u32.wrap p1) < 55296)) with hb15 | hb15
      · replace H := iteT hb15 H
        refine HT_true (congrArg Value.bool hb15) ?_
        refine HT_skip ?_
        exact hK9 _ _ ⟨decide ((IntKind.u32.wrap p1) < 55296), H, rfl, hH⟩
      · replace H := iteF hb15 H
        refine HT_false (congrArg Value.bool hb15) ?_
        refine HT_region ?_
        refine HL_cons rfl ?_
        refine o_move ?_
        try dsimp only [putL, setL, evL, getL]
        refine HL_cons rfl ?_
        refine o_bin rfl rfl rfl ?_
        try dsimp only [putL, setL, evL, getL]
        refine HL_cons rfl ?_
        refine o_move ?_
        try dsimp only [putL, setL, evL, getL]
        rcases Bool.eq_false_or_eq_true (decide ((57343 : Int) < (IntKind.u32.wrap p1))) with hb16 | hb16
        · replace H := iteT hb16 H
          refine HL_want ?_ ?_
          · exact wantT (j := 2) (b := true) (t := 30) (c := decide ((57343 : Int) < (IntKind.u32.wrap p1))) rfl rfl rfl rfl hb16
          refine o_move ?_
          try dsimp only [putL, setL, evL, getL]
          refine HL_want ?_ ?_
          · exact wantT (j := 2) (b := true) (t := 30) (c := decide ((57343 : Int) < (IntKind.u32.wrap p1))) rfl rfl rfl rfl hb16
          refine o_bin rfl rfl rfl ?_
          try dsimp only [putL, setL, evL, getL]
          refine HL_cons rfl ?_
          refine o_pickT rfl hb16 ?_
          try dsimp only [putL, setL, evL, getL]
          refine HL_cons rfl ?_
          refine o_assign ?_
          try dsimp only [putL, setL, evL, getL]
          refine HL_nil ?_
          exact hK9 _ _ ⟨decide ((IntKind.u32.wrap p1) ≤ 65535), H, rfl, hH⟩
        · replace H := iteF hb16 H
          refine HL_skip ?_ ?_
          · exact wantF (j := 2) (b := true) (t := 30) (c := decide ((57343 : Int) < (IntKind.u32.wrap p1))) rfl rfl rfl rfl hb16
          try dsimp only [putL, setL, evL, getL]
          refine HL_skip ?_ ?_
          · exact wantF (j := 2) (b := true) (t := 30) (c := decide ((57343 : Int) < (IntKind.u32.wrap p1))) rfl rfl rfl rfl hb16
          try dsimp only [putL, setL, evL, getL]
          refine HL_cons rfl ?_
          refine o_pickF rfl hb16 ?_
          try dsimp only [putL, setL, evL, getL]
          refine HL_cons rfl ?_
          refine o_assign ?_
          try dsimp only [putL, setL, evL, getL]
          refine HL_nil ?_
          exact hK9 _ _ ⟨false, H, rfl, hH⟩
    · rintro l' s17 ⟨x13, H, hl, hH⟩
      generalize getL l' 26 = j26, getL l' 27 = j27, getL l' 28 = j28, getL l' 29 = j29, getL l' 30 = j30, getL l' 31 = j31, getL l' 32 = j32, getL l' 33 = j33 at hl
      subst hl
      replace H := hG9 _ H
      try dsimp only at H
      rcases Bool.eq_false_or_eq_true x13 with hb18 | hb18
      · replace H := iteT hb18 H
        refine HT_true (congrArg Value.bool hb18) ?_
        refine HT_seq_k ?_
        intro K19 hK19
        refine HT_region ?_
        refine HL_cons rfl ?_
        refine o_move ?_
        try dsimp only [putL, setL, evL, getL]
        refine HL_cons rfl ?_
        refine o_move ?_
        try dsimp only [putL, setL, evL, getL]
        obtain ⟨u20, hu20, H⟩ := headE H
        refine HL_cons rfl ?_
        refine o_shrK rfl rfl hu20 ?_
        try dsimp only [putL, setL, evL, getL]
        refine HL_cons rfl ?_
        refine o_conv rfl Try.underlying21 Try.underlying5 ?_
        try dsimp only [putL, setL, evL, getL]
        refine HL_cons rfl ?_
        refine o_bin rfl rfl rfl ?_
        try dsimp only [putL, setL, evL, getL]
        refine HL_cons rfl ?_
        refine o_move ?_
        try dsimp only [putL, setL, evL, getL]
        obtain ⟨u21, hu21, H⟩ := headE H
        refine HL_cons rfl ?_
        refine o_shrK rfl rfl hu21 ?_
        try dsimp only [putL, setL, evL, getL]
        refine HL_cons rfl ?_
        refine o_conv rfl Try.underlying21 Try.underlying5 ?_
        try dsimp only [putL, setL, evL, getL]
        refine HL_cons rfl ?_
        refine o_bin rfl rfl rfl ?_
        try dsimp only [putL, setL, evL, getL]
        refine HL_cons rfl ?_
        refine o_bin rfl rfl rfl ?_
        try dsimp only [putL, setL, evL, getL]
        refine HL_cons rfl ?_
        refine o_move ?_
        try dsimp only [putL, setL, evL, getL]
        refine HL_cons rfl ?_
        refine o_conv rfl Try.underlying21 Try.underlying5 ?_
        try dsimp only [putL, setL, evL, getL]
        refine HL_cons rfl ?_
        refine o_bin rfl rfl rfl ?_
        try dsimp only [putL, setL, evL, getL]
        refine HL_cons rfl ?_
        refine o_bin rfl rfl rfl ?_
        try dsimp only [putL, setL, evL, getL]
        refine HL_cons rfl ?_
        refine o_litF (K := (Kd.int .u8)) (O := (Ow.flat (Kd.int_flat .u8))) (ca := #[.int .u8 (bits .or .u8 224 (IntKind.u8.wrap u20)), .int .u8 (bits .or .u8 128 (bits .and .u8 (IntKind.u8.wrap u21) 63)), .int .u8 (bits .or .u8 128 (bits .and .u8 (IntKind.u8.wrap p1) 63))]) [[.int .u8 (bits .or .u8 224 (IntKind.u8.wrap u20))], [.int .u8 (bits .or .u8 128 (bits .and .u8 (IntKind.u8.wrap u21) 63))], [.int .u8 (bits .or .u8 128 (bits .and .u8 (IntKind.u8.wrap p1) 63))]] [bits .or .u8 224 (IntKind.u8.wrap u20), bits .or .u8 128 (bits .and .u8 (IntKind.u8.wrap u21) 63), bits .or .u8 128 (bits .and .u8 (IntKind.u8.wrap p1) 63)] hH Try.underlying61 tI5 rfl (by decide) rfl rfl rfl rfl ⟨rfl, Ent.own (Ent.flat rfl), rfl, Ent.own (Ent.flat rfl), rfl, Ent.own (Ent.flat rfl), trivial⟩ ?_
        intro A22 s22 hH' hG
        replace hH : Hp sb s F0 s22 [Ck.ol (Ow.flat (Kd.int_flat .u8)) 5 A0p c0p p0, Ck.ol (Ow.flat (Kd.int_flat .u8)) 5 A22 3 [bits .or .u8 224 (IntKind.u8.wrap u20), bits .or .u8 128 (bits .and .u8 (IntKind.u8.wrap u21) 63), bits .or .u8 128 (bits .and .u8 (IntKind.u8.wrap p1) 63)]] := hH'
        clear hH' hG
        try dsimp only [putL, setL, evL, getL]
        obtain ⟨x23, hx23, H⟩ := headE H
        refine HL_cons rfl ?_
        refine o_appF (K := (Kd.int .u8)) (n := 140737488355328) (A := A0p) (c := c0p) (xs := p0) (ys := [bits .or .u8 224 (IntKind.u8.wrap u20), bits .or .u8 128 (bits .and .u8 (IntKind.u8.wrap u21) 63), bits .or .u8 128 (bits .and .u8 (IntKind.u8.wrap p1) 63)]) (B := A22) (c2 := 3) hH 0 rfl rfl rfl rfl Try.underlying61 tI5 rfl (by decide) (by decide) (by decide) (Src.flat (hH.rd 1 rfl)) hx23 ?_
        intro A23 c23 s23 hH'
        replace hH : Hp sb s F0 s23 [Ck.ol (Ow.flat (Kd.int_flat .u8)) 5 A23 c23 x23, Ck.ol (Ow.flat (Kd.int_flat .u8)) 5 A22 3 [bits .or .u8 224 (IntKind.u8.wrap u20), bits .or .u8 128 (bits .and .u8 (IntKind.u8.wrap u21) 63), bits .or .u8 128 (bits .and .u8 (IntKind.u8.wrap p1) 63)]] := hH'
        clear hH'
        try dsimp only [putL, setL, evL, getL]
        refine HL_cons rfl ?_
        refine o_assign ?_
        try dsimp only [putL, setL, evL, getL]
        refine HL_nil ?_
        refine hK19 _ _ ?_
        refine HT_ret ?_
        obtain rfl := Option.some.inj (show some _ = some r from H)
        exact hQr _ _ [.slice A23 x23.length c23] ⟨rfl, trivial⟩ ⟨A23, c23, rfl, hH.sel [0] (by decide)⟩
      · replace H := iteF hb18 H
        refine HT_false (congrArg Value.bool hb18) ?_
        refine joinH H fun G24 hG24 H => ?_
        refine HT_joinK (fun l' s' => ∃ (x26 : Bool), G24 x26 = some r ∧ l' = [.slice A0p p0.length c0p, .int .i32 p1, undef, undef, .slice none 0 0, .int .u32 (IntKind.u32.wrap p1), .int .i32 p1, .int .u32 (IntKind.u32.wrap p1), undef, undef, undef, .bool (decide ((IntKind.u32.wrap p1) ≤ 2047)), .int .u32 (IntKind.u32.wrap p1), .bool (decide ((IntKind.u32.wrap p1) ≤ 2047)), undef, undef, undef, undef, undef, undef, undef, undef, undef, undef, undef, .bool x13, j26, j27, j28, j29, j30, j31, j32, j33, undef, undef, undef, undef, undef, undef, undef, undef, undef, undef, undef, undef, undef, undef, undef, undef, .bool x26, getL l' 51, getL l' 52, getL l' 53, getL l' 54, getL l' 55, getL l' 56, undef, undef, undef, undef, undef, undef, undef, undef, undef, undef, undef, undef, undef, undef, undef, undef, undef, undef, undef, undef, undef] ∧ Hp sb s F0 s' [Ck.ol (Ow.flat (Kd.int_flat .u8)) 5 A0p c0p p0]) ?_ ?_
        · intro K24 hK24
          refine HT_region ?_
          refine HL_cons rfl ?_
          refine o_move ?_
          try dsimp only [putL, setL, evL, getL]
          refine HL_cons rfl ?_
          refine o_bin rfl rfl rfl ?_
          try dsimp only [putL, setL, evL, getL]
          refine HL_cons rfl ?_
          refine o_move ?_
          try dsimp only [putL, setL, evL, getL]
          rcases Bool.eq_false_or_eq_true (decide ((IntKind.u32.wrap p1) > 65535)) with hb27 | hb27
          · replace H := iteT hb27 H
            refine HL_want ?_ ?_
            · exact wantT (j := 2) (b := true) (t := 53) (c := decide ((IntKind.u32.wrap p1) > 65535)) rfl rfl rfl rfl hb27
            refine o_move ?_
            try dsimp only [putL, setL, evL, getL]
            refine HL_want ?_ ?_
            · exact wantT (j := 2) (b := true) (t := 53) (c := decide ((IntKind.u32.wrap p1) > 65535)) rfl rfl rfl rfl hb27
            refine o_bin rfl rfl rfl ?_
            try dsimp only [putL, setL, evL, getL]
            refine HL_cons rfl ?_
            refine o_pickT rfl hb27 ?_
            try dsimp only [putL, setL, evL, getL]
            refine HL_cons rfl ?_
            refine o_assign ?_
            try dsimp only [putL, setL, evL, getL]
            refine HL_nil ?_
            exact hK24 _ _ ⟨decide ((IntKind.u32.wrap p1) ≤ 1114111), H, rfl, hH⟩
          · replace H := iteF hb27 H
            refine HL_skip ?_ ?_
            · exact wantF (j := 2) (b := true) (t := 53) (c := decide ((IntKind.u32.wrap p1) > 65535)) rfl rfl rfl rfl hb27
            try dsimp only [putL, setL, evL, getL]
            refine HL_skip ?_ ?_
            · exact wantF (j := 2) (b := true) (t := 53) (c := decide ((IntKind.u32.wrap p1) > 65535)) rfl rfl rfl rfl hb27
            try dsimp only [putL, setL, evL, getL]
            refine HL_cons rfl ?_
            refine o_pickF rfl hb27 ?_
            try dsimp only [putL, setL, evL, getL]
            refine HL_cons rfl ?_
            refine o_assign ?_
            try dsimp only [putL, setL, evL, getL]
            refine HL_nil ?_
            exact hK24 _ _ ⟨false, H, rfl, hH⟩
        · rintro l' s28 ⟨x26, H, hl, hH⟩
          generalize getL l' 51 = j51, getL l' 52 = j52, getL l' 53 = j53, getL l' 54 = j54, getL l' 55 = j55, getL l' 56 = j56 at hl
          subst hl
          replace H := hG24 _ H
          try dsimp only at H
          rcases Bool.eq_false_or_eq_true x26 with hb29 | hb29
          · replace H := iteT hb29 H
            refine HT_true (congrArg Value.bool hb29) ?_
            refine HT_seq_k ?_
            intro K30 hK30
            refine HT_region ?_
            refine HL_cons rfl ?_
            refine o_move ?_
            try dsimp only [putL, setL, evL, getL]
            refine HL_cons rfl ?_
            refine o_move ?_
            try dsimp only [putL, setL, evL, getL]
            obtain ⟨u31, hu31, H⟩ := headE H
            refine HL_cons rfl ?_
            refine o_shrK rfl rfl hu31 ?_
            try dsimp only [putL, setL, evL, getL]
            refine HL_cons rfl ?_
            refine o_conv rfl Try.underlying21 Try.underlying5 ?_
            try dsimp only [putL, setL, evL, getL]
            refine HL_cons rfl ?_
            refine o_bin rfl rfl rfl ?_
            try dsimp only [putL, setL, evL, getL]
            refine HL_cons rfl ?_
            refine o_move ?_
            try dsimp only [putL, setL, evL, getL]
            obtain ⟨u32, hu32, H⟩ := headE H
            refine HL_cons rfl ?_
            refine o_shrK rfl rfl hu32 ?_
            try dsimp only [putL, setL, evL, getL]
            refine HL_cons rfl ?_
            refine o_conv rfl Try.underlying21 Try.underlying5 ?_
            try dsimp only [putL, setL, evL, getL]
            refine HL_cons rfl ?_
            refine o_bin rfl rfl rfl ?_
            try dsimp only [putL, setL, evL, getL]
            refine HL_cons rfl ?_
            refine o_bin rfl rfl rfl ?_
            try dsimp only [putL, setL, evL, getL]
            refine HL_cons rfl ?_
            refine o_move ?_
            try dsimp only [putL, setL, evL, getL]
            obtain ⟨u33, hu33, H⟩ := headE H
            refine HL_cons rfl ?_
            refine o_shrK rfl rfl hu33 ?_
            try dsimp only [putL, setL, evL, getL]
            refine HL_cons rfl ?_
            refine o_conv rfl Try.underlying21 Try.underlying5 ?_
            try dsimp only [putL, setL, evL, getL]
            refine HL_cons rfl ?_
            refine o_bin rfl rfl rfl ?_
            try dsimp only [putL, setL, evL, getL]
            refine HL_cons rfl ?_
            refine o_bin rfl rfl rfl ?_
            try dsimp only [putL, setL, evL, getL]
            refine HL_cons rfl ?_
            refine o_move ?_
            try dsimp only [putL, setL, evL, getL]
            refine HL_cons rfl ?_
            refine o_conv rfl Try.underlying21 Try.underlying5 ?_
            try dsimp only [putL, setL, evL, getL]
            refine HL_cons rfl ?_
            refine o_bin rfl rfl rfl ?_
            try dsimp only [putL, setL, evL, getL]
            refine HL_cons rfl ?_
            refine o_bin rfl rfl rfl ?_
            try dsimp only [putL, setL, evL, getL]
            refine HL_cons rfl ?_
            refine o_litF (K := (Kd.int .u8)) (O := (Ow.flat (Kd.int_flat .u8))) (ca := #[.int .u8 (bits .or .u8 240 (IntKind.u8.wrap u31)), .int .u8 (bits .or .u8 128 (bits .and .u8 (IntKind.u8.wrap u32) 63)), .int .u8 (bits .or .u8 128 (bits .and .u8 (IntKind.u8.wrap u33) 63)), .int .u8 (bits .or .u8 128 (bits .and .u8 (IntKind.u8.wrap p1) 63))]) [[.int .u8 (bits .or .u8 240 (IntKind.u8.wrap u31))], [.int .u8 (bits .or .u8 128 (bits .and .u8 (IntKind.u8.wrap u32) 63))], [.int .u8 (bits .or .u8 128 (bits .and .u8 (IntKind.u8.wrap u33) 63))], [.int .u8 (bits .or .u8 128 (bits .and .u8 (IntKind.u8.wrap p1) 63))]] [bits .or .u8 240 (IntKind.u8.wrap u31), bits .or .u8 128 (bits .and .u8 (IntKind.u8.wrap u32) 63), bits .or .u8 128 (bits .and .u8 (IntKind.u8.wrap u33) 63), bits .or .u8 128 (bits .and .u8 (IntKind.u8.wrap p1) 63)] hH Try.underlying61 tI5 rfl (by decide) rfl rfl rfl rfl ⟨rfl, Ent.own (Ent.flat rfl), rfl, Ent.own (Ent.flat rfl), rfl, Ent.own (Ent.flat rfl), rfl, Ent.own (Ent.flat rfl), trivial⟩ ?_
            intro A34 s34 hH' hG
            replace hH : Hp sb s F0 s34 [Ck.ol (Ow.flat (Kd.int_flat .u8)) 5 A0p c0p p0, Ck.ol (Ow.flat (Kd.int_flat .u8)) 5 A34 4 [bits .or .u8 240 (IntKind.u8.wrap u31), bits .or .u8 128 (bits .and .u8 (IntKind.u8.wrap u32) 63), bits .or .u8 128 (bits .and .u8 (IntKind.u8.wrap u33) 63), bits .or .u8 128 (bits .and .u8 (IntKind.u8.wrap p1) 63)]] := hH'
            clear hH' hG
            try dsimp only [putL, setL, evL, getL]
            obtain ⟨x35, hx35, H⟩ := headE H
            refine HL_cons rfl ?_
            refine o_appF (K := (Kd.int .u8)) (n := 140737488355328) (A := A0p) (c := c0p) (xs := p0) (ys := [bits .or .u8 240 (IntKind.u8.wrap u31), bits .or .u8 128 (bits .and .u8 (IntKind.u8.wrap u32) 63), bits .or .u8 128 (bits .and .u8 (IntKind.u8.wrap u33) 63), bits .or .u8 128 (bits .and .u8 (IntKind.u8.wrap p1) 63)]) (B := A34) (c2 := 4) hH 0 rfl rfl rfl rfl Try.underlying61 tI5 rfl (by decide) (by decide) (by decide) (Src.flat (hH.rd 1 rfl)) hx35 ?_
            intro A35 c35 s35 hH'
            replace hH : Hp sb s F0 s35 [Ck.ol (Ow.flat (Kd.int_flat .u8)) 5 A35 c35 x35, Ck.ol (Ow.flat (Kd.int_flat .u8)) 5 A34 4 [bits .or .u8 240 (IntKind.u8.wrap u31), bits .or .u8 128 (bits .and .u8 (IntKind.u8.wrap u32) 63), bits .or .u8 128 (bits .and .u8 (IntKind.u8.wrap u33) 63), bits .or .u8 128 (bits .and .u8 (IntKind.u8.wrap p1) 63)]] := hH'
            clear hH'
            try dsimp only [putL, setL, evL, getL]
            refine HL_cons rfl ?_
            refine o_assign ?_
            try dsimp only [putL, setL, evL, getL]
            refine HL_nil ?_
            refine hK30 _ _ ?_
            refine HT_ret ?_
            obtain rfl := Option.some.inj (show some _ = some r from H)
            exact hQr _ _ [.slice A35 x35.length c35] ⟨rfl, trivial⟩ ⟨A35, c35, rfl, hH.sel [0] (by decide)⟩
          · replace H := iteF hb29 H
            refine HT_false (congrArg Value.bool hb29) ?_
            refine HT_seq_k ?_
            intro K36 hK36
            refine HT_region ?_
            refine HL_cons rfl ?_
            refine o_move ?_
            try dsimp only [putL, setL, evL, getL]
            refine HL_cons rfl ?_
            refine o_litF (K := (Kd.int .u8)) (O := (Ow.flat (Kd.int_flat .u8))) (ca := #[.int .u8 239, .int .u8 191, .int .u8 189]) [[.int .u8 239], [.int .u8 191], [.int .u8 189]] [239, 191, 189] hH Try.underlying61 tI5 rfl (by decide) rfl rfl rfl rfl ⟨rfl, Ent.own (Ent.flat rfl), rfl, Ent.own (Ent.flat rfl), rfl, Ent.own (Ent.flat rfl), trivial⟩ ?_
            intro A37 s37 hH' hG
            replace hH : Hp sb s F0 s37 [Ck.ol (Ow.flat (Kd.int_flat .u8)) 5 A0p c0p p0, Ck.ol (Ow.flat (Kd.int_flat .u8)) 5 A37 3 [239, 191, 189]] := hH'
            clear hH' hG
            try dsimp only [putL, setL, evL, getL]
            obtain ⟨x38, hx38, H⟩ := headE H
            refine HL_cons rfl ?_
            refine o_appF (K := (Kd.int .u8)) (n := 140737488355328) (A := A0p) (c := c0p) (xs := p0) (ys := [239, 191, 189]) (B := A37) (c2 := 3) hH 0 rfl rfl rfl rfl Try.underlying61 tI5 rfl (by decide) (by decide) (by decide) (Src.flat (hH.rd 1 rfl)) hx38 ?_
            intro A38 c38 s38 hH'
            replace hH : Hp sb s F0 s38 [Ck.ol (Ow.flat (Kd.int_flat .u8)) 5 A38 c38 x38, Ck.ol (Ow.flat (Kd.int_flat .u8)) 5 A37 3 [239, 191, 189]] := hH'
            clear hH'
            try dsimp only [putL, setL, evL, getL]
            refine HL_cons rfl ?_
            refine o_assign ?_
            try dsimp only [putL, setL, evL, getL]
            refine HL_nil ?_
            refine hK36 _ _ ?_
            refine HT_ret ?_
            obtain rfl := Option.some.inj (show some _ = some r from H)
            exact hQr _ _ [.slice A38 x38.length c38] ⟨rfl, trivial⟩ ⟨A38, c38, rfl, hH.sel [0] (by decide)⟩
def utf8_AppendRune.f (p0 : List (Int)) (p1 : Int) : Option (List (Int)) := if (decide ((IntKind.u32.wrap p1) ≤ 127)) = true then ((app? 140737488355328 p0 [IntKind.u8.wrap p1]).bind fun x7 => some x7) else ((utf8_appendRuneNonASCII.f p0 p1).bind fun u9 => some u9)
def utf8_AppendRune.post (sb s : St) (F0 : Fp) (r : (List (Int))) : Value → St → Prop := fun v s' => ∃ (A0 : Option Addr) (c0 : Nat), v = .slice A0 r.length c0 ∧ Hp sb s F0 s' [Ck.ol (Ow.flat (Kd.int_flat .u8)) 5 A0 c0 r]
set_option maxRecDepth 100000 in
set_option maxHeartbeats 4000000 in
theorem utf8_AppendRune.ok (sb s : St) (F0 : Fp) (A0p : Option Addr) (c0p : Nat) (p0 : List (Int)) (p1 : Int) (hH : Hp sb s F0 s [Ck.ol (Ow.flat (Kd.int_flat .u8)) 5 A0p c0p p0]) (r : (List (Int))) (H : utf8_AppendRune.f p0 p1 = some r) : GCall Try.prog 165 #[.slice A0p p0.length c0p, .int .i32 p1] s (utf8_AppendRune.post sb s F0 r) := by
  refine GCall_ofk [.tmp 4] [.slice A0p p0.length c0p, .int .i32 p1, undef, undef, undef, undef, undef, undef, undef, undef, undef, undef, undef, undef, undef, undef] Try.func165 rfl rfl rfl ?_
  intro w Q hQr hQn hQp
  replace H := topE H
  unfold utf8_AppendRune.f at H
  refine HT_seq_k ?_
  intro K1 hK1
  refine HT_region ?_
  refine HL_cons rfl ?_
  refine o_assign ?_
  try dsimp only [putL, setL, evL, getL]
  refine HL_nil ?_
  refine hK1 _ _ ?_
  refine HT_seq_k ?_
  intro K2 hK2
  refine HT_seq_k ?_
  intro K3 hK3
  refine HT_region ?_
  refine HL_cons rfl ?_
  refine o_move ?_
  try dsimp only [putL, setL, evL, getL]
  refine HL_cons rfl ?_
  refine o_conv rfl Try.underlying21 Try.underlying170 ?_
  try dsimp only [putL, setL, evL, getL]
  refine HL_cons rfl ?_
  refine o_bin rfl rfl rfl ?_
  try dsimp only [putL, setL, evL, getL]
  refine HL_nil ?_
  refine hK3 _ _ ?_
  rcases Bool.eq_false_or_eq_true (decide ((IntKind.u32.wrap p1) ≤ 127)) with hb4 | hb4
  · replace H := iteT hb4 H
    refine HT_true (congrArg Value.bool hb4) ?_
    refine HT_seq_k ?_
    intro K5 hK5
    refine HT_region ?_
    refine HL_cons rfl ?_
    refine o_move ?_
    try dsimp only [putL, setL, evL, getL]
    refine HL_cons rfl ?_
    refine o_move ?_
    try dsimp only [putL, setL, evL, getL]
    refine HL_cons rfl ?_
    refine o_conv rfl Try.underlying21 Try.underlying5 ?_
    try dsimp only [putL, setL, evL, getL]
    refine HL_cons rfl ?_
    refine o_litF (K := (Kd.int .u8)) (O := (Ow.flat (Kd.int_flat .u8))) (ca := #[.int .u8 (IntKind.u8.wrap p1)]) [[.int .u8 (IntKind.u8.wrap p1)]] [IntKind.u8.wrap p1] hH Try.underlying61 tI5 rfl (by decide) rfl rfl rfl rfl ⟨rfl, Ent.own (Ent.flat rfl), trivial⟩ ?_
    intro A6 s6 hH' hG
    replace hH : Hp sb s F0 s6 [Ck.ol (Ow.flat (Kd.int_flat .u8)) 5 A0p c0p p0, Ck.ol (Ow.flat (Kd.int_flat .u8)) 5 A6 1 [IntKind.u8.wrap p1]] := hH'
    clear hH' hG
    try dsimp only [putL, setL, evL, getL]
    obtain ⟨x7, hx7, H⟩ := headE H
    refine HL_cons rfl ?_
    refine o_appF (K := (Kd.int .u8)) (n := 140737488355328) (A := A0p) (c := c0p) (xs := p0) (ys := [IntKind.u8.wrap p1]) (B := A6) (c2 := 1) hH 0 rfl rfl rfl rfl Try.underlying61 tI5 rfl (by decide) (by decide) (by decide) (Src.flat (hH.rd 1 rfl)) hx7 ?_
    intro A7 c7 s7 hH'
    replace hH : Hp sb s F0 s7 [Ck.ol (Ow.flat (Kd.int_flat .u8)) 5 A7 c7 x7, Ck.ol (Ow.flat (Kd.int_flat .u8)) 5 A6 1 [IntKind.u8.wrap p1]] := hH'
    clear hH'
    try dsimp only [putL, setL, evL, getL]
    refine HL_cons rfl ?_
    refine o_assign ?_
    try dsimp only [putL, setL, evL, getL]
    refine HL_nil ?_
    refine hK5 _ _ ?_
    refine HT_ret ?_
    obtain rfl := Option.some.inj (show some _ = some r from H)
    exact hQr _ _ [.slice A7 x7.length c7] ⟨rfl, trivial⟩ ⟨A7, c7, rfl, hH.sel [0] (by decide)⟩
  · replace H := iteF hb4 H
    refine HT_false (congrArg Value.bool hb4) ?_
    refine HT_skip ?_
    refine hK2 _ _ ?_
    refine HT_seq_k ?_
    intro K8 hK8
    refine HT_region ?_
    refine HL_cons rfl ?_
    refine o_move ?_
    try dsimp only [putL, setL, evL, getL]
    refine HL_cons rfl ?_
    refine o_move ?_
    try dsimp only [putL, setL, evL, getL]
    obtain ⟨u9, hu9, H⟩ := headE H
    obtain ⟨F1, hA, hB⟩ := hH.take [0] (by decide)
    dsimp only [addC, setC, rmC, selC, getC] at hA
    refine HL_cons rfl ?_
    refine o_call (args := #[.slice A0p p0.length c0p, .int .i32 p1]) Try.func168 rfl rfl rfl (utf8_appendRuneNonASCII.ok sb s F1 A0p c0p p0 p1 hA _ hu9) ?_
    rintro _ s9 ⟨A10, c10, rfl, hD⟩
    replace hH := hB _ _ _ (Up.refl _ _ _) hD
    clear hD hA hB
    dsimp only [addC, setC, rmC, selC, getC] at hH
    try dsimp only [putL, setL, evL, getL]
    refine HL_cons rfl ?_
    refine o_assign ?_
    try dsimp only [putL, setL, evL, getL]
    refine HL_nil ?_
    refine hK8 _ _ ?_
    refine HT_ret ?_
    obtain rfl := Option.some.inj (show some _ = some r from H)
    exact hQr _ _ [.slice A10 u9.length c10] ⟨rfl, trivial⟩ ⟨A10, c10, rfl, hH.sel [1] (by decide)⟩
def impl_textOf.l1 (p0 : List (Int)) : Nat → (List (Int)) → Int → Option (List (Int))
  | 0, _, _ => none
  | kf + 1, x45, x46 => if (decide (x46 < (p0.length : Int))) = true then ((rd? p0 x46).bind fun u63 => (utf8_AppendRune.f x45 (IntKind.i32.wrap u63)).bind fun u64 => impl_textOf.l1 p0 kf u64 (IntKind.i64.wrap (x46 + 1))) else (some x45)
def impl_textOf.f (p0 : List (Int)) : Option ByteArray := (impl_textOf.l1 p0 ((((p0.length : Int)) - (0)).toNat + 2) ([] : List (Int)) 0).bind fun (o : (List (Int))) => match o with | x36 => (some (textB x36))
def impl_textOf.post (sb s : St) (F0 : Fp) (r : ByteArray) : Value → St → Prop := fun v s' => v = .string r ∧ Hp sb s F0 s' []
set_option maxRecDepth 100000 in
set_option maxHeartbeats 4000000 in
theorem impl_textOf.ok (sb s : St) (F0 : Fp) (A0p : Option Addr) (c0p : Nat) (p0 : List (Int)) (HRp0 : Rd KI sb A0p c0p p0) (hH : Hp sb s F0 s []) (r : ByteArray) (H : impl_textOf.f p0 = some r) : GCall Try.prog 149 #[.slice A0p p0.length c0p] s (impl_textOf.post sb s F0 r) := by
  refine GCall_ofk [.tmp 2] [.slice A0p p0.length c0p, undef, undef, undef, undef, undef, undef, undef, undef, undef, undef, undef, undef, undef, undef, undef, undef, undef, undef, undef] Try.func149 rfl rfl rfl ?_
  intro w Q hQr hQn hQp
  replace H := topE H
  unfold impl_textOf.f at H
  refine HT_seq_k ?_
  intro K1 hK1
  refine HT_region ?_
  refine HL_cons rfl ?_
  refine o_assign ?_
  try dsimp only [putL, setL, evL, getL]
  refine HL_nil ?_
  refine hK1 _ _ ?_
  refine HT_seq_k ?_
  intro K2 hK2
  refine HT_region ?_
  refine HL_cons rfl ?_
  refine o_lit0H (α := Int) (K := (Kd.int .u8)) (O := (Ow.flat (Kd.int_flat .u8))) hH Try.underlying61 tI5 ?_
  intro A3 s3 hH' hG
  replace hH : Hp sb s F0 s3 [Ck.ol (Ow.flat (Kd.int_flat .u8)) 5 A3 0 ([] : List (Int))] := hH'
  clear hH' hG
  try dsimp only [putL, setL, evL, getL]
  refine HL_cons rfl ?_
  refine o_assign ?_
  try dsimp only [putL, setL, evL, getL]
  refine HL_nil ?_
  refine hK2 _ _ ?_
  refine HT_seq_k ?_
  intro K4 hK4
  refine HT_seq_k ?_
  intro K5 hK5
  refine HT_region ?_
  refine HL_cons rfl ?_
  refine o_move ?_
  try dsimp only [putL, setL, evL, getL]
  refine HL_cons rfl ?_
  refine o_len rfl Try.underlying22 ?_
  try dsimp only [putL, setL, evL, getL]
  refine HL_cons rfl ?_
  refine o_move ?_
  try dsimp only [putL, setL, evL, getL]
  refine HL_nil ?_
  refine hK5 _ _ ?_
  refine joinH H fun G6 hG6 H => ?_
  refine HT_toK (fun l' s' => ∃ (x36 : List (Int)) (A36 : Option Addr) (c36 : Nat), G6 x36 = some r ∧ l' = [.slice A0p p0.length c0p, undef, .string (⟨#[]⟩), .slice A36 x36.length c36, undef, getL l' 5, .slice A3 ([] : List (Int)).length 0, .slice A0p p0.length c0p, .int .i64 (p0.length : Int), getL l' 9, getL l' 10, getL l' 11, getL l' 12, getL l' 13, getL l' 14, getL l' 15, getL l' 16, getL l' 17, undef, undef] ∧ Hp sb s F0 s' [Ck.ol (Ow.flat (Kd.int_flat .u8)) 5 A36 c36 x36]) ?_ ?_
  · intro K6 hK6
    refine HT_block ?_
    refine HT_loopK (fun kf l' s' => ∃ (x45 : List (Int)) (A45 : Option Addr) (c45 : Nat) (x46 : Int), (impl_textOf.l1 p0 kf x45 x46).bind G6 = some r ∧ l' = [.slice A0p p0.length c0p, undef, .string (⟨#[]⟩), .slice A45 x45.length c45, undef, getL l' 5, .slice A3 ([] : List (Int)).length 0, .slice A0p p0.length c0p, .int .i64 (p0.length : Int), .int .i64 x46, getL l' 10, getL l' 11, getL l' 12, getL l' 13, getL l' 14, getL l' 15, getL l' 16, getL l' 17, undef, undef] ∧ Hp sb s F0 s' [Ck.ol (Ow.flat (Kd.int_flat .u8)) 5 A45 c45 x45]) ((((p0.length : Int)) - (0)).toNat + 2) ⟨([] : List (Int)), A3, 0, 0, H, rfl, hH⟩ ?_
    rintro kf l' s57 ⟨x45, A45, c45, x46, H, hl, hH⟩ K57 hK57
    generalize getL l' 5 = j5, getL l' 10 = j10, getL l' 11 = j11, getL l' 12 = j12, getL l' 13 = j13, getL l' 14 = j14, getL l' 15 = j15, getL l' 16 = j16, getL l' 17 = j17 at hl
    subst hl
    cases kf with
    | zero => simp [impl_textOf.l1] at H
    | succ kf =>
      rw [impl_textOf.l1] at H
      refine HT_seq_k ?_
      intro K58 hK58
      refine HT_region ?_
      refine HL_cons rfl ?_
      refine o_bin rfl rfl rfl ?_
      try dsimp only [putL, setL, evL, getL]
      refine HL_nil ?_
      refine hK58 _ _ ?_
      refine HT_seq_k ?_
      intro K59 hK59
      rcases Bool.eq_false_or_eq_true (decide (x46 < (p0.length : Int))) with hb60 | hb60
      · replace H := iteT hb60 H
        refine HT_true (congrArg Value.bool hb60) ?_
        refine HT_skip ?_
        refine hK59 _ _ ?_
        refine HT_seq_k ?_
        intro K61 hK61
        refine HT_block ?_
        refine HT_seq_k ?_
        intro K62 hK62
        refine HT_region ?_
        obtain ⟨u63, hu63, H⟩ := headE H
        obtain ⟨b63, o63, cs63, hr63, hh63, hel63⟩ := Rd.elb HRp0 hu63
        obtain rfl := hr63
        refine HL_cons rfl ?_
        refine hel63 s57 rfl rfl Try.underlying22 tI3 ?_
        try dsimp only [putL, setL, evL, getL]
        refine HL_cons rfl ?_
        refine o_load' rfl Try.underlying3 rfl ((hh63 hH.bs.mono) 0 _ rfl) ?_
        try dsimp only [putL, setL, evL, getL]
        refine HL_cons rfl ?_
        refine o_assign ?_
        try dsimp only [putL, setL, evL, getL]
        refine HL_nil ?_
        refine hK62 _ _ ?_
        refine HT_region ?_
        refine HL_cons rfl ?_
        refine o_move ?_
        try dsimp only [putL, setL, evL, getL]
        refine HL_cons rfl ?_
        refine o_move ?_
        try dsimp only [putL, setL, evL, getL]
        refine HL_cons rfl ?_
        refine o_conv rfl Try.underlying3 Try.underlying21 ?_
        try dsimp only [putL, setL, evL, getL]
        obtain ⟨u64, hu64, H⟩ := headE H
        obtain ⟨F1, hA, hB⟩ := hH.take [0] (by decide)
        dsimp only [addC, setC, rmC, selC, getC] at hA
        refine HL_cons rfl ?_
        refine o_call (args := #[.slice A45 x45.length c45, .int .i32 (IntKind.i32.wrap u63)]) Try.func165 rfl rfl rfl (utf8_AppendRune.ok sb s57 F1 A45 c45 x45 (IntKind.i32.wrap u63) hA _ hu64) ?_
        rintro _ s64 ⟨A65, c65, rfl, hD⟩
        replace hH := hB _ _ _ (Up.refl _ _ _) hD
        clear hD hA hB
        dsimp only [addC, setC, rmC, selC, getC] at hH
        try dsimp only [putL, setL, evL, getL]
        refine HL_cons rfl ?_
        refine o_assign ?_
        try dsimp only [putL, setL, evL, getL]
        refine HL_nil ?_
        refine hK61 _ _ ?_
        refine HT_region ?_
        refine HL_cons rfl ?_
        refine o_bin rfl rfl rfl ?_
        try dsimp only [putL, setL, evL, getL]
        refine HL_cons rfl ?_
        refine o_move ?_
        try dsimp only [putL, setL, evL, getL]
        refine HL_nil ?_
        exact hK57 _ _ ⟨kf, Nat.lt_succ_self kf, u64, A65, c65, IntKind.i64.wrap (x46 + 1), H, rfl, hH.sel [1] (by decide)⟩
      · replace H := iteF hb60 H
        refine HT_false (congrArg Value.bool hb60) ?_
        refine HT_exit ?_
        exact hK6 _ _ ⟨x45, A45, c45, H, rfl, hH⟩
  · rintro l' s66 ⟨x36, A36, c36, H, hl, hH⟩
    generalize getL l' 5 = j5, getL l' 9 = j9, getL l' 10 = j10, getL l' 11 = j11, getL l' 12 = j12, getL l' 13 = j13, getL l' 14 = j14, getL l' 15 = j15, getL l' 16 = j16, getL l' 17 = j17 at hl
    subst hl
    replace H := hG6 _ H
    try dsimp only at H
    refine hK4 _ _ ?_
    refine HT_seq_k ?_
    intro K67 hK67
    refine HT_region ?_
    refine HL_cons rfl ?_
    refine o_move ?_
    try dsimp only [putL, setL, evL, getL]
    refine HL_cons rfl ?_
    refine o_b2s (xs := x36) rfl Try.underlying61 Try.underlying5 Try.underlying9 (hH.rd 0 rfl) ?_
    try dsimp only [putL, setL, evL, getL]
    refine HL_cons rfl ?_
    refine o_assign ?_
    try dsimp only [putL, setL, evL, getL]
    refine HL_nil ?_
    refine hK67 _ _ ?_
    refine HT_ret ?_
    obtain rfl := Option.some.inj (show some _ = some r from H)
    exact hQr _ _ [.string (textB x36)] ⟨rfl, trivial⟩ ⟨rfl, hH.sel [] (by decide)⟩
def impl_TextOf.f (p0 : List (Int)) : Option (ByteArray × Bool) := (impl_areRunes.f p0 1000).bind fun u4 => if (!u4) = true then (some ((⟨#[]⟩), false)) else ((impl_textOf.f p0).bind fun u8 => if (decide ((u8.size : Int) > 1000)) = true then (some ((⟨#[]⟩), false)) else (some (u8, true)))
def impl_TextOf.post (sb s : St) (F0 : Fp) (r : ByteArray × Bool) : Value → St → Prop := fun v s' => v = .tuple #[.string r.1, .bool r.2] ∧ Hp sb s F0 s' []
set_option maxRecDepth 100000 in
set_option maxHeartbeats 4000000 in
theorem impl_TextOf.ok (sb s : St) (F0 : Fp) (A0p : Option Addr) (c0p : Nat) (p0 : List (Int)) (HRp0 : Rd KI sb A0p c0p p0) (hH : Hp sb s F0 s []) (r : ByteArray × Bool) (H : impl_TextOf.f p0 = some r) : GCall Try.prog 106 #[.slice A0p p0.length c0p] s (impl_TextOf.post sb s F0 r) := by
  refine GCall_ofk [.tmp 2, .tmp 3] [.slice A0p p0.length c0p, undef, undef, undef, undef, undef, undef, undef, undef, undef, undef, undef, undef, undef] Try.func106 rfl rfl rfl ?_
  intro w Q hQr hQn hQp
  replace H := topE H
  unfold impl_TextOf.f at H
  refine HT_seq_k ?_
  intro K1 hK1
  refine HT_region ?_
  refine HL_cons rfl ?_
  refine o_assign ?_
  try dsimp only [putL, setL, evL, getL]
  refine HL_cons rfl ?_
  refine o_assign ?_
  try dsimp only [putL, setL, evL, getL]
  refine HL_nil ?_
  refine hK1 _ _ ?_
  refine HT_seq_k ?_
  intro K2 hK2
  refine HT_seq_k ?_
  intro K3 hK3
  refine HT_region ?_
  refine HL_cons rfl ?_
  refine o_move ?_
  try dsimp only [putL, setL, evL, getL]
  obtain ⟨u4, hu4, H⟩ := headE H
  refine HL_cons rfl ?_
  refine o_call (args := #[.slice A0p p0.length c0p, .int .i64 1000]) Try.func113 rfl rfl rfl (impl_areRunes.ok sb s no A0p c0p p0 1000 HRp0 (Hp.own hH.bs) _ hu4) ?_
  rintro _ s4 ⟨rfl, hD⟩
  replace hH := hH.back0 hD (Up.refl _ _ _)
  clear hD
  dsimp only [addC, setC, rmC, selC, getC] at hH
  try dsimp only [putL, setL, evL, getL]
  refine HL_cons rfl ?_
  refine o_not rfl ?_
  try dsimp only [putL, setL, evL, getL]
  refine HL_nil ?_
  refine hK3 _ _ ?_
  rcases Bool.eq_false_or_eq_true (!u4) with hb5 | hb5
  · replace H := iteT hb5 H
    refine HT_true (congrArg Value.bool hb5) ?_
    refine HT_seq_k ?_
    intro K6 hK6
    refine HT_region ?_
    refine HL_cons rfl ?_
    refine o_assign ?_
    try dsimp only [putL, setL, evL, getL]
    refine HL_cons rfl ?_
    refine o_assign ?_
    try dsimp only [putL, setL, evL, getL]
    refine HL_nil ?_
    refine hK6 _ _ ?_
    refine HT_ret ?_
    obtain rfl := Option.some.inj (show some _ = some r from H)
    exact hQr _ _ [.string (⟨#[]⟩), .bool false] ⟨rfl, rfl, trivial⟩ ⟨rfl, hH⟩
  · replace H := iteF hb5 H
    refine HT_false (congrArg Value.bool hb5) ?_
    refine HT_skip ?_
    refine hK2 _ _ ?_
    refine HT_seq_k ?_
    intro K7 hK7
    refine HT_region ?_
    refine HL_cons rfl ?_
    refine o_move ?_
    try dsimp only [putL, setL, evL, getL]
    obtain ⟨u8, hu8, H⟩ := headE H
    refine HL_cons rfl ?_
    refine o_call (args := #[.slice A0p p0.length c0p]) Try.func149 rfl rfl rfl (impl_textOf.ok sb s4 no A0p c0p p0 HRp0 (Hp.own hH.bs) _ hu8) ?_
    rintro _ s8 ⟨rfl, hD⟩
    replace hH := hH.back0 hD (Up.refl _ _ _)
    clear hD
    dsimp only [addC, setC, rmC, selC, getC] at hH
    try dsimp only [putL, setL, evL, getL]
    refine HL_cons rfl ?_
    refine o_assign ?_
    try dsimp only [putL, setL, evL, getL]
    refine HL_nil ?_
    refine hK7 _ _ ?_
    refine HT_seq_k ?_
    intro K9 hK9
    refine HT_seq_k ?_
    intro K10 hK10
    refine HT_region ?_
    refine HL_cons rfl ?_
    refine o_move ?_
    try dsimp only [putL, setL, evL, getL]
    refine HL_cons rfl ?_
    refine o_lens rfl Try.underlying9 ?_
    try dsimp only [putL, setL, evL, getL]
    refine HL_cons rfl ?_
    refine o_bin rfl rfl rfl ?_
    try dsimp only [putL, setL, evL, getL]
    refine HL_nil ?_
    refine hK10 _ _ ?_
    rcases Bool.eq_false_or_eq_true (decide ((u8.size : Int) > 1000)) with hb11 | hb11
    · replace H := iteT hb11 H
      refine HT_true (congrArg Value.bool hb11) ?_
      refine HT_seq_k ?_
      intro K12 hK12
      refine HT_region ?_
      refine HL_cons rfl ?_
      refine o_assign ?_
      try dsimp only [putL, setL, evL, getL]
      refine HL_cons rfl ?_
      refine o_assign ?_
      try dsimp only [putL, setL, evL, getL]
      refine HL_nil ?_
      refine hK12 _ _ ?_
      refine HT_ret ?_
      obtain rfl := Option.some.inj (show some _ = some r from H)
      exact hQr _ _ [.string (⟨#[]⟩), .bool false] ⟨rfl, rfl, trivial⟩ ⟨rfl, hH⟩
    · replace H := iteF hb11 H
      refine HT_false (congrArg Value.bool hb11) ?_
      refine HT_skip ?_
      refine hK9 _ _ ?_
      refine HT_seq_k ?_
      intro K13 hK13
      refine HT_region ?_
      refine HL_cons rfl ?_
      refine o_move ?_
      try dsimp only [putL, setL, evL, getL]
      refine HL_cons rfl ?_
      refine o_assign ?_
      try dsimp only [putL, setL, evL, getL]
      refine HL_cons rfl ?_
      refine o_assign ?_
      try dsimp only [putL, setL, evL, getL]
      refine HL_nil ?_
      refine hK13 _ _ ?_
      refine HT_ret ?_
      obtain rfl := Option.some.inj (show some _ = some r from H)
      exact hQr _ _ [.string u8, .bool true] ⟨rfl, rfl, trivial⟩ ⟨rfl, hH⟩
def impl_ScreenText.l1 (p0_0 : Int) (p0_1 : Int) (p0_2 : List (Int)) (p0_3 : Int) (p0_4 : Int) : Nat → (List (Int)) → Int → Option (List (Int))
  | 0, _, _ => none
  | kf + 1, x59, x60 => if (decide (x60 < p0_1)) = true then ((impl_Screen_rowOf.f p0_0 p0_1 p0_2 p0_3 p0_4 x60).bind fun u79 => (app? 17592186044416 x59 u79).bind fun x81 => (app? 17592186044416 x81 [10]).bind fun x83 => impl_ScreenText.l1 p0_0 p0_1 p0_2 p0_3 p0_4 kf x83 (IntKind.i64.wrap (x60 + 1))) else (some x59)
def impl_ScreenText.f (p0_0 : Int) (p0_1 : Int) (p0_2 : List (Int)) (p0_3 : Int) (p0_4 : Int) : Option (ByteArray × Bool) := (impl_GoodScreen.f p0_0 p0_1 p0_2 p0_3 p0_4).bind fun u5 => if (!u5) = true then (some ((⟨#[]⟩), false)) else ((impl_ScreenText.l1 p0_0 p0_1 p0_2 p0_3 p0_4 (((p0_1) - (0)).toNat + 2) ([] : List (Int)) 0).bind fun (o : (List (Int))) => match o with | x48 => ((impl_TextOf.f x48).bind fun u86 => some (u86.1, u86.2)))
def impl_ScreenText.post (sb s : St) (F0 : Fp) (r : ByteArray × Bool) : Value → St → Prop := fun v s' => v = .tuple #[.string r.1, .bool r.2] ∧ Hp sb s F0 s' []
set_option maxRecDepth 100000 in
set_option maxHeartbeats 4000000 in
theorem impl_ScreenText.ok (sb s : St) (F0 : Fp) (p0_0 : Int) (p0_1 : Int) (A0_2p : Option Addr) (c0_2p : Nat) (p0_2 : List (Int)) (p0_3 : Int) (p0_4 : Int) (HRp0_2 : Rd KI sb A0_2p c0_2p p0_2) (hH : Hp sb s F0 s []) (r : ByteArray × Bool) (H : impl_ScreenText.f p0_0 p0_1 p0_2 p0_3 p0_4 = some r) : GCall Try.prog 42 #[.agg #[.int .i64 p0_0, .int .i64 p0_1, .slice A0_2p p0_2.length c0_2p, .int .i64 p0_3, .int .i64 p0_4]] s (impl_ScreenText.post sb s F0 r) := by
  refine GCall_ofk [.tmp 2, .tmp 3] [.agg #[.int .i64 p0_0, .int .i64 p0_1, .slice A0_2p p0_2.length c0_2p, .int .i64 p0_3, .int .i64 p0_4], undef, undef, undef, undef, undef, undef, undef, undef, undef, undef, undef, undef, undef, undef, undef, undef, undef, undef, undef, undef, undef, undef, undef, undef, undef, undef] Try.func42 rfl rfl rfl ?_
  intro w Q hQr hQn hQp
  replace H := topE H
  unfold impl_ScreenText.f at H
  refine HT_seq_k ?_
  intro K1 hK1
  refine HT_region ?_
  refine HL_cons rfl ?_
  refine o_boxH hH rfl ?_
  intro b2 s2 hH' hG
  replace hH : Hp sb s F0 s2 [Ck.ov b2 [.int .i64 p0_0, .int .i64 p0_1, .slice A0_2p p0_2.length c0_2p, .int .i64 p0_3, .int .i64 p0_4] 55] := hH'
  clear hH' hG
  try dsimp only [putL, setL, evL, getL]
  refine HL_cons rfl ?_
  refine o_assign ?_
  try dsimp only [putL, setL, evL, getL]
  refine HL_cons rfl ?_
  refine o_assign ?_
  try dsimp only [putL, setL, evL, getL]
  refine HL_nil ?_
  refine hK1 _ _ ?_
  refine HT_seq_k ?_
  intro K3 hK3
  refine HT_seq_k ?_
  intro K4 hK4
  refine HT_region ?_
  refine HL_cons rfl ?_
  refine o_loads' [.int .i64 p0_0, .int .i64 p0_1, .slice A0_2p p0_2.length c0_2p, .int .i64 p0_3, .int .i64 p0_4] rfl Try.underlying55 rfl tI55 rfl (hH.partv 0 rfl (0) [.int .i64 p0_0, .int .i64 p0_1, .slice A0_2p p0_2.length c0_2p, .int .i64 p0_3, .int .i64 p0_4] rfl) ?_
  try dsimp only [putL, setL, evL, getL]
  obtain ⟨u5, hu5, H⟩ := headE H
  refine HL_cons rfl ?_
  refine o_call (args := #[.agg #[.int .i64 p0_0, .int .i64 p0_1, .slice A0_2p p0_2.length c0_2p, .int .i64 p0_3, .int .i64 p0_4]]) Try.func104 rfl rfl rfl (impl_GoodScreen.ok sb s2 no p0_0 p0_1 A0_2p c0_2p p0_2 p0_3 p0_4 HRp0_2 (Hp.own hH.bs) _ hu5) ?_
  rintro _ s5 ⟨rfl, hD⟩
  replace hH := hH.back0 hD (Up.refl _ _ _)
  clear hD
  dsimp only [addC, setC, rmC, selC, getC] at hH
  try dsimp only [putL, setL, evL, getL]
  refine HL_cons rfl ?_
  refine o_not rfl ?_
  try dsimp only [putL, setL, evL, getL]
  refine HL_nil ?_
  refine hK4 _ _ ?_
  rcases Bool.eq_false_or_eq_true (!u5) with hb6 | hb6
  · replace H := iteT hb6 H
    refine HT_true (congrArg Value.bool hb6) ?_
    refine HT_seq_k ?_
    intro K7 hK7
    refine HT_region ?_
    refine HL_cons rfl ?_
    refine o_assign ?_
    try dsimp only [putL, setL, evL, getL]
    refine HL_cons rfl ?_
    refine o_assign ?_
    try dsimp only [putL, setL, evL, getL]
    refine HL_nil ?_
    refine hK7 _ _ ?_
    refine HT_ret ?_
    obtain rfl := Option.some.inj (show some _ = some r from H)
    exact hQr _ _ [.string (⟨#[]⟩), .bool false] ⟨rfl, rfl, trivial⟩ ⟨rfl, hH.sel [] (by decide)⟩
  · replace H := iteF hb6 H
    refine HT_false (congrArg Value.bool hb6) ?_
    refine HT_skip ?_
    refine hK3 _ _ ?_
    refine HT_seq_k ?_
    intro K8 hK8
    refine HT_region ?_
    refine HL_cons rfl ?_
    refine o_lit0H (α := Int) (K := KI) (O := OI) hH Try.underlying22 tI3 ?_
    intro A9 s9 hH' hG
    replace hH : Hp sb s F0 s9 [Ck.ov b2 [.int .i64 p0_0, .int .i64 p0_1, .slice A0_2p p0_2.length c0_2p, .int .i64 p0_3, .int .i64 p0_4] 55, Ck.ol OI 3 A9 0 ([] : List (Int))] := hH'
    clear hH' hG
    try dsimp only [putL, setL, evL, getL]
    refine HL_cons rfl ?_
    refine o_assign ?_
    try dsimp only [putL, setL, evL, getL]
    refine HL_nil ?_
    refine hK8 _ _ ?_
    refine HT_seq_k ?_
    intro K10 hK10
    refine HT_seq_k ?_
    intro K11 hK11
    refine HT_region ?_
    refine HL_cons rfl ?_
    refine o_faddr' (ft := 3) (off := 1) rfl Try.underlying55 rfl tI3 (by decide) ?_
    try dsimp only [putL, setL, evL, getL]
    refine HL_cons rfl ?_
    refine o_load' rfl Try.underlying3 rfl (hH.hasv 0 rfl rfl) ?_
    try dsimp only [putL, setL, evL, getL]
    refine HL_cons rfl ?_
    refine o_move ?_
    try dsimp only [putL, setL, evL, getL]
    refine HL_nil ?_
    refine hK11 _ _ ?_
    refine joinH H fun G12 hG12 H => ?_
    refine HT_toK (fun l' s' => ∃ (x48 : List (Int)) (A48 : Option Addr) (c48 : Nat), G12 x48 = some r ∧ l' = [.agg #[.int .i64 p0_0, .int .i64 p0_1, .slice A0_2p p0_2.length c0_2p, .int .i64 p0_3, .int .i64 p0_4], .pointer (some ⟨b2, 0, none⟩), .string (⟨#[]⟩), .bool false, .slice A48 x48.length c48, getL l' 5, .agg #[.int .i64 p0_0, .int .i64 p0_1, .slice A0_2p p0_2.length c0_2p, .int .i64 p0_3, .int .i64 p0_4], .bool u5, .bool (!u5), .slice A9 ([] : List (Int)).length 0, .pointer (some ⟨b2, 0 + 1, none⟩), .int .i64 p0_1, getL l' 12, getL l' 13, getL l' 14, getL l' 15, getL l' 16, getL l' 17, getL l' 18, getL l' 19, getL l' 20, getL l' 21, getL l' 22, undef, undef, undef, undef] ∧ Hp sb s F0 s' [Ck.ol OI 3 A48 c48 x48]) ?_ ?_
    · intro K12 hK12
      refine HT_block ?_
      refine HT_loopK (fun kf l' s' => ∃ (x59 : List (Int)) (A59 : Option Addr) (c59 : Nat) (x60 : Int), (impl_ScreenText.l1 p0_0 p0_1 p0_2 p0_3 p0_4 kf x59 x60).bind G12 = some r ∧ l' = [.agg #[.int .i64 p0_0, .int .i64 p0_1, .slice A0_2p p0_2.length c0_2p, .int .i64 p0_3, .int .i64 p0_4], .pointer (some ⟨b2, 0, none⟩), .string (⟨#[]⟩), .bool false, .slice A59 x59.length c59, getL l' 5, .agg #[.int .i64 p0_0, .int .i64 p0_1, .slice A0_2p p0_2.length c0_2p, .int .i64 p0_3, .int .i64 p0_4], .bool u5, .bool (!u5), .slice A9 ([] : List (Int)).length 0, .pointer (some ⟨b2, 0 + 1, none⟩), .int .i64 p0_1, .int .i64 x60, getL l' 13, getL l' 14, getL l' 15, getL l' 16, getL l' 17, getL l' 18, getL l' 19, getL l' 20, getL l' 21, getL l' 22, undef, undef, undef, undef] ∧ Hp sb s F0 s' [Ck.ol OI 3 A59 c59 x59, Ck.ov b2 [.int .i64 p0_0, .int .i64 p0_1, .slice A0_2p p0_2.length c0_2p, .int .i64 p0_3, .int .i64 p0_4] 55]) (((p0_1) - (0)).toNat + 2) ⟨([] : List (Int)), A9, 0, 0, H, rfl, hH.sel [1, 0] (by decide)⟩ ?_
      rintro kf l' s73 ⟨x59, A59, c59, x60, H, hl, hH⟩ K73 hK73
      generalize getL l' 5 = j5, getL l' 13 = j13, getL l' 14 = j14, getL l' 15 = j15, getL l' 16 = j16, getL l' 17 = j17, getL l' 18 = j18, getL l' 19 = j19, getL l' 20 = j20, getL l' 21 = j21, getL l' 22 = j22 at hl
      subst hl
      cases kf with
      | zero => simp [impl_ScreenText.l1] at H
      | succ kf =>
        rw [impl_ScreenText.l1] at H
        refine HT_seq_k ?_
        intro K74 hK74
        refine HT_region ?_
        refine HL_cons rfl ?_
        refine o_bin rfl rfl rfl ?_
        try dsimp only [putL, setL, evL, getL]
        refine HL_nil ?_
        refine hK74 _ _ ?_
        refine HT_seq_k ?_
        intro K75 hK75
        rcases Bool.eq_false_or_eq_true (decide (x60 < p0_1)) with hb76 | hb76
        · replace H := iteT hb76 H
          refine HT_true (congrArg Value.bool hb76) ?_
          refine HT_skip ?_
          refine hK75 _ _ ?_
          refine HT_seq_k ?_
          intro K77 hK77
          refine HT_block ?_
          refine HT_seq_k ?_
          intro K78 hK78
          refine HT_region ?_
          refine HL_cons rfl ?_
          refine o_move ?_
          try dsimp only [putL, setL, evL, getL]
          refine HL_cons rfl ?_
          refine o_assign ?_
          try dsimp only [putL, setL, evL, getL]
          refine HL_nil ?_
          refine hK78 _ _ ?_
          refine HT_region ?_
          refine HL_cons rfl ?_
          refine o_move ?_
          try dsimp only [putL, setL, evL, getL]
          refine HL_cons rfl ?_
          refine o_loads' [.int .i64 p0_0, .int .i64 p0_1, .slice A0_2p p0_2.length c0_2p, .int .i64 p0_3, .int .i64 p0_4] rfl Try.underlying55 rfl tI55 rfl (hH.partv 1 rfl (0) [.int .i64 p0_0, .int .i64 p0_1, .slice A0_2p p0_2.length c0_2p, .int .i64 p0_3, .int .i64 p0_4] rfl) ?_
          try dsimp only [putL, setL, evL, getL]
          refine HL_cons rfl ?_
          refine o_move ?_
          try dsimp only [putL, setL, evL, getL]
          obtain ⟨u79, hu79, H⟩ := headE H
          refine HL_cons rfl ?_
          refine o_call (args := #[.agg #[.int .i64 p0_0, .int .i64 p0_1, .slice A0_2p p0_2.length c0_2p, .int .i64 p0_3, .int .i64 p0_4], .int .i64 x60]) Try.func105 rfl rfl rfl (impl_Screen_rowOf.ok sb s73 no p0_0 p0_1 A0_2p c0_2p p0_2 p0_3 p0_4 x60 HRp0_2 (Hp.own hH.bs) _ hu79) ?_
          rintro _ s79 ⟨A80, c80, rfl, hD⟩
          replace hH := hH.back0 hD (Up.refl _ _ _)
          clear hD
          dsimp only [addC, setC, rmC, selC, getC] at hH
          try dsimp only [putL, setL, evL, getL]
          obtain ⟨x81, hx81, H⟩ := headE H
          refine HL_cons rfl ?_
          refine o_appF (K := KI) (n := 17592186044416) (A := A59) (c := c59) (xs := x59) (ys := u79) (B := A80) (c2 := c80) hH 0 rfl rfl rfl rfl Try.underlying22 tI3 rfl (by decide) (by decide) (by decide) (Src.flat (hH.rd 2 rfl)) hx81 ?_
          intro A81 c81 s81 hH'
          replace hH : Hp sb s F0 s81 [Ck.ol OI 3 A81 c81 x81, Ck.ov b2 [.int .i64 p0_0, .int .i64 p0_1, .slice A0_2p p0_2.length c0_2p, .int .i64 p0_3, .int .i64 p0_4] 55, Ck.ol OI 3 A80 c80 u79] := hH'
          clear hH'
          try dsimp only [putL, setL, evL, getL]
          refine HL_cons rfl ?_
          refine o_litF (K := KI) (O := OI) (ca := #[.int .i64 10]) [[.int .i64 10]] [10] hH Try.underlying22 tI3 rfl (by decide) rfl rfl rfl rfl ⟨rfl, Ent.own (Ent.flat rfl), trivial⟩ ?_
          intro A82 s82 hH' hG
          replace hH : Hp sb s F0 s82 [Ck.ol OI 3 A81 c81 x81, Ck.ov b2 [.int .i64 p0_0, .int .i64 p0_1, .slice A0_2p p0_2.length c0_2p, .int .i64 p0_3, .int .i64 p0_4] 55, Ck.ol OI 3 A80 c80 u79, Ck.ol OI 3 A82 1 [10]] := hH'
          clear hH' hG
          try dsimp only [putL, setL, evL, getL]
          obtain ⟨x83, hx83, H⟩ := headE H
          refine HL_cons rfl ?_
          refine o_appF (K := KI) (n := 17592186044416) (A := A81) (c := c81) (xs := x81) (ys := [10]) (B := A82) (c2 := 1) hH 0 rfl rfl rfl rfl Try.underlying22 tI3 rfl (by decide) (by decide) (by decide) (Src.flat (hH.rd 3 rfl)) hx83 ?_
          intro A83 c83 s83 hH'
          replace hH : Hp sb s F0 s83 [Ck.ol OI 3 A83 c83 x83, Ck.ov b2 [.int .i64 p0_0, .int .i64 p0_1, .slice A0_2p p0_2.length c0_2p, .int .i64 p0_3, .int .i64 p0_4] 55, Ck.ol OI 3 A80 c80 u79, Ck.ol OI 3 A82 1 [10]] := hH'
          clear hH'
          try dsimp only [putL, setL, evL, getL]
          refine HL_cons rfl ?_
          refine o_assign ?_
          try dsimp only [putL, setL, evL, getL]
          refine HL_nil ?_
          refine hK77 _ _ ?_
          refine HT_region ?_
          refine HL_cons rfl ?_
          refine o_bin rfl rfl rfl ?_
          try dsimp only [putL, setL, evL, getL]
          refine HL_cons rfl ?_
          refine o_move ?_
          try dsimp only [putL, setL, evL, getL]
          refine HL_nil ?_
          exact hK73 _ _ ⟨kf, Nat.lt_succ_self kf, x83, A83, c83, IntKind.i64.wrap (x60 + 1), H, rfl, hH.sel [0, 1] (by decide)⟩
        · replace H := iteF hb76 H
          refine HT_false (congrArg Value.bool hb76) ?_
          refine HT_exit ?_
          exact hK12 _ _ ⟨x59, A59, c59, H, rfl, hH.sel [0] (by decide)⟩
    · rintro l' s84 ⟨x48, A48, c48, H, hl, hH⟩
      generalize getL l' 5 = j5, getL l' 12 = j12, getL l' 13 = j13, getL l' 14 = j14, getL l' 15 = j15, getL l' 16 = j16, getL l' 17 = j17, getL l' 18 = j18, getL l' 19 = j19, getL l' 20 = j20, getL l' 21 = j21, getL l' 22 = j22 at hl
      subst hl
      replace H := hG12 _ H
      try dsimp only at H
      refine hK10 _ _ ?_
      refine HT_seq_k ?_
      intro K85 hK85
      refine HT_region ?_
      refine HL_cons rfl ?_
      refine o_move ?_
      try dsimp only [putL, setL, evL, getL]
      obtain ⟨u86, hu86, H⟩ := headE H
      refine HL_cons rfl ?_
      refine o_call (args := #[.slice A48 x48.length c48]) Try.func106 rfl rfl rfl (impl_TextOf.ok s84 s84 no A48 c48 x48 (hH.rd 0 rfl) (Hp.own (Bs.refl s84)) _ hu86) ?_
      rintro _ s86 ⟨rfl, hD⟩
      replace hH := hH.back0T hD
      clear hD
      dsimp only [addC, setC, rmC, selC, getC] at hH
      try dsimp only [putL, setL, evL, getL]
      refine HL_cons rfl ?_
      refine o_extract rfl rfl ?_
      try dsimp only [putL, setL, evL, getL]
      refine HL_cons rfl ?_
      refine o_extract rfl rfl ?_
      try dsimp only [putL, setL, evL, getL]
      refine HL_cons rfl ?_
      refine o_assign ?_
      try dsimp only [putL, setL, evL, getL]
      refine HL_cons rfl ?_
      refine o_assign ?_
      try dsimp only [putL, setL, evL, getL]
      refine HL_nil ?_
      refine hK85 _ _ ?_
      refine HT_ret ?_
      obtain rfl := Option.some.inj (show some _ = some r from H)
      exact hQr _ _ [.string u86.1, .bool u86.2] ⟨rfl, rfl, trivial⟩ ⟨rfl, hH.sel [] (by decide)⟩
def laws_eqIntS.l1 (p0 : List (Int)) (p1 : List (Int)) : Nat → Int → Option (Lo Unit Bool)
  | 0, _ => none
  | kf + 1, x48 => if (decide (x48 < (p0.length : Int))) = true then ((rd? p0 x48).bind fun u65 => (rd? p1 x48).bind fun u66 => if (u65 != u66) = true then ((some false).bind fun z => some (Lo.ret z)) else (laws_eqIntS.l1 p0 p1 kf (IntKind.i64.wrap (x48 + 1)))) else (some (Lo.go ()))
def laws_eqIntS.f (p0 : List (Int)) (p1 : List (Int)) : Option Bool := if ((p0.length : Int) != (p1.length : Int)) = true then (some false) else ((laws_eqIntS.l1 p0 p1 ((((p0.length : Int)) - (0)).toNat + 2) 0).bind fun (o : Lo Unit Bool) => match o with | .go () => (some true) | .ret z => some z)
def laws_eqIntS.post (sb s : St) (F0 : Fp) (r : Bool) : Value → St → Prop := fun v s' => v = .bool r ∧ Hp sb s F0 s' []
set_option maxRecDepth 100000 in
set_option maxHeartbeats 4000000 in
theorem laws_eqIntS.ok (sb s : St) (F0 : Fp) (A0p : Option Addr) (c0p : Nat) (p0 : List (Int)) (A1p : Option Addr) (c1p : Nat) (p1 : List (Int)) (HRp0 : Rd KI sb A0p c0p p0) (HRp1 : Rd KI sb A1p c1p p1) (hH : Hp sb s F0 s []) (r : Bool) (H : laws_eqIntS.f p0 p1 = some r) : GCall Try.prog 18 #[.slice A0p p0.length c0p, .slice A1p p1.length c1p] s (laws_eqIntS.post sb s F0 r) := by
  refine GCall_ofk [.tmp 4] [.slice A0p p0.length c0p, .slice A1p p1.length c1p, undef, undef, undef, undef, undef, undef, undef, undef, undef, undef, undef, undef, undef, undef, undef, undef, undef, undef, undef, undef, undef, undef, undef, undef] Try.func18 rfl rfl rfl ?_
  intro w Q hQr hQn hQp
  replace H := topE H
  unfold laws_eqIntS.f at H
  refine HT_seq_k ?_
  intro K1 hK1
  refine HT_region ?_
  refine HL_cons rfl ?_
  refine o_assign ?_
  try dsimp only [putL, setL, evL, getL]
  refine HL_nil ?_
  refine hK1 _ _ ?_
  refine HT_seq_k ?_
  intro K2 hK2
  refine HT_seq_k ?_
  intro K3 hK3
  refine HT_region ?_
  refine HL_cons rfl ?_
  refine o_move ?_
  try dsimp only [putL, setL, evL, getL]
  refine HL_cons rfl ?_
  refine o_len rfl Try.underlying22 ?_
  try dsimp only [putL, setL, evL, getL]
  refine HL_cons rfl ?_
  refine o_move ?_
  try dsimp only [putL, setL, evL, getL]
  refine HL_cons rfl ?_
  refine o_len rfl Try.underlying22 ?_
  try dsimp only [putL, setL, evL, getL]
  refine HL_cons rfl ?_
  refine o_bin rfl rfl rfl ?_
  try dsimp only [putL, setL, evL, getL]
  refine HL_nil ?_
  refine hK3 _ _ ?_
  rcases Bool.eq_false_or_eq_true ((p0.length : Int) != (p1.length : Int)) with hb4 | hb4
  · replace H := iteT hb4 H
    refine HT_true (congrArg Value.bool hb4) ?_
    refine HT_seq_k ?_
    intro K5 hK5
    refine HT_region ?_
    refine HL_cons rfl ?_
    refine o_assign ?_
    try dsimp only [putL, setL, evL, getL]
    refine HL_nil ?_
    refine hK5 _ _ ?_
    refine HT_ret ?_
    obtain rfl := Option.some.inj (show some _ = some r from H)
    exact hQr _ _ [.bool false] ⟨rfl, trivial⟩ ⟨rfl, hH⟩
  · replace H := iteF hb4 H
    refine HT_false (congrArg Value.bool hb4) ?_
    refine HT_skip ?_
    refine hK2 _ _ ?_
    refine HT_seq_k ?_
    intro K6 hK6
    refine HT_seq_k ?_
    intro K7 hK7
    refine HT_region ?_
    refine HL_cons rfl ?_
    refine o_assign ?_
    try dsimp only [putL, setL, evL, getL]
    refine HL_nil ?_
    refine hK7 _ _ ?_
    refine joinH H fun G8 hG8 H => ?_
    refine HT_toK (fun l' s' => G8 (.go ()) = some r ∧ l' = [.slice A0p p0.length c0p, .slice A1p p1.length c1p, undef, undef, getL l' 4, getL l' 5, .slice A0p p0.length c0p, .int .i64 (p0.length : Int), .slice A1p p1.length c1p, .int .i64 (p1.length : Int), .bool ((p0.length : Int) != (p1.length : Int)), getL l' 11, getL l' 12, getL l' 13, getL l' 14, getL l' 15, getL l' 16, getL l' 17, getL l' 18, getL l' 19, getL l' 20, getL l' 21, getL l' 22, getL l' 23, getL l' 24, getL l' 25] ∧ Hp sb s F0 s' []) ?_ ?_
    · intro K8 hK8
      refine HT_block ?_
      refine HT_loopK (fun kf l' s' => ∃ (x48 : Int), (laws_eqIntS.l1 p0 p1 kf x48).bind G8 = some r ∧ l' = [.slice A0p p0.length c0p, .slice A1p p1.length c1p, undef, undef, getL l' 4, .int .i64 x48, .slice A0p p0.length c0p, .int .i64 (p0.length : Int), .slice A1p p1.length c1p, .int .i64 (p1.length : Int), .bool ((p0.length : Int) != (p1.length : Int)), getL l' 11, getL l' 12, getL l' 13, getL l' 14, getL l' 15, getL l' 16, getL l' 17, getL l' 18, getL l' 19, getL l' 20, getL l' 21, getL l' 22, getL l' 23, getL l' 24, getL l' 25] ∧ Hp sb s F0 s' []) ((((p0.length : Int)) - (0)).toNat + 2) ⟨0, H, rfl, hH⟩ ?_
      rintro kf l' s59 ⟨x48, H, hl, hH⟩ K59 hK59
      generalize getL l' 4 = j4, getL l' 11 = j11, getL l' 12 = j12, getL l' 13 = j13, getL l' 14 = j14, getL l' 15 = j15, getL l' 16 = j16, getL l' 17 = j17, getL l' 18 = j18, getL l' 19 = j19, getL l' 20 = j20, getL l' 21 = j21, getL l' 22 = j22, getL l' 23 = j23, getL l' 24 = j24, getL l' 25 = j25 at hl
      subst hl
      cases kf with
      | zero => simp [laws_eqIntS.l1] at H
      | succ kf =>
        rw [laws_eqIntS.l1] at H
        refine HT_seq_k ?_
        intro K60 hK60
        refine HT_seq_k ?_
        intro K61 hK61
        refine HT_region ?_
        refine HL_cons rfl ?_
        refine o_move ?_
        try dsimp only [putL, setL, evL, getL]
        refine HL_cons rfl ?_
        refine o_move ?_
        try dsimp only [putL, setL, evL, getL]
        refine HL_cons rfl ?_
        refine o_len rfl Try.underlying22 ?_
        try dsimp only [putL, setL, evL, getL]
        refine HL_cons rfl ?_
        refine o_bin rfl rfl rfl ?_
        try dsimp only [putL, setL, evL, getL]
        refine HL_nil ?_
        refine hK61 _ _ ?_
        rcases Bool.eq_false_or_eq_true (decide (x48 < (p0.length : Int))) with hb62 | hb62
        · replace H := iteT hb62 H
          refine HT_true (congrArg Value.bool hb62) ?_
          refine HT_skip ?_
          refine hK60 _ _ ?_
          refine HT_seq_k ?_
          intro K63 hK63
          refine HT_block ?_
          refine HT_seq_k ?_
          intro K64 hK64
          refine HK_draw (fun s' => Gro s59 s') 10 hMix ?_
          have hR := Gro.refl s59
          have hH0 := hH
          refine HK_readP 0 (v := .slice A0p p0.length c0p) rfl (by kernel_rfl) (fun c l s h => hQp c l s h) rfl (fun s' K hK => ?_) rfl rfl (fun _ => hR) ?_
          · refine o_move ?_
            exact hK
          try dsimp only [putL, setL, evL, getL]
          refine HK_readP 1 (v := .int .i64 x48) rfl (by kernel_rfl) (fun c l s h => hQp c l s h) rfl (fun s' K hK => ?_) rfl rfl (fun _ => hR) ?_
          · refine o_move ?_
            exact hK
          try dsimp only [putL, setL, evL, getL]
          obtain ⟨u65, hu65, H⟩ := headE H
          obtain ⟨b65, o65, cs65, hr65, hh65, hel65⟩ := Rd.elb HRp0 hu65
          obtain rfl := hr65
          refine HK_readP 2 (v := .pointer (some ⟨b65, o65, none⟩)) rfl (by kernel_rfl) (fun c l s h => hQp c l s h) rfl (fun s' K hK => ?_) rfl rfl (fun _ => hR) ?_
          · refine hel65 s' rfl rfl Try.underlying22 tI3 ?_
            exact hK
          try dsimp only [putL, setL, evL, getL]
          refine HK_read 3 (v := .int .i64 u65) rfl (by kernel_rfl) (fun c l s h => hQp c l s h) rfl (fun s' hR' K hK => ?_) rfl rfl hR ?_
          · refine o_load' rfl Try.underlying3 rfl ((hh65 (hH0.bs.mono.trans hR'.mono)) 0 _ rfl) ?_
            exact hK
          try dsimp only [putL, setL, evL, getL]
          refine HK_readP 4 (v := .slice A1p p1.length c1p) rfl (by kernel_rfl) (fun c l s h => hQp c l s h) rfl (fun s' K hK => ?_) rfl rfl (fun _ => hR) ?_
          · refine o_move ?_
            exact hK
          try dsimp only [putL, setL, evL, getL]
          refine HK_readP 5 (v := .int .i64 x48) rfl (by kernel_rfl) (fun c l s h => hQp c l s h) rfl (fun s' K hK => ?_) rfl rfl (fun _ => hR) ?_
          · refine o_move ?_
            exact hK
          try dsimp only [putL, setL, evL, getL]
          obtain ⟨u66, hu66, H⟩ := headE H
          obtain ⟨b66, o66, cs66, hr66, hh66, hel66⟩ := Rd.elb HRp1 hu66
          obtain rfl := hr66
          refine HK_readP 6 (v := .pointer (some ⟨b66, o66, none⟩)) rfl (by kernel_rfl) (fun c l s h => hQp c l s h) rfl (fun s' K hK => ?_) rfl rfl (fun _ => hR) ?_
          · refine hel66 s' rfl rfl Try.underlying22 tI3 ?_
            exact hK
          try dsimp only [putL, setL, evL, getL]
          refine HK_read 7 (v := .int .i64 u66) rfl (by kernel_rfl) (fun c l s h => hQp c l s h) rfl (fun s' hR' K hK => ?_) rfl rfl hR ?_
          · refine o_load' rfl Try.underlying3 rfl ((hh66 (hH0.bs.mono.trans hR'.mono)) 0 _ rfl) ?_
            exact hK
          try dsimp only [putL, setL, evL, getL]
          refine HK_readP 8 (v := .bool (u65 != u66)) rfl (by kernel_rfl) (fun c l s h => hQp c l s h) rfl (fun s' K hK => ?_) rfl rfl (fun _ => hR) ?_
          · refine o_bin rfl rfl rfl ?_
            exact hK
          try dsimp only [putL, setL, evL, getL]
          refine HK_done (fun _ => hR) (by kernel_rfl) ?_
          refine hK64 _ _ ?_
          rcases Bool.eq_false_or_eq_true (u65 != u66) with hb67 | hb67
          · replace H := iteT hb67 H
            refine HT_true (congrArg Value.bool hb67) ?_
            refine HT_seq_k ?_
            intro K68 hK68
            refine HT_region ?_
            refine HL_cons rfl ?_
            refine o_assign ?_
            try dsimp only [putL, setL, evL, getL]
            refine HL_nil ?_
            refine hK68 _ _ ?_
            refine HT_ret ?_
            replace H := escH (fun z hz => hG8 _ hz) H
            obtain rfl := Option.some.inj (show some _ = some r from H)
            exact hQr _ _ [.bool false] ⟨rfl, trivial⟩ ⟨rfl, hH⟩
          · replace H := iteF hb67 H
            refine HT_false (congrArg Value.bool hb67) ?_
            refine HT_skip ?_
            refine hK63 _ _ ?_
            refine HT_region ?_
            refine HL_cons rfl ?_
            refine o_move ?_
            try dsimp only [putL, setL, evL, getL]
            refine HL_cons rfl ?_
            refine o_bin rfl rfl rfl ?_
            try dsimp only [putL, setL, evL, getL]
            refine HL_cons rfl ?_
            refine o_assign ?_
            try dsimp only [putL, setL, evL, getL]
            refine HL_nil ?_
            exact hK59 _ _ ⟨kf, Nat.lt_succ_self kf, IntKind.i64.wrap (x48 + 1), H, rfl, hH⟩
        · replace H := iteF hb62 H
          refine HT_false (congrArg Value.bool hb62) ?_
          refine HT_exit ?_
          exact hK8 _ _ ⟨H, rfl, hH⟩
    · rintro l' s69 ⟨H, hl, hH⟩
      generalize getL l' 4 = j4, getL l' 5 = j5, getL l' 11 = j11, getL l' 12 = j12, getL l' 13 = j13, getL l' 14 = j14, getL l' 15 = j15, getL l' 16 = j16, getL l' 17 = j17, getL l' 18 = j18, getL l' 19 = j19, getL l' 20 = j20, getL l' 21 = j21, getL l' 22 = j22, getL l' 23 = j23, getL l' 24 = j24, getL l' 25 = j25 at hl
      subst hl
      replace H := hG8 _ H
      try dsimp only at H
      refine hK6 _ _ ?_
      refine HT_seq_k ?_
      intro K70 hK70
      refine HT_region ?_
      refine HL_cons rfl ?_
      refine o_assign ?_
      try dsimp only [putL, setL, evL, getL]
      refine HL_nil ?_
      refine hK70 _ _ ?_
      refine HT_ret ?_
      obtain rfl := Option.some.inj (show some _ = some r from H)
      exact hQr _ _ [.bool true] ⟨rfl, trivial⟩ ⟨rfl, hH⟩
def laws_eqScreen.f (p0_0 : Int) (p0_1 : Int) (p0_2 : List (Int)) (p0_3 : Int) (p0_4 : Int) (p1_0 : Int) (p1_1 : Int) (p1_2 : List (Int)) (p1_3 : Int) (p1_4 : Int) : Option Bool := if (p0_0 != p1_0) = true then (some false) else (if (p0_1 != p1_1) = true then (some false) else ((laws_eqIntS.f p0_2 p1_2).bind fun u14 => if (!u14) = true then (some false) else (if (p0_3 != p1_3) = true then (some false) else (if (p0_4 != p1_4) = true then (some false) else (some true)))))
def laws_eqScreen.post (sb s : St) (F0 : Fp) (r : Bool) : Value → St → Prop := fun v s' => v = .bool r ∧ Hp sb s F0 s' []
set_option maxRecDepth 100000 in
set_option maxHeartbeats 4000000 in
theorem laws_eqScreen.ok (sb s : St) (F0 : Fp) (p0_0 : Int) (p0_1 : Int) (A0_2p : Option Addr) (c0_2p : Nat) (p0_2 : List (Int)) (p0_3 : Int) (p0_4 : Int) (p1_0 : Int) (p1_1 : Int) (A1_2p : Option Addr) (c1_2p : Nat) (p1_2 : List (Int)) (p1_3 : Int) (p1_4 : Int) (HRp0_2 : Rd KI sb A0_2p c0_2p p0_2) (HRp1_2 : Rd KI sb A1_2p c1_2p p1_2) (hH : Hp sb s F0 s []) (r : Bool) (H : laws_eqScreen.f p0_0 p0_1 p0_2 p0_3 p0_4 p1_0 p1_1 p1_2 p1_3 p1_4 = some r) : GCall Try.prog 43 #[.agg #[.int .i64 p0_0, .int .i64 p0_1, .slice A0_2p p0_2.length c0_2p, .int .i64 p0_3, .int .i64 p0_4], .agg #[.int .i64 p1_0, .int .i64 p1_1, .slice A1_2p p1_2.length c1_2p, .int .i64 p1_3, .int .i64 p1_4]] s (laws_eqScreen.post sb s F0 r) := by
  refine GCall_ofk [.tmp 4] [.agg #[.int .i64 p0_0, .int .i64 p0_1, .slice A0_2p p0_2.length c0_2p, .int .i64 p0_3, .int .i64 p0_4], .agg #[.int .i64 p1_0, .int .i64 p1_1, .slice A1_2p p1_2.length c1_2p, .int .i64 p1_3, .int .i64 p1_4], undef, undef, undef, undef, undef, undef, undef, undef, undef, undef, undef, undef, undef, undef, undef, undef, undef, undef, undef, undef, undef, undef, undef, undef, undef, undef, undef, undef, undef] Try.func43 rfl rfl rfl ?_
  intro w Q hQr hQn hQp
  replace H := topE H
  unfold laws_eqScreen.f at H
  refine HT_seq_k ?_
  intro K1 hK1
  refine HT_region ?_
  refine HL_cons rfl ?_
  refine o_boxH hH rfl ?_
  intro b2 s2 hH' hG
  replace hH : Hp sb s F0 s2 [Ck.ov b2 [.int .i64 p0_0, .int .i64 p0_1, .slice A0_2p p0_2.length c0_2p, .int .i64 p0_3, .int .i64 p0_4] 55] := hH'
  clear hH' hG
  try dsimp only [putL, setL, evL, getL]
  refine HL_cons rfl ?_
  refine o_boxH hH rfl ?_
  intro b3 s3 hH' hG
  replace hH : Hp sb s F0 s3 [Ck.ov b2 [.int .i64 p0_0, .int .i64 p0_1, .slice A0_2p p0_2.length c0_2p, .int .i64 p0_3, .int .i64 p0_4] 55, Ck.ov b3 [.int .i64 p1_0, .int .i64 p1_1, .slice A1_2p p1_2.length c1_2p, .int .i64 p1_3, .int .i64 p1_4] 55] := hH'
  clear hH' hG
  try dsimp only [putL, setL, evL, getL]
  refine HL_cons rfl ?_
  refine o_assign ?_
  try dsimp only [putL, setL, evL, getL]
  refine HL_nil ?_
  refine hK1 _ _ ?_
  refine HT_seq_k ?_
  intro K4 hK4
  refine HT_seq_k ?_
  intro K5 hK5
  refine HT_region ?_
  refine HL_cons rfl ?_
  refine o_faddr' (ft := 3) (off := 0) rfl Try.underlying55 rfl tI3 (by decide) ?_
  try dsimp only [putL, setL, evL, getL]
  refine HL_cons rfl ?_
  refine o_load' rfl Try.underlying3 rfl (hH.hasv 0 rfl rfl) ?_
  try dsimp only [putL, setL, evL, getL]
  refine HL_cons rfl ?_
  refine o_faddr' (ft := 3) (off := 0) rfl Try.underlying55 rfl tI3 (by decide) ?_
  try dsimp only [putL, setL, evL, getL]
  refine HL_cons rfl ?_
  refine o_load' rfl Try.underlying3 rfl (hH.hasv 1 rfl rfl) ?_
  try dsimp only [putL, setL, evL, getL]
  refine HL_cons rfl ?_
  refine o_bin rfl rfl rfl ?_
  try dsimp only [putL, setL, evL, getL]
  refine HL_nil ?_
  refine hK5 _ _ ?_
  rcases Bool.eq_false_or_eq_true (p0_0 != p1_0) with hb6 | hb6
  · replace H := iteT hb6 H
    refine HT_true (congrArg Value.bool hb6) ?_
    refine HT_seq_k ?_
    intro K7 hK7
    refine HT_region ?_
    refine HL_cons rfl ?_
    refine o_assign ?_
    try dsimp only [putL, setL, evL, getL]
    refine HL_nil ?_
    refine hK7 _ _ ?_
    refine HT_ret ?_
    obtain rfl := Option.some.inj (show some _ = some r from H)
    exact hQr _ _ [.bool false] ⟨rfl, trivial⟩ ⟨rfl, hH.sel [] (by decide)⟩
  · replace H := iteF hb6 H
    refine HT_false (congrArg Value.bool hb6) ?_
    refine HT_skip ?_
    refine hK4 _ _ ?_
    refine HT_seq_k ?_
    intro K8 hK8
    refine HT_seq_k ?_
    intro K9 hK9
    refine HT_region ?_
    refine HL_cons rfl ?_
    refine o_faddr' (ft := 3) (off := 1) rfl Try.underlying55 rfl tI3 (by decide) ?_
    try dsimp only [putL, setL, evL, getL]
    refine HL_cons rfl ?_
    refine o_load' rfl Try.underlying3 rfl (hH.hasv 0 rfl rfl) ?_
    try dsimp only [putL, setL, evL, getL]
    refine HL_cons rfl ?_
    refine o_faddr' (ft := 3) (off := 1) rfl Try.underlying55 rfl tI3 (by decide) ?_
    try dsimp only [putL, setL, evL, getL]
    refine HL_cons rfl ?_
    refine o_load' rfl Try.underlying3 rfl (hH.hasv 1 rfl rfl) ?_
    try dsimp only [putL, setL, evL, getL]
    refine HL_cons rfl ?_
    refine o_bin rfl rfl rfl ?_
    try dsimp only [putL, setL, evL, getL]
    refine HL_nil ?_
    refine hK9 _ _ ?_
    rcases Bool.eq_false_or_eq_true (p0_1 != p1_1) with hb10 | hb10
    · replace H := iteT hb10 H
      refine HT_true (congrArg Value.bool hb10) ?_
      refine HT_seq_k ?_
      intro K11 hK11
      refine HT_region ?_
      refine HL_cons rfl ?_
      refine o_assign ?_
      try dsimp only [putL, setL, evL, getL]
      refine HL_nil ?_
      refine hK11 _ _ ?_
      refine HT_ret ?_
      obtain rfl := Option.some.inj (show some _ = some r from H)
      exact hQr _ _ [.bool false] ⟨rfl, trivial⟩ ⟨rfl, hH.sel [] (by decide)⟩
    · replace H := iteF hb10 H
      refine HT_false (congrArg Value.bool hb10) ?_
      refine HT_skip ?_
      refine hK8 _ _ ?_
      refine HT_seq_k ?_
      intro K12 hK12
      refine HT_seq_k ?_
      intro K13 hK13
      refine HT_region ?_
      refine HL_cons rfl ?_
      refine o_faddr' (ft := 22) (off := 2) rfl Try.underlying55 rfl tI22 (by decide) ?_
      try dsimp only [putL, setL, evL, getL]
      refine HL_cons rfl ?_
      refine o_load' rfl Try.underlying22 rfl (hH.hasv 0 rfl rfl) ?_
      try dsimp only [putL, setL, evL, getL]
      refine HL_cons rfl ?_
      refine o_faddr' (ft := 22) (off := 2) rfl Try.underlying55 rfl tI22 (by decide) ?_
      try dsimp only [putL, setL, evL, getL]
      refine HL_cons rfl ?_
      refine o_load' rfl Try.underlying22 rfl (hH.hasv 1 rfl rfl) ?_
      try dsimp only [putL, setL, evL, getL]
      obtain ⟨u14, hu14, H⟩ := headE H
      refine HL_cons rfl ?_
      refine o_call (args := #[.slice A0_2p p0_2.length c0_2p, .slice A1_2p p1_2.length c1_2p]) Try.func18 rfl rfl rfl (laws_eqIntS.ok sb s3 no A0_2p c0_2p p0_2 A1_2p c1_2p p1_2 HRp0_2 HRp1_2 (Hp.own hH.bs) _ hu14) ?_
      rintro _ s14 ⟨rfl, hD⟩
      replace hH := hH.back0 hD (Up.refl _ _ _)
      clear hD
      dsimp only [addC, setC, rmC, selC, getC] at hH
      try dsimp only [putL, setL, evL, getL]
      refine HL_cons rfl ?_
      refine o_not rfl ?_
      try dsimp only [putL, setL, evL, getL]
      refine HL_nil ?_
      refine hK13 _ _ ?_
      rcases Bool.eq_false_or_eq_true (!u14) with hb15 | hb15
      · replace H := iteT hb15 H
        refine HT_true (congrArg Value.bool hb15) ?_
        refine HT_seq_k ?_
        intro K16 hK16
        refine HT_region ?_
        refine HL_cons rfl ?_
        refine o_assign ?_
        try dsimp only [putL, setL, evL, getL]
        refine HL_nil ?_
        refine hK16 _ _ ?_
        refine HT_ret ?_
        obtain rfl := Option.some.inj (show some _ = some r from H)
        exact hQr _ _ [.bool false] ⟨rfl, trivial⟩ ⟨rfl, hH.sel [] (by decide)⟩
      · replace H := iteF hb15 H
        refine HT_false (congrArg Value.bool hb15) ?_
        refine HT_skip ?_
        refine hK12 _ _ ?_
        refine HT_seq_k ?_
        intro K17 hK17
        refine HT_seq_k ?_
        intro K18 hK18
        refine HT_region ?_
        refine HL_cons rfl ?_
        refine o_faddr' (ft := 3) (off := 3) rfl Try.underlying55 rfl tI3 (by decide) ?_
        try dsimp only [putL, setL, evL, getL]
        refine HL_cons rfl ?_
        refine o_load' rfl Try.underlying3 rfl (hH.hasv 0 rfl rfl) ?_
        try dsimp only [putL, setL, evL, getL]
        refine HL_cons rfl ?_
        refine o_faddr' (ft := 3) (off := 3) rfl Try.underlying55 rfl tI3 (by decide) ?_
        try dsimp only [putL, setL, evL, getL]
        refine HL_cons rfl ?_
        refine o_load' rfl Try.underlying3 rfl (hH.hasv 1 rfl rfl) ?_
        try dsimp only [putL, setL, evL, getL]
        refine HL_cons rfl ?_
        refine o_bin rfl rfl rfl ?_
        try dsimp only [putL, setL, evL, getL]
        refine HL_nil ?_
        refine hK18 _ _ ?_
        rcases Bool.eq_false_or_eq_true (p0_3 != p1_3) with hb19 | hb19
        · replace H := iteT hb19 H
          refine HT_true (congrArg Value.bool hb19) ?_
          refine HT_seq_k ?_
          intro K20 hK20
          refine HT_region ?_
          refine HL_cons rfl ?_
          refine o_assign ?_
          try dsimp only [putL, setL, evL, getL]
          refine HL_nil ?_
          refine hK20 _ _ ?_
          refine HT_ret ?_
          obtain rfl := Option.some.inj (show some _ = some r from H)
          exact hQr _ _ [.bool false] ⟨rfl, trivial⟩ ⟨rfl, hH.sel [] (by decide)⟩
        · replace H := iteF hb19 H
          refine HT_false (congrArg Value.bool hb19) ?_
          refine HT_skip ?_
          refine hK17 _ _ ?_
          refine HT_seq_k ?_
          intro K21 hK21
          refine HT_seq_k ?_
          intro K22 hK22
          refine HT_region ?_
          refine HL_cons rfl ?_
          refine o_faddr' (ft := 3) (off := 4) rfl Try.underlying55 rfl tI3 (by decide) ?_
          try dsimp only [putL, setL, evL, getL]
          refine HL_cons rfl ?_
          refine o_load' rfl Try.underlying3 rfl (hH.hasv 0 rfl rfl) ?_
          try dsimp only [putL, setL, evL, getL]
          refine HL_cons rfl ?_
          refine o_faddr' (ft := 3) (off := 4) rfl Try.underlying55 rfl tI3 (by decide) ?_
          try dsimp only [putL, setL, evL, getL]
          refine HL_cons rfl ?_
          refine o_load' rfl Try.underlying3 rfl (hH.hasv 1 rfl rfl) ?_
          try dsimp only [putL, setL, evL, getL]
          refine HL_cons rfl ?_
          refine o_bin rfl rfl rfl ?_
          try dsimp only [putL, setL, evL, getL]
          refine HL_nil ?_
          refine hK22 _ _ ?_
          rcases Bool.eq_false_or_eq_true (p0_4 != p1_4) with hb23 | hb23
          · replace H := iteT hb23 H
            refine HT_true (congrArg Value.bool hb23) ?_
            refine HT_seq_k ?_
            intro K24 hK24
            refine HT_region ?_
            refine HL_cons rfl ?_
            refine o_assign ?_
            try dsimp only [putL, setL, evL, getL]
            refine HL_nil ?_
            refine hK24 _ _ ?_
            refine HT_ret ?_
            obtain rfl := Option.some.inj (show some _ = some r from H)
            exact hQr _ _ [.bool false] ⟨rfl, trivial⟩ ⟨rfl, hH.sel [] (by decide)⟩
          · replace H := iteF hb23 H
            refine HT_false (congrArg Value.bool hb23) ?_
            refine HT_skip ?_
            refine hK21 _ _ ?_
            refine HT_seq_k ?_
            intro K25 hK25
            refine HT_region ?_
            refine HL_cons rfl ?_
            refine o_assign ?_
            try dsimp only [putL, setL, evL, getL]
            refine HL_nil ?_
            refine hK25 _ _ ?_
            refine HT_ret ?_
            obtain rfl := Option.some.inj (show some _ = some r from H)
            exact hQr _ _ [.bool true] ⟨rfl, trivial⟩ ⟨rfl, hH.sel [] (by decide)⟩
def laws_FnExactScreenText.f (p0_0 : Int) (p0_1 : Int) (p0_2 : List (Int)) (p0_3 : Int) (p0_4 : Int) : Option Bool := (laws_szScreen.f p0_0 p0_1 p0_2 p0_3 p0_4 1048576).bind fun u5 => if (decide (u5 < 0)) = true then (some true) else ((laws_toScreen.f p0_0 p0_1 p0_2 p0_3 p0_4).bind fun u11 => (spec_ScreenText.f u11.1 u11.2.1 u11.2.2.1 u11.2.2.2.1 u11.2.2.2.2).bind fun u13 => (laws_toScreen.f p0_0 p0_1 p0_2 p0_3 p0_4).bind fun u15 => (impl_ScreenText.f u15.1 u15.2.1 u15.2.2.1 u15.2.2.2.1 u15.2.2.2.2).bind fun u20 => (if (!(u20.1.toList == u13.1.toList)) = true then (some true) else (some (u20.2 != u13.2))).bind fun (o : Bool) => match o with | x32 => (if x32 = true then (some false) else ((laws_toScreen.f p0_0 p0_1 p0_2 p0_3 p0_4).bind fun u39 => (laws_eqScreen.f u15.1 u15.2.1 u15.2.2.1 u15.2.2.2.1 u15.2.2.2.2 u39.1 u39.2.1 u39.2.2.1 u39.2.2.2.1 u39.2.2.2.2).bind fun u41 => if (!u41) = true then (some false) else (some true))))
def laws_FnExactScreenText.post (sb s : St) (F0 : Fp) (r : Bool) : Value → St → Prop := fun v s' => v = .bool r ∧ Hp sb s F0 s' []
set_option maxRecDepth 100000 in
set_option maxHeartbeats 4000000 in
theorem laws_FnExactScreenText.ok (sb s : St) (F0 : Fp) (p0_0 : Int) (p0_1 : Int) (A0_2p : Option Addr) (c0_2p : Nat) (p0_2 : List (Int)) (p0_3 : Int) (p0_4 : Int) (HRp0_2 : Rd KI sb A0_2p c0_2p p0_2) (hH : Hp sb s F0 s []) (r : Bool) (H : laws_FnExactScreenText.f p0_0 p0_1 p0_2 p0_3 p0_4 = some r) : GCall Try.prog 8 #[.agg #[.int .i64 p0_0, .int .i64 p0_1, .slice A0_2p p0_2.length c0_2p, .int .i64 p0_3, .int .i64 p0_4]] s (laws_FnExactScreenText.post sb s F0 r) := by
  refine GCall_ofk [.tmp 2] [.agg #[.int .i64 p0_0, .int .i64 p0_1, .slice A0_2p p0_2.length c0_2p, .int .i64 p0_3, .int .i64 p0_4], undef, undef, undef, undef, undef, undef, undef, undef, undef, undef, undef, undef, undef, undef, undef, undef, undef, undef, undef, undef, undef, undef, undef, undef, undef, undef, undef, undef, undef, undef, undef, undef, undef, undef, undef, undef, undef, undef, undef] Try.func8 rfl rfl rfl ?_
  intro w Q hQr hQn hQp
  replace H := topE H
  unfold laws_FnExactScreenText.f at H
  refine HT_seq_k ?_
  intro K1 hK1
  refine HT_region ?_
  refine HL_cons rfl ?_
  refine o_boxH hH rfl ?_
  intro b2 s2 hH' hG
  replace hH : Hp sb s F0 s2 [Ck.ov b2 [.int .i64 p0_0, .int .i64 p0_1, .slice A0_2p p0_2.length c0_2p, .int .i64 p0_3, .int .i64 p0_4] 51] := hH'
  clear hH' hG
  try dsimp only [putL, setL, evL, getL]
  refine HL_cons rfl ?_
  refine o_assign ?_
  try dsimp only [putL, setL, evL, getL]
  refine HL_nil ?_
  refine hK1 _ _ ?_
  refine HT_seq_k ?_
  intro K3 hK3
  refine HT_region ?_
  refine HL_cons rfl ?_
  refine o_assign ?_
  try dsimp only [putL, setL, evL, getL]
  refine HL_nil ?_
  refine hK3 _ _ ?_
  refine HT_seq_k ?_
  intro K4 hK4
  refine HT_region ?_
  refine HL_cons rfl ?_
  refine o_loads' [.int .i64 p0_0, .int .i64 p0_1, .slice A0_2p p0_2.length c0_2p, .int .i64 p0_3, .int .i64 p0_4] rfl Try.underlying51 rfl tI51 rfl (hH.partv 0 rfl (0) [.int .i64 p0_0, .int .i64 p0_1, .slice A0_2p p0_2.length c0_2p, .int .i64 p0_3, .int .i64 p0_4] rfl) ?_
  try dsimp only [putL, setL, evL, getL]
  refine HL_cons rfl ?_
  refine o_move ?_
  try dsimp only [putL, setL, evL, getL]
  obtain ⟨u5, hu5, H⟩ := headE H
  refine HL_cons rfl ?_
  refine o_call (args := #[.agg #[.int .i64 p0_0, .int .i64 p0_1, .slice A0_2p p0_2.length c0_2p, .int .i64 p0_3, .int .i64 p0_4], .int .i64 1048576]) Try.func39 rfl rfl rfl (laws_szScreen.ok sb s2 no p0_0 p0_1 A0_2p c0_2p p0_2 p0_3 p0_4 1048576 HRp0_2 (Hp.own hH.bs) _ hu5) ?_
  rintro _ s5 ⟨rfl, hD⟩
  replace hH := hH.back0 hD (Up.refl _ _ _)
  clear hD
  dsimp only [addC, setC, rmC, selC, getC] at hH
  try dsimp only [putL, setL, evL, getL]
  refine HL_cons rfl ?_
  refine o_assign ?_
  try dsimp only [putL, setL, evL, getL]
  refine HL_nil ?_
  refine hK4 _ _ ?_
  refine HT_seq_k ?_
  intro K6 hK6
  refine HT_seq_k ?_
  intro K7 hK7
  refine HT_region ?_
  refine HL_cons rfl ?_
  refine o_move ?_
  try dsimp only [putL, setL, evL, getL]
  refine HL_cons rfl ?_
  refine o_bin rfl rfl rfl ?_
  try dsimp only [putL, setL, evL, getL]
  refine HL_nil ?_
  refine hK7 _ _ ?_
  rcases Bool.eq_false_or_eq_true (decide (u5 < 0)) with hb8 | hb8
  · replace H := iteT hb8 H
    refine HT_true (congrArg Value.bool hb8) ?_
    refine HT_seq_k ?_
    intro K9 hK9
    refine HT_region ?_
    refine HL_cons rfl ?_
    refine o_assign ?_
    try dsimp only [putL, setL, evL, getL]
    refine HL_nil ?_
    refine hK9 _ _ ?_
    refine HT_ret ?_
    obtain rfl := Option.some.inj (show some _ = some r from H)
    exact hQr _ _ [.bool true] ⟨rfl, trivial⟩ ⟨rfl, hH.sel [] (by decide)⟩
  · replace H := iteF hb8 H
    refine HT_false (congrArg Value.bool hb8) ?_
    refine HT_skip ?_
    refine hK6 _ _ ?_
    refine HT_seq_k ?_
    intro K10 hK10
    refine HT_region ?_
    refine HL_cons rfl ?_
    refine o_loads' [.int .i64 p0_0, .int .i64 p0_1, .slice A0_2p p0_2.length c0_2p, .int .i64 p0_3, .int .i64 p0_4] rfl Try.underlying51 rfl tI51 rfl (hH.partv 0 rfl (0) [.int .i64 p0_0, .int .i64 p0_1, .slice A0_2p p0_2.length c0_2p, .int .i64 p0_3, .int .i64 p0_4] rfl) ?_
    try dsimp only [putL, setL, evL, getL]
    obtain ⟨u11, hu11, H⟩ := headE H
    refine HL_cons rfl ?_
    refine o_call (args := #[.agg #[.int .i64 p0_0, .int .i64 p0_1, .slice A0_2p p0_2.length c0_2p, .int .i64 p0_3, .int .i64 p0_4]]) Try.func41 rfl rfl rfl (laws_toScreen.ok sb s5 no p0_0 p0_1 A0_2p c0_2p p0_2 p0_3 p0_4 HRp0_2 (Hp.own hH.bs) _ hu11) ?_
    rintro _ s11 ⟨A12, c12, rfl, hD⟩
    replace hH := hH.back0 hD (Up.refl _ _ _)
    clear hD
    dsimp only [addC, setC, rmC, selC, getC] at hH
    try dsimp only [putL, setL, evL, getL]
    obtain ⟨u13, hu13, H⟩ := headE H
    refine HL_cons rfl ?_
    refine o_call (args := #[.agg #[.int .i64 u11.1, .int .i64 u11.2.1, .slice A12 u11.2.2.1.length c12, .int .i64 u11.2.2.2.1, .int .i64 u11.2.2.2.2]]) Try.func40 rfl rfl rfl (spec_ScreenText.ok s11 s11 no u11.1 u11.2.1 A12 c12 u11.2.2.1 u11.2.2.2.1 u11.2.2.2.2 (hH.rd 1 rfl) (Hp.own (Bs.refl s11)) _ hu13) ?_
    rintro _ s13 ⟨rfl, hD⟩
    replace hH := hH.back0T hD
    clear hD
    dsimp only [addC, setC, rmC, selC, getC] at hH
    try dsimp only [putL, setL, evL, getL]
    refine HL_cons rfl ?_
    refine o_move ?_
    try dsimp only [putL, setL, evL, getL]
    refine HL_cons rfl ?_
    refine o_extract rfl rfl ?_
    try dsimp only [putL, setL, evL, getL]
    refine HL_cons rfl ?_
    refine o_extract rfl rfl ?_
    try dsimp only [putL, setL, evL, getL]
    refine HL_cons rfl ?_
    refine o_assign ?_
    try dsimp only [putL, setL, evL, getL]
    refine HL_cons rfl ?_
    refine o_assign ?_
    try dsimp only [putL, setL, evL, getL]
    refine HL_nil ?_
    refine hK10 _ _ ?_
    refine HT_seq_k ?_
    intro K14 hK14
    refine HT_region ?_
    refine HL_cons rfl ?_
    refine o_loads' [.int .i64 p0_0, .int .i64 p0_1, .slice A0_2p p0_2.length c0_2p, .int .i64 p0_3, .int .i64 p0_4] rfl Try.underlying51 rfl tI51 rfl (hH.partv 0 rfl (0) [.int .i64 p0_0, .int .i64 p0_1, .slice A0_2p p0_2.length c0_2p, .int .i64 p0_3, .int .i64 p0_4] rfl) ?_
    try dsimp only [putL, setL, evL, getL]
    obtain ⟨u15, hu15, H⟩ := headE H
    refine HL_cons rfl ?_
    refine o_call (args := #[.agg #[.int .i64 p0_0, .int .i64 p0_1, .slice A0_2p p0_2.length c0_2p, .int .i64 p0_3, .int .i64 p0_4]]) Try.func41 rfl rfl rfl (laws_toScreen.ok sb s13 no p0_0 p0_1 A0_2p c0_2p p0_2 p0_3 p0_4 HRp0_2 (Hp.own hH.bs) _ hu15) ?_
    rintro _ s15 ⟨A16, c16, rfl, hD⟩
    replace hH := hH.back0 hD (Up.refl _ _ _)
    clear hD
    dsimp only [addC, setC, rmC, selC, getC] at hH
    try dsimp only [putL, setL, evL, getL]
    refine HL_cons rfl ?_
    refine o_allocH hH tI55 ?_
    intro b17 s17 hH' hG
    replace hH : Hp sb s F0 s17 [Ck.ov b2 [.int .i64 p0_0, .int .i64 p0_1, .slice A0_2p p0_2.length c0_2p, .int .i64 p0_3, .int .i64 p0_4] 51, Ck.ol OI 3 A12 c12 u11.2.2.1, Ck.ol OI 3 A16 c16 u15.2.2.1, Ck.ov b17 [.int .i64 0, .int .i64 0, .slice none 0 0, .int .i64 0, .int .i64 0] 55] := hH'
    clear hH' hG
    try dsimp only [putL, setL, evL, getL]
    refine HL_cons rfl ?_
    refine o_stvH (vs := [.int .i64 u15.1, .int .i64 u15.2.1, .slice A16 u15.2.2.1.length c16, .int .i64 u15.2.2.2.1, .int .i64 u15.2.2.2.2]) (us' := [.int .i64 u15.1, .int .i64 u15.2.1, .slice A16 u15.2.2.1.length c16, .int .i64 u15.2.2.2.1, .int .i64 u15.2.2.2.2]) hH 3 rfl rfl rfl rfl rfl tI55 rfl (List.cons_ne_nil _ _) rfl rfl rfl ?_
    intro s18 hH'
    replace hH : Hp sb s F0 s18 [Ck.ov b2 [.int .i64 p0_0, .int .i64 p0_1, .slice A0_2p p0_2.length c0_2p, .int .i64 p0_3, .int .i64 p0_4] 51, Ck.ol OI 3 A12 c12 u11.2.2.1, Ck.ol OI 3 A16 c16 u15.2.2.1, Ck.ov b17 [.int .i64 u15.1, .int .i64 u15.2.1, .slice A16 u15.2.2.1.length c16, .int .i64 u15.2.2.2.1, .int .i64 u15.2.2.2.2] 55] := hH'
    clear hH'
    try dsimp only [putL, setL, evL, getL]
    refine HL_nil ?_
    refine hK14 _ _ ?_
    refine HT_seq_k ?_
    intro K19 hK19
    refine HT_region ?_
    refine HL_cons rfl ?_
    refine o_loads' [.int .i64 u15.1, .int .i64 u15.2.1, .slice A16 u15.2.2.1.length c16, .int .i64 u15.2.2.2.1, .int .i64 u15.2.2.2.2] rfl Try.underlying55 rfl tI55 rfl (hH.partv 3 rfl (0) [.int .i64 u15.1, .int .i64 u15.2.1, .slice A16 u15.2.2.1.length c16, .int .i64 u15.2.2.2.1, .int .i64 u15.2.2.2.2] rfl) ?_
    try dsimp only [putL, setL, evL, getL]
    obtain ⟨u20, hu20, H⟩ := headE H
    refine HL_cons rfl ?_
    refine o_call (args := #[.agg #[.int .i64 u15.1, .int .i64 u15.2.1, .slice A16 u15.2.2.1.length c16, .int .i64 u15.2.2.2.1, .int .i64 u15.2.2.2.2]]) Try.func42 rfl rfl rfl (impl_ScreenText.ok s18 s18 no u15.1 u15.2.1 A16 c16 u15.2.2.1 u15.2.2.2.1 u15.2.2.2.2 (hH.rd 2 rfl) (Hp.own (Bs.refl s18)) _ hu20) ?_
    rintro _ s20 ⟨rfl, hD⟩
    replace hH := hH.back0T hD
    clear hD
    dsimp only [addC, setC, rmC, selC, getC] at hH
    try dsimp only [putL, setL, evL, getL]
    refine HL_cons rfl ?_
    refine o_move ?_
    try dsimp only [putL, setL, evL, getL]
    refine HL_cons rfl ?_
    refine o_extract rfl rfl ?_
    try dsimp only [putL, setL, evL, getL]
    refine HL_cons rfl ?_
    refine o_extract rfl rfl ?_
    try dsimp only [putL, setL, evL, getL]
    refine HL_cons rfl ?_
    refine o_assign ?_
    try dsimp only [putL, setL, evL, getL]
    refine HL_cons rfl ?_
    refine o_assign ?_
    try dsimp only [putL, setL, evL, getL]
    refine HL_nil ?_
    refine hK19 _ _ ?_
    refine HT_seq_k ?_
    intro K29 hK29
    refine joinH H fun G30 hG30 H => ?_
    refine HT_joinK (fun l' s' => ∃ (x32 : Bool), G30 x32 = some r ∧ l' = [.agg #[.int .i64 p0_0, .int .i64 p0_1, .slice A0_2p p0_2.length c0_2p, .int .i64 p0_3, .int .i64 p0_4], .pointer (some ⟨b2, 0, none⟩), .bool false, .int .i64 u5, .string u13.1, .bool u13.2, .pointer (some ⟨b17, 0, none⟩), .string u20.1, .bool u20.2, .agg #[.int .i64 p0_0, .int .i64 p0_1, .slice A0_2p p0_2.length c0_2p, .int .i64 p0_3, .int .i64 p0_4], .int .i64 1048576, .int .i64 u5, .int .i64 u5, .bool (decide (u5 < 0)), .tuple #[.string u13.1, .bool u13.2], .agg #[.int .i64 p0_0, .int .i64 p0_1, .slice A0_2p p0_2.length c0_2p, .int .i64 p0_3, .int .i64 p0_4], .agg #[.int .i64 u11.1, .int .i64 u11.2.1, .slice A12 u11.2.2.1.length c12, .int .i64 u11.2.2.2.1, .int .i64 u11.2.2.2.2], .tuple #[.string u13.1, .bool u13.2], .string u13.1, .bool u13.2, .agg #[.int .i64 p0_0, .int .i64 p0_1, .slice A0_2p p0_2.length c0_2p, .int .i64 p0_3, .int .i64 p0_4], .agg #[.int .i64 u15.1, .int .i64 u15.2.1, .slice A16 u15.2.2.1.length c16, .int .i64 u15.2.2.2.1, .int .i64 u15.2.2.2.2], .tuple #[.string u20.1, .bool u20.2], .agg #[.int .i64 u15.1, .int .i64 u15.2.1, .slice A16 u15.2.2.1.length c16, .int .i64 u15.2.2.2.1, .int .i64 u15.2.2.2.2], .tuple #[.string u20.1, .bool u20.2], .string u20.1, .bool u20.2, getL l' 27, getL l' 28, getL l' 29, getL l' 30, getL l' 31, getL l' 32, getL l' 33, .bool x32, undef, undef, undef, undef, undef] ∧ Hp sb s F0 s' [Ck.ol OI 3 A16 c16 u15.2.2.1, Ck.ov b2 [.int .i64 p0_0, .int .i64 p0_1, .slice A0_2p p0_2.length c0_2p, .int .i64 p0_3, .int .i64 p0_4] 51, Ck.ov b17 [.int .i64 u15.1, .int .i64 u15.2.1, .slice A16 u15.2.2.1.length c16, .int .i64 u15.2.2.2.1, .int .i64 u15.2.2.2.2] 55]) ?_ ?_
    · intro K30 hK30
      refine HT_region ?_
      refine HL_cons rfl ?_
      refine o_move ?_
      try dsimp only [putL, setL, evL, getL]
      refine HL_cons rfl ?_
      refine o_move ?_
      try dsimp only [putL, setL, evL, getL]
      refine HL_cons rfl ?_
      refine o_strB rfl rfl rfl ?_
      try dsimp only [putL, setL, evL, getL]
      refine HL_cons rfl ?_
      refine o_move ?_
      try dsimp only [putL, setL, evL, getL]
      rcases Bool.eq_false_or_eq_true (!(u20.1.toList == u13.1.toList)) with hb33 | hb33
      · replace H := iteT hb33 H
        refine HL_skip ?_ ?_
        · exact wantF (j := 3) (b := false) (t := 30) (c := !(u20.1.toList == u13.1.toList)) rfl rfl rfl rfl hb33
        try dsimp only [putL, setL, evL, getL]
        refine HL_skip ?_ ?_
        · exact wantF (j := 3) (b := false) (t := 30) (c := !(u20.1.toList == u13.1.toList)) rfl rfl rfl rfl hb33
        try dsimp only [putL, setL, evL, getL]
        refine HL_skip ?_ ?_
        · exact wantF (j := 3) (b := false) (t := 30) (c := !(u20.1.toList == u13.1.toList)) rfl rfl rfl rfl hb33
        try dsimp only [putL, setL, evL, getL]
        refine HL_cons rfl ?_
        refine o_pickT rfl hb33 ?_
        try dsimp only [putL, setL, evL, getL]
        refine HL_nil ?_
        exact hK30 _ _ ⟨true, H, rfl, hH.sel [2, 0, 3] (by decide)⟩
      · replace H := iteF hb33 H
        refine HL_want ?_ ?_
        · exact wantT (j := 3) (b := false) (t := 30) (c := !(u20.1.toList == u13.1.toList)) rfl rfl rfl rfl hb33
        refine o_move ?_
        try dsimp only [putL, setL, evL, getL]
        refine HL_want ?_ ?_
        · exact wantT (j := 3) (b := false) (t := 30) (c := !(u20.1.toList == u13.1.toList)) rfl rfl rfl rfl hb33
        refine o_move ?_
        try dsimp only [putL, setL, evL, getL]
        refine HL_want ?_ ?_
        · exact wantT (j := 3) (b := false) (t := 30) (c := !(u20.1.toList == u13.1.toList)) rfl rfl rfl rfl hb33
        refine o_neb rfl rfl Try.underlying4 ?_
        try dsimp only [putL, setL, evL, getL]
        refine HL_cons rfl ?_
        refine o_pickF rfl hb33 ?_
        try dsimp only [putL, setL, evL, getL]
        refine HL_nil ?_
        exact hK30 _ _ ⟨u20.2 != u13.2, H, rfl, hH.sel [2, 0, 3] (by decide)⟩
    · rintro l' s34 ⟨x32, H, hl, hH⟩
      generalize getL l' 27 = j27, getL l' 28 = j28, getL l' 29 = j29, getL l' 30 = j30, getL l' 31 = j31, getL l' 32 = j32, getL l' 33 = j33 at hl
      subst hl
      replace H := hG30 _ H
      try dsimp only at H
      rcases Bool.eq_false_or_eq_true x32 with hb35 | hb35
      · replace H := iteT hb35 H
        refine HT_true (congrArg Value.bool hb35) ?_
        refine HT_seq_k ?_
        intro K36 hK36
        refine HT_region ?_
        refine HL_cons rfl ?_
        refine o_assign ?_
        try dsimp only [putL, setL, evL, getL]
        refine HL_nil ?_
        refine hK36 _ _ ?_
        refine HT_ret ?_
        obtain rfl := Option.some.inj (show some _ = some r from H)
        exact hQr _ _ [.bool false] ⟨rfl, trivial⟩ ⟨rfl, hH.sel [] (by decide)⟩
      · replace H := iteF hb35 H
        refine HT_false (congrArg Value.bool hb35) ?_
        refine HT_skip ?_
        refine hK29 _ _ ?_
        refine HT_seq_k ?_
        intro K37 hK37
        refine HT_seq_k ?_
        intro K38 hK38
        refine HK_draw (fun s' => Gro s34 s') 6 hMix ?_
        have hR := Gro.refl s34
        have hH0 := hH
        refine HK_read 0 (v := .agg #[.int .i64 u15.1, .int .i64 u15.2.1, .slice A16 u15.2.2.1.length c16, .int .i64 u15.2.2.2.1, .int .i64 u15.2.2.2.2]) rfl (by kernel_rfl) (fun c l s h => hQp c l s h) rfl (fun s' hR' K hK => ?_) rfl rfl hR ?_
        · refine o_loads' [.int .i64 u15.1, .int .i64 u15.2.1, .slice A16 u15.2.2.1.length c16, .int .i64 u15.2.2.2.1, .int .i64 u15.2.2.2.2] rfl Try.underlying55 rfl tI55 rfl (fun j v hj => has_gro hR' ((hH0.partv 2 rfl (0) [.int .i64 u15.1, .int .i64 u15.2.1, .slice A16 u15.2.2.1.length c16, .int .i64 u15.2.2.2.1, .int .i64 u15.2.2.2.2] rfl) j v hj)) ?_
          exact hK
        try dsimp only [putL, setL, evL, getL]
        refine HK_read 1 (v := .agg #[.int .i64 p0_0, .int .i64 p0_1, .slice A0_2p p0_2.length c0_2p, .int .i64 p0_3, .int .i64 p0_4]) rfl (by kernel_rfl) (fun c l s h => hQp c l s h) rfl (fun s' hR' K hK => ?_) rfl rfl hR ?_
        · refine o_loads' [.int .i64 p0_0, .int .i64 p0_1, .slice A0_2p p0_2.length c0_2p, .int .i64 p0_3, .int .i64 p0_4] rfl Try.underlying51 rfl tI51 rfl (fun j v hj => has_gro hR' ((hH0.partv 1 rfl (0) [.int .i64 p0_0, .int .i64 p0_1, .slice A0_2p p0_2.length c0_2p, .int .i64 p0_3, .int .i64 p0_4] rfl) j v hj)) ?_
          exact hK
        try dsimp only [putL, setL, evL, getL]
        obtain ⟨u39, hu39, H⟩ := headE H
        refine HK_one 2 (by kernel_rfl) rfl (fun _ => hR) rfl ?_
        refine o_call (args := #[.agg #[.int .i64 p0_0, .int .i64 p0_1, .slice A0_2p p0_2.length c0_2p, .int .i64 p0_3, .int .i64 p0_4]]) Try.func41 rfl rfl rfl (laws_toScreen.ok sb s34 no p0_0 p0_1 A0_2p c0_2p p0_2 p0_3 p0_4 HRp0_2 (Hp.own hH.bs) _ hu39) ?_
        rintro _ s39 ⟨A40, c40, rfl, hD⟩
        replace hR := hR.trans hD.gro
        replace hH := hH.back0 hD (Up.refl _ _ _)
        clear hD
        dsimp only [addC, setC, rmC, selC, getC] at hH
        try dsimp only [putL, setL, evL, getL]
        obtain ⟨u41, hu41, H⟩ := headE H
        refine HK_one 3 (by kernel_rfl) rfl (fun _ => hR) rfl ?_
        refine o_call (args := #[.agg #[.int .i64 u15.1, .int .i64 u15.2.1, .slice A16 u15.2.2.1.length c16, .int .i64 u15.2.2.2.1, .int .i64 u15.2.2.2.2], .agg #[.int .i64 u39.1, .int .i64 u39.2.1, .slice A40 u39.2.2.1.length c40, .int .i64 u39.2.2.2.1, .int .i64 u39.2.2.2.2]]) Try.func43 rfl rfl rfl (laws_eqScreen.ok s39 s39 no u15.1 u15.2.1 A16 c16 u15.2.2.1 u15.2.2.2.1 u15.2.2.2.2 u39.1 u39.2.1 A40 c40 u39.2.2.1 u39.2.2.2.1 u39.2.2.2.2 (hH.rd 0 rfl) (hH.rd 3 rfl) (Hp.own (Bs.refl s39)) _ hu41) ?_
        rintro _ s41 ⟨rfl, hD⟩
        replace hR := hR.trans hD.gro
        replace hH := hH.back0T hD
        clear hD
        dsimp only [addC, setC, rmC, selC, getC] at hH
        try dsimp only [putL, setL, evL, getL]
        refine HK_readP 4 (v := .bool (!u41)) rfl (by kernel_rfl) (fun c l s h => hQp c l s h) rfl (fun s' K hK => ?_) rfl rfl (fun _ => hR) ?_
        · refine o_not rfl ?_
          exact hK
        try dsimp only [putL, setL, evL, getL]
        refine HK_done (fun _ => hR) (by kernel_rfl) ?_
        refine hK38 _ _ ?_
        rcases Bool.eq_false_or_eq_true (!u41) with hb42 | hb42
        · replace H := iteT hb42 H
          refine HT_true (congrArg Value.bool hb42) ?_
          refine HT_seq_k ?_
          intro K43 hK43
          refine HT_region ?_
          refine HL_cons rfl ?_
          refine o_assign ?_
          try dsimp only [putL, setL, evL, getL]
          refine HL_nil ?_
          refine hK43 _ _ ?_
          refine HT_ret ?_
          obtain rfl := Option.some.inj (show some _ = some r from H)
          exact hQr _ _ [.bool false] ⟨rfl, trivial⟩ ⟨rfl, hH.sel [] (by decide)⟩
        · replace H := iteF hb42 H
          refine HT_false (congrArg Value.bool hb42) ?_
          refine HT_skip ?_
          refine hK37 _ _ ?_
          refine HT_seq_k ?_
          intro K44 hK44
          refine HT_region ?_
          refine HL_cons rfl ?_
          refine o_assign ?_
          try dsimp only [putL, setL, evL, getL]
          refine HL_nil ?_
          refine hK44 _ _ ?_
          refine HT_ret ?_
          obtain rfl := Option.some.inj (show some _ = some r from H)
          exact hQr _ _ [.bool true] ⟨rfl, trivial⟩ ⟨rfl, hH.sel [] (by decide)⟩
end Go.Proofs.Ytopecknfnhocpaa
