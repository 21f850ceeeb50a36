/- The functions that the law reaches, as plain functions, each with its contract: printed by a program of the prover's. No conditions: lemmas. -/
import Derived.Test.YtopecknfnhocpaaWApplyDiff0
set_option linter.unusedVariables false
set_option linter.unusedSimpArgs false
namespace Go.Proofs.Ytopecknfnhocpaa
open Go Go.Proofs.GL
def slices_Equal_int_int.l1 (p0 : List (Int)) (p1 : List (Int)) : Nat → Int → Option (Lo Unit Bool)
  | 0, _ => none
  | kf + 1, x52 => if (decide (x52 < (p0.length : Int))) = true then ((rd? p0 x52).bind fun u71 => (rd? p1 x52).bind fun u72 => if (u71 != u72) = true then ((some false).bind fun z => some (Lo.ret z)) else (slices_Equal_int_int.l1 p0 p1 kf (IntKind.i64.wrap (x52 + 1)))) else (some (Lo.go ()))
def slices_Equal_int_int.f (p0 : List (Int)) (p1 : List (Int)) : Option Bool := if ((p0.length : Int) != (p1.length : Int)) = true then (some false) else ((slices_Equal_int_int.l1 p0 p1 ((((p0.length : Int)) - (0)).toNat + 2) 0).bind fun (o : Lo Unit Bool) => match o with | .go () => (some true) | .ret z => some z)
def slices_Equal_int_int.post (sb s : St) (F0 : Fp) (r : Bool) : Value → St → Prop := fun v s' => v = .bool r ∧ Hp sb s F0 s' []
set_option maxRecDepth 100000 in
set_option maxHeartbeats 4000000 in
theorem slices_Equal_int_int.ok (sb s : St) (F0 : Fp) (A0p : Option Addr) (c0p : Nat) (p0 : List (Int)) (A1p : Option Addr) (c1p : Nat) (p1 : List (Int)) (HRp0 : Rd KI sb A0p c0p p0) (HRp1 : Rd KI sb A1p c1p p1) (hH : Hp sb s F0 s []) (r : Bool) (H : slices_Equal_int_int.f p0 p1 = some r) : GCall Try.prog 100 #[.slice A0p p0.length c0p, .slice A1p p1.length c1p] s (slices_Equal_int_int.post sb s F0 r) := by
  refine GCall_ofk [.tmp 4] [.slice A0p p0.length c0p, .slice A1p p1.length c1p, undef, undef, undef, undef, undef, undef, undef, undef, undef, undef, undef, undef, undef, undef, undef, undef, undef, undef, undef, undef, undef, undef, undef, undef] Try.func100 rfl rfl rfl ?_
  intro w Q hQr hQn hQp
  replace H := topE H
  unfold slices_Equal_int_int.f at H
  refine HT_seq_k ?_
  intro K1 hK1
  refine HT_region ?_
  refine HL_cons rfl ?_
  refine o_assign ?_
  try dsimp only [putL, setL, evL, getL]
  refine HL_nil ?_
  refine hK1 _ _ ?_
  refine HT_seq_k ?_
  intro K2 hK2
  refine HT_seq_k ?_
  intro K3 hK3
  refine HT_region ?_
  refine HL_cons rfl ?_
  refine o_move ?_
  try dsimp only [putL, setL, evL, getL]
  refine HL_cons rfl ?_
  refine o_len rfl Try.underlying22 ?_
  try dsimp only [putL, setL, evL, getL]
  refine HL_cons rfl ?_
  refine o_move ?_
  try dsimp only [putL, setL, evL, getL]
  refine HL_cons rfl ?_
  refine o_len rfl Try.underlying22 ?_
  try dsimp only [putL, setL, evL, getL]
  refine HL_cons rfl ?_
  refine o_bin rfl rfl rfl ?_
  try dsimp only [putL, setL, evL, getL]
  refine HL_nil ?_
  refine hK3 _ _ ?_
  rcases Bool.eq_false_or_eq_true ((p0.length : Int) != (p1.length : Int)) with hb4 | hb4
  · replace H := iteT hb4 H
    refine HT_true (congrArg Value.bool hb4) ?_
    refine HT_seq_k ?_
    intro K5 hK5
    refine HT_region ?_
    refine HL_cons rfl ?_
    refine o_assign ?_
    try dsimp only [putL, setL, evL, getL]
    refine HL_nil ?_
    refine hK5 _ _ ?_
    refine HT_ret ?_
    obtain rfl := Option.some.inj (show some _ = some r from H)
    exact hQr _ _ [.bool false] ⟨rfl, trivial⟩ ⟨rfl, hH⟩
  · replace H := iteF hb4 H
    refine HT_false (congrArg Value.bool hb4) ?_
    refine HT_skip ?_
    refine hK2 _ _ ?_
    refine HT_seq_k ?_
    intro K6 hK6
    refine HT_seq_k ?_
    intro K7 hK7
    refine HT_region ?_
    refine HL_cons rfl ?_
    refine o_move ?_
    try dsimp only [putL, setL, evL, getL]
    refine HL_cons rfl ?_
    refine o_len rfl Try.underlying22 ?_
    try dsimp only [putL, setL, evL, getL]
    refine HL_cons rfl ?_
    refine o_move ?_
    try dsimp only [putL, setL, evL, getL]
    refine HL_nil ?_
    refine hK7 _ _ ?_
    refine joinH H fun G8 hG8 H => ?_
    refine HT_toK (fun l' s' => G8 (.go ()) = some r ∧ l' = [.slice A0p p0.length c0p, .slice A1p p1.length c1p, undef, undef, getL l' 4, getL l' 5, .slice A0p p0.length c0p, .int .i64 (p0.length : Int), .slice A1p p1.length c1p, .int .i64 (p1.length : Int), .bool ((p0.length : Int) != (p1.length : Int)), .slice A0p p0.length c0p, .int .i64 (p0.length : Int), getL l' 13, getL l' 14, getL l' 15, getL l' 16, getL l' 17, getL l' 18, getL l' 19, getL l' 20, getL l' 21, getL l' 22, getL l' 23, getL l' 24, getL l' 25] ∧ Hp sb s F0 s' []) ?_ ?_
    · intro K8 hK8
      refine HT_block ?_
      refine HT_loopK (fun kf l' s' => ∃ (x52 : Int), (slices_Equal_int_int.l1 p0 p1 kf x52).bind G8 = some r ∧ l' = [.slice A0p p0.length c0p, .slice A1p p1.length c1p, undef, undef, getL l' 4, getL l' 5, .slice A0p p0.length c0p, .int .i64 (p0.length : Int), .slice A1p p1.length c1p, .int .i64 (p1.length : Int), .bool ((p0.length : Int) != (p1.length : Int)), .slice A0p p0.length c0p, .int .i64 (p0.length : Int), .int .i64 x52, getL l' 14, getL l' 15, getL l' 16, getL l' 17, getL l' 18, getL l' 19, getL l' 20, getL l' 21, getL l' 22, getL l' 23, getL l' 24, getL l' 25] ∧ Hp sb s F0 s' []) ((((p0.length : Int)) - (0)).toNat + 2) ⟨0, H, rfl, hH⟩ ?_
      rintro kf l' s64 ⟨x52, H, hl, hH⟩ K64 hK64
      generalize getL l' 4 = j4, getL l' 5 = j5, getL l' 14 = j14, getL l' 15 = j15, getL l' 16 = j16, getL l' 17 = j17, getL l' 18 = j18, getL l' 19 = j19, getL l' 20 = j20, getL l' 21 = j21, getL l' 22 = j22, getL l' 23 = j23, getL l' 24 = j24, getL l' 25 = j25 at hl
      subst hl
      cases kf with
      | zero => simp [slices_Equal_int_int.l1] at H
      | succ kf =>
        rw [slices_Equal_int_int.l1] at H
        refine HT_seq_k ?_
        intro K65 hK65
        refine HT_region ?_
        refine HL_cons rfl ?_
        refine o_bin rfl rfl rfl ?_
        try dsimp only [putL, setL, evL, getL]
        refine HL_nil ?_
        refine hK65 _ _ ?_
        refine HT_seq_k ?_
        intro K66 hK66
        rcases Bool.eq_false_or_eq_true (decide (x52 < (p0.length : Int))) with hb67 | hb67
        · replace H := iteT hb67 H
          refine HT_true (congrArg Value.bool hb67) ?_
          refine HT_skip ?_
          refine hK66 _ _ ?_
          refine HT_seq_k ?_
          intro K68 hK68
          refine HT_block ?_
          refine HT_seq_k ?_
          intro K69 hK69
          refine HT_region ?_
          refine HL_cons rfl ?_
          refine o_move ?_
          try dsimp only [putL, setL, evL, getL]
          refine HL_cons rfl ?_
          refine o_assign ?_
          try dsimp only [putL, setL, evL, getL]
          refine HL_nil ?_
          refine hK69 _ _ ?_
          refine HT_seq_k ?_
          intro K70 hK70
          refine HK_draw (fun s' => Gro s64 s') 10 hMix ?_
          have hR := Gro.refl s64
          have hH0 := hH
          refine HK_readP 0 (v := .slice A0p p0.length c0p) rfl (by kernel_rfl) (fun c l s h => hQp c l s h) rfl (fun s' K hK => ?_) rfl rfl (fun _ => hR) ?_
          · refine o_move ?_
            exact hK
          try dsimp only [putL, setL, evL, getL]
          refine HK_readP 1 (v := .int .i64 x52) rfl (by kernel_rfl) (fun c l s h => hQp c l s h) rfl (fun s' K hK => ?_) rfl rfl (fun _ => hR) ?_
          · refine o_move ?_
            exact hK
          try dsimp only [putL, setL, evL, getL]
          obtain ⟨u71, hu71, H⟩ := headE H
          obtain ⟨b71, o71, cs71, hr71, hh71, hel71⟩ := Rd.elb HRp0 hu71
          obtain rfl := hr71
          refine HK_readP 2 (v := .pointer (some ⟨b71, o71, none⟩)) rfl (by kernel_rfl) (fun c l s h => hQp c l s h) rfl (fun s' K hK => ?_) rfl rfl (fun _ => hR) ?_
          · refine hel71 s' rfl rfl Try.underlying22 tI3 ?_
            exact hK
          try dsimp only [putL, setL, evL, getL]
          refine HK_read 3 (v := .int .i64 u71) rfl (by kernel_rfl) (fun c l s h => hQp c l s h) rfl (fun s' hR' K hK => ?_) rfl rfl hR ?_
          · refine o_load' rfl Try.underlying3 rfl ((hh71 (hH0.bs.mono.trans hR'.mono)) 0 _ rfl) ?_
            exact hK
          try dsimp only [putL, setL, evL, getL]
          refine HK_readP 4 (v := .slice A1p p1.length c1p) rfl (by kernel_rfl) (fun c l s h => hQp c l s h) rfl (fun s' K hK => ?_) rfl rfl (fun _ => hR) ?_
          · refine o_move ?_
            exact hK
          try dsimp only [putL, setL, evL, getL]
          refine HK_readP 5 (v := .int .i64 x52) rfl (by kernel_rfl) (fun c l s h => hQp c l s h) rfl (fun s' K hK => ?_) rfl rfl (fun _ => hR) ?_
          · refine o_move ?_
            exact hK
          try dsimp only [putL, setL, evL, getL]
          obtain ⟨u72, hu72, H⟩ := headE H
          obtain ⟨b72, o72, cs72, hr72, hh72, hel72⟩ := Rd.elb HRp1 hu72
          obtain rfl := hr72
          refine HK_readP 6 (v := .pointer (some ⟨b72, o72, none⟩)) rfl (by kernel_rfl) (fun c l s h => hQp c l s h) rfl (fun s' K hK => ?_) rfl rfl (fun _ => hR) ?_
          · refine hel72 s' rfl rfl Try.underlying22 tI3 ?_
            exact hK
          try dsimp only [putL, setL, evL, getL]
          refine HK_read 7 (v := .int .i64 u72) rfl (by kernel_rfl) (fun c l s h => hQp c l s h) rfl (fun s' hR' K hK => ?_) rfl rfl hR ?_
          · refine o_load' rfl Try.underlying3 rfl ((hh72 (hH0.bs.mono.trans hR'.mono)) 0 _ rfl) ?_
            exact hK
          try dsimp only [putL, setL, evL, getL]
          refine HK_readP 8 (v := .bool (u71 != u72)) rfl (by kernel_rfl) (fun c l s h => hQp c l s h) rfl (fun s' K hK => ?_) rfl rfl (fun _ => hR) ?_
          · refine o_bin rfl rfl rfl ?_
            exact hK
          try dsimp only [putL, setL, evL, getL]
          refine HK_done (fun _ => hR) (by kernel_rfl) ?_
          refine hK70 _ _ ?_
          rcases Bool.eq_false_or_eq_true (u71 != u72) with hb73 | hb73
          · replace H := iteT hb73 H
            refine HT_true (congrArg Value.bool hb73) ?_
            refine HT_seq_k ?_
            intro K74 hK74
            refine HT_region ?_
            refine HL_cons rfl ?_
            refine o_assign ?_
            try dsimp only [putL, setL, evL, getL]
            refine HL_nil ?_
            refine hK74 _ _ ?_
            refine HT_ret ?_
            replace H := escH (fun z hz => hG8 _ hz) H
            obtain rfl := Option.some.inj (show some _ = some r from H)
            exact hQr _ _ [.bool false] ⟨rfl, trivial⟩ ⟨rfl, hH⟩
          · replace H := iteF hb73 H
            refine HT_false (congrArg Value.bool hb73) ?_
            refine HT_skip ?_
            refine hK68 _ _ ?_
            refine HT_region ?_
            refine HL_cons rfl ?_
            refine o_bin rfl rfl rfl ?_
            try dsimp only [putL, setL, evL, getL]
            refine HL_cons rfl ?_
            refine o_move ?_
            try dsimp only [putL, setL, evL, getL]
            refine HL_nil ?_
            exact hK64 _ _ ⟨kf, Nat.lt_succ_self kf, IntKind.i64.wrap (x52 + 1), H, rfl, hH⟩
        · replace H := iteF hb67 H
          refine HT_false (congrArg Value.bool hb67) ?_
          refine HT_exit ?_
          exact hK8 _ _ ⟨H, rfl, hH⟩
    · rintro l' s75 ⟨H, hl, hH⟩
      generalize getL l' 4 = j4, getL l' 5 = j5, getL l' 13 = j13, getL l' 14 = j14, getL l' 15 = j15, getL l' 16 = j16, getL l' 17 = j17, getL l' 18 = j18, getL l' 19 = j19, getL l' 20 = j20, getL l' 21 = j21, getL l' 22 = j22, getL l' 23 = j23, getL l' 24 = j24, getL l' 25 = j25 at hl
      subst hl
      replace H := hG8 _ H
      try dsimp only at H
      refine hK6 _ _ ?_
      refine HT_seq_k ?_
      intro K76 hK76
      refine HT_region ?_
      refine HL_cons rfl ?_
      refine o_assign ?_
      try dsimp only [putL, setL, evL, getL]
      refine HL_nil ?_
      refine hK76 _ _ ?_
      refine HT_ret ?_
      obtain rfl := Option.some.inj (show some _ = some r from H)
      exact hQr _ _ [.bool true] ⟨rfl, trivial⟩ ⟨rfl, hH⟩
def impl_ApplyDiff.l1 (p1 : List ((Int) × (List (Int)))) : Nat → (List (Int)) → (List (Int)) → Int → Option (Lo ((List (Int)) × (List (Int))) ((List (Int)) × Bool))
  | 0, _, _, _ => none
  | kf + 1, x592, x593, x594 => if (decide (x594 < (p1.length : Int))) = true then (((rd? p1 x594).bind fun u808 => (if (u808.1 != 3) = true then ((if (decide ((x593.length : Int) < (u808.2.length : Int))) = true then (some true) else ((cut? x593 0 (u808.2.length : Int)).bind fun x862 => (slices_Equal_int_int.f x862 u808.2).bind fun u863 => some (!u863))).bind fun (o : Bool) => match o with | x860 => (if x860 = true then ((((some ([], false)).bind fun z => some (Lo.ret z)).bind fun z => some (Lo.ret z)).bind fun z => some (Lo.ret z)) else ((cut? x593 (u808.2.length : Int) (x593.length : Int)).bind fun x867 => some (Lo.go x867)))) else (some (Lo.go x593))).bind fun (o : Lo (List (Int)) (Lo ((List (Int)) × (List (Int))) (Lo ((List (Int)) × (List (Int))) ((List (Int)) × Bool)))) => match o with | .go x840 => (if (u808.1 != 2) = true then ((app? 17592186044416 x592 u808.2).bind fun x871 => some (Lo.go (x871, x840))) else (some (Lo.go (x592, x840)))) | .ret z => some z).bind fun (o : Lo ((List (Int)) × (List (Int))) (Lo ((List (Int)) × (List (Int))) ((List (Int)) × Bool))) => match o with | .go (x805, x806) => (impl_ApplyDiff.l1 p1 kf x805 x806 (IntKind.i64.wrap (x594 + 1))) | .ret z => some z) else (some (Lo.go (x592, x593)))
def impl_ApplyDiff.f (p0 : List (Int)) (p1 : List ((Int) × (List (Int)))) : Option ((List (Int)) × Bool) := ((impl_areShort.f [p0]).bind fun u24 => if (!u24) = true then (some true) else ((impl_areEdits.f p1).bind fun u26 => some (!u26))).bind fun (o : Bool) => match o with | x22 => (if x22 = true then (some ([], false)) else ((impl_ApplyDiff.l1 p1 ((((p1.length : Int)) - (0)).toNat + 2) ([] : List (Int)) p0 0).bind fun (o : Lo ((List (Int)) × (List (Int))) ((List (Int)) × Bool)) => match o with | .go (x453, x454) => ((if (decide ((x454.length : Int) > 0)) = true then (some true) else (some (decide ((x453.length : Int) > 60)))).bind fun (o : Bool) => match o with | x885 => (if x885 = true then (some ([], false)) else (some (x453, true)))) | .ret z => some z))
def impl_ApplyDiff.post (sb s : St) (F0 : Fp) (r : (List (Int)) × Bool) : Value → St → Prop := fun v s' => ∃ (A0 : Option Addr) (c0 : Nat), v = .tuple #[.slice A0 r.1.length c0, .bool r.2] ∧ Hp sb s F0 s' [Ck.ol OI 3 A0 c0 r.1]
set_option maxRecDepth 100000 in
set_option maxHeartbeats 4000000 in
theorem impl_ApplyDiff.ok (sb s : St) (F0 : Fp) (A0p : Option Addr) (c0p : Nat) (p0 : List (Int)) (A1p : Option Addr) (c1p : Nat) (p1 : List ((Int) × (List (Int)))) (HRp0 : Rd KI sb A0p c0p p0) (HRp1 : Rd KS99 sb A1p c1p p1) (hH : Hp sb s F0 s []) (r : (List (Int)) × Bool) (H : impl_ApplyDiff.f p0 p1 = some r) : GCall Try.prog 38 #[.slice A0p p0.length c0p, .slice A1p p1.length c1p] s (impl_ApplyDiff.post sb s F0 r) := by
  refine GCall_ofk [.tmp 4, .tmp 5] [.slice A0p p0.length c0p, .slice A1p p1.length c1p, undef, undef, undef, undef, undef, undef, undef, undef, undef, undef, undef, undef, undef, undef, undef, undef, undef, undef, undef, undef, undef, undef, undef, undef, undef, undef, undef, undef, undef, undef, undef, undef, undef, undef, undef, undef, undef, undef, undef, undef, undef, undef, undef, undef, undef, undef, undef, undef, undef, undef, undef, undef, undef, undef, undef, undef, undef, undef, undef, undef, undef, undef, undef, undef, undef, undef, undef] Try.func38 rfl rfl rfl ?_
  intro w Q hQr hQn hQp
  replace H := topE H
  unfold impl_ApplyDiff.f at H
  refine HT_seq_k ?_
  intro K1 hK1
  refine HT_region ?_
  refine HL_cons rfl ?_
  refine o_assign ?_
  try dsimp only [putL, setL, evL, getL]
  refine HL_cons rfl ?_
  refine o_assign ?_
  try dsimp only [putL, setL, evL, getL]
  refine HL_nil ?_
  refine hK1 _ _ ?_
  refine HT_seq_k ?_
  intro K16 hK16
  refine joinH H fun G17 hG17 H => ?_
  refine HT_joinK (fun l' s' => ∃ (x22 : Bool), G17 x22 = some r ∧ l' = [.slice A0p p0.length c0p, .slice A1p p1.length c1p, undef, undef, .slice none 0 0, .bool false, undef, undef, undef, undef, getL l' 10, getL l' 11, getL l' 12, getL l' 13, getL l' 14, getL l' 15, getL l' 16, getL l' 17, .bool x22, undef, undef, undef, undef, undef, undef, undef, undef, undef, undef, undef, undef, undef, undef, undef, undef, undef, undef, undef, undef, undef, undef, undef, undef, undef, undef, undef, undef, undef, undef, undef, undef, undef, undef, undef, undef, undef, undef, undef, undef, undef, undef, undef, undef, undef, undef, undef, undef, undef, undef] ∧ Hp sb s F0 s' []) ?_ ?_
  · intro K17 hK17
    refine HT_region ?_
    refine HL_cons rfl ?_
    refine o_move ?_
    try dsimp only [putL, setL, evL, getL]
    refine HL_cons rfl ?_
    refine o_litF (K := (Kd.sl KI)) (O := (Ow.lent (Kd.sl KI))) (ca := #[.slice A0p p0.length c0p]) [[.slice A0p p0.length c0p]] [p0] hH Try.underlying148 tI22 rfl (by decide) rfl rfl rfl rfl ⟨rfl, Ent.own (Ent.lent ⟨_, _, rfl, HRp0⟩), trivial⟩ ?_
    intro A23 s23 hH' hG
    replace hH : Hp sb s F0 s23 [Ck.ol (Ow.lent (Kd.sl KI)) 22 A23 1 [p0]] := hH'
    clear hH' hG
    try dsimp only [putL, setL, evL, getL]
    obtain ⟨u24, hu24, H⟩ := headE H
    refine HL_cons rfl ?_
    refine o_call (args := #[.slice A23 [p0].length 1]) Try.func80 rfl rfl rfl (impl_areShort.ok s23 s23 no A23 1 [p0] (hH.rd 0 rfl) (Hp.own (Bs.refl s23)) _ hu24) ?_
    rintro _ s24 ⟨rfl, hD⟩
    replace hH := hH.back0T hD
    clear hD
    dsimp only [addC, setC, rmC, selC, getC] at hH
    try dsimp only [putL, setL, evL, getL]
    refine HL_cons rfl ?_
    refine o_not rfl ?_
    try dsimp only [putL, setL, evL, getL]
    refine HL_cons rfl ?_
    refine o_move ?_
    try dsimp only [putL, setL, evL, getL]
    rcases Bool.eq_false_or_eq_true (!u24) with hb25 | hb25
    · replace H := iteT hb25 H
      refine HL_skip ?_ ?_
      · exact wantF (j := 4) (b := false) (t := 14) (c := !u24) rfl rfl rfl rfl hb25
      try dsimp only [putL, setL, evL, getL]
      refine HL_skip ?_ ?_
      · exact wantF (j := 4) (b := false) (t := 14) (c := !u24) rfl rfl rfl rfl hb25
      try dsimp only [putL, setL, evL, getL]
      refine HL_skip ?_ ?_
      · exact wantF (j := 4) (b := false) (t := 14) (c := !u24) rfl rfl rfl rfl hb25
      try dsimp only [putL, setL, evL, getL]
      refine HL_cons rfl ?_
      refine o_pickT rfl hb25 ?_
      try dsimp only [putL, setL, evL, getL]
      refine HL_nil ?_
      exact hK17 _ _ ⟨true, H, rfl, hH.sel [] (by decide)⟩
    · replace H := iteF hb25 H
      refine HL_want ?_ ?_
      · exact wantT (j := 4) (b := false) (t := 14) (c := !u24) rfl rfl rfl rfl hb25
      refine o_move ?_
      try dsimp only [putL, setL, evL, getL]
      obtain ⟨u26, hu26, H⟩ := headE H
      refine HL_want ?_ ?_
      · exact wantT (j := 4) (b := false) (t := 14) (c := !u24) rfl rfl rfl rfl hb25
      refine o_call (args := #[.slice A1p p1.length c1p]) Try.func93 rfl rfl rfl (impl_areEdits.ok sb s24 no A1p c1p p1 HRp1 (Hp.own hH.bs) _ hu26) ?_
      rintro _ s26 ⟨rfl, hD⟩
      replace hH := hH.back0 hD (Up.refl _ _ _)
      clear hD
      dsimp only [addC, setC, rmC, selC, getC] at hH
      try dsimp only [putL, setL, evL, getL]
      refine HL_want ?_ ?_
      · exact wantT (j := 4) (b := false) (t := 14) (c := !u24) rfl rfl rfl rfl hb25
      refine o_not rfl ?_
      try dsimp only [putL, setL, evL, getL]
      refine HL_cons rfl ?_
      refine o_pickF rfl hb25 ?_
      try dsimp only [putL, setL, evL, getL]
      refine HL_nil ?_
      exact hK17 _ _ ⟨!u26, H, rfl, hH.sel [] (by decide)⟩
  · rintro l' s27 ⟨x22, H, hl, hH⟩
    generalize getL l' 10 = j10, getL l' 11 = j11, getL l' 12 = j12, getL l' 13 = j13, getL l' 14 = j14, getL l' 15 = j15, getL l' 16 = j16, getL l' 17 = j17 at hl
    subst hl
    replace H := hG17 _ H
    try dsimp only at H
    rcases Bool.eq_false_or_eq_true x22 with hb28 | hb28
    · replace H := iteT hb28 H
      refine HT_true (congrArg Value.bool hb28) ?_
      refine HT_seq_k ?_
      intro K29 hK29
      refine HT_region ?_
      refine HL_cons rfl ?_
      refine o_assign ?_
      try dsimp only [putL, setL, evL, getL]
      refine HL_cons rfl ?_
      refine o_assign ?_
      try dsimp only [putL, setL, evL, getL]
      refine HL_nil ?_
      refine hK29 _ _ ?_
      refine HT_ret ?_
      obtain rfl := Option.some.inj (show some _ = some r from H)
      exact hQr _ _ [.slice none 0 0, .bool false] ⟨rfl, rfl, trivial⟩ ⟨none, 0, rfl, (hH.nil (K := KI) OI 3)⟩
    · replace H := iteF hb28 H
      refine HT_false (congrArg Value.bool hb28) ?_
      refine HT_skip ?_
      refine hK16 _ _ ?_
      refine HT_seq_k ?_
      intro K30 hK30
      refine HT_region ?_
      refine HL_cons rfl ?_
      refine o_lit0H (α := Int) (K := KI) (O := OI) hH Try.underlying22 tI3 ?_
      intro A31 s31 hH' hG
      replace hH : Hp sb s F0 s31 [Ck.ol OI 3 A31 0 ([] : List (Int))] := hH'
      clear hH' hG
      try dsimp only [putL, setL, evL, getL]
      refine HL_cons rfl ?_
      refine o_move ?_
      try dsimp only [putL, setL, evL, getL]
      refine HL_cons rfl ?_
      refine o_assign ?_
      try dsimp only [putL, setL, evL, getL]
      refine HL_cons rfl ?_
      refine o_assign ?_
      try dsimp only [putL, setL, evL, getL]
      refine HL_nil ?_
      refine hK30 _ _ ?_
      refine HT_seq_k ?_
      intro K32 hK32
      refine HT_seq_k ?_
      intro K33 hK33
      refine HT_region ?_
      refine HL_cons rfl ?_
      refine o_move ?_
      try dsimp only [putL, setL, evL, getL]
      refine HL_cons rfl ?_
      refine o_len rfl Try.underlying40 ?_
      try dsimp only [putL, setL, evL, getL]
      refine HL_cons rfl ?_
      refine o_move ?_
      try dsimp only [putL, setL, evL, getL]
      refine HL_nil ?_
      refine hK33 _ _ ?_
      refine joinH H fun G34 hG34 H => ?_
      refine HT_toK (fun l' s' => ∃ (x453 : List (Int)) (A453 : Option Addr) (c453 : Nat) (x454 : List (Int)) (A454 : Option Addr) (c454 : Nat), G34 (.go (x453, x454)) = some r ∧ l' = [.slice A0p p0.length c0p, .slice A1p p1.length c1p, undef, undef, getL l' 4, getL l' 5, .slice A453 x453.length c453, .slice A454 x454.length c454, undef, getL l' 9, j10, j11, j12, j13, j14, j15, j16, j17, .bool x22, .slice A31 ([] : List (Int)).length 0, .slice A0p p0.length c0p, .slice A1p p1.length c1p, .int .i64 (p1.length : Int), getL l' 23, getL l' 24, getL l' 25, getL l' 26, getL l' 27, getL l' 28, getL l' 29, getL l' 30, getL l' 31, getL l' 32, getL l' 33, getL l' 34, getL l' 35, getL l' 36, getL l' 37, getL l' 38, getL l' 39, getL l' 40, getL l' 41, getL l' 42, getL l' 43, getL l' 44, getL l' 45, getL l' 46, getL l' 47, getL l' 48, getL l' 49, getL l' 50, getL l' 51, getL l' 52, getL l' 53, getL l' 54, getL l' 55, getL l' 56, getL l' 57, getL l' 58, getL l' 59, undef, undef, undef, undef, undef, undef, undef, undef, undef] ∧ Hp sb s F0 s' [Ck.ol OI 3 A453 c453 x453] ∧ Rd KI sb A454 c454 x454) ?_ ?_
      · intro K34 hK34
        refine HT_block ?_
        refine HT_loopK (fun kf l' s' => ∃ (x592 : List (Int)) (A592 : Option Addr) (c592 : Nat) (x593 : List (Int)) (A593 : Option Addr) (c593 : Nat) (x594 : Int), (impl_ApplyDiff.l1 p1 kf x592 x593 x594).bind G34 = some r ∧ l' = [.slice A0p p0.length c0p, .slice A1p p1.length c1p, undef, undef, getL l' 4, getL l' 5, .slice A592 x592.length c592, .slice A593 x593.length c593, undef, getL l' 9, j10, j11, j12, j13, j14, j15, j16, j17, .bool x22, .slice A31 ([] : List (Int)).length 0, .slice A0p p0.length c0p, .slice A1p p1.length c1p, .int .i64 (p1.length : Int), .int .i64 x594, getL l' 24, getL l' 25, getL l' 26, getL l' 27, getL l' 28, getL l' 29, getL l' 30, getL l' 31, getL l' 32, getL l' 33, getL l' 34, getL l' 35, getL l' 36, getL l' 37, getL l' 38, getL l' 39, getL l' 40, getL l' 41, getL l' 42, getL l' 43, getL l' 44, getL l' 45, getL l' 46, getL l' 47, getL l' 48, getL l' 49, getL l' 50, getL l' 51, getL l' 52, getL l' 53, getL l' 54, getL l' 55, getL l' 56, getL l' 57, getL l' 58, getL l' 59, undef, undef, undef, undef, undef, undef, undef, undef, undef] ∧ Hp sb s F0 s' [Ck.ol OI 3 A592 c592 x592] ∧ Rd KI sb A593 c593 x593) ((((p1.length : Int)) - (0)).toNat + 2) ⟨([] : List (Int)), A31, 0, p0, A0p, c0p, 0, H, rfl, hH, HRp0⟩ ?_
        rintro kf l' s735 ⟨x592, A592, c592, x593, A593, c593, x594, H, hl, hH, D593⟩ K735 hK735
        generalize getL l' 4 = j4, getL l' 5 = j5, getL l' 9 = j9, getL l' 24 = j24, getL l' 25 = j25, getL l' 26 = j26, getL l' 27 = j27, getL l' 28 = j28, getL l' 29 = j29, getL l' 30 = j30, getL l' 31 = j31, getL l' 32 = j32, getL l' 33 = j33, getL l' 34 = j34, getL l' 35 = j35, getL l' 36 = j36, getL l' 37 = j37, getL l' 38 = j38, getL l' 39 = j39, getL l' 40 = j40, getL l' 41 = j41, getL l' 42 = j42, getL l' 43 = j43, getL l' 44 = j44, getL l' 45 = j45, getL l' 46 = j46, getL l' 47 = j47, getL l' 48 = j48, getL l' 49 = j49, getL l' 50 = j50, getL l' 51 = j51, getL l' 52 = j52, getL l' 53 = j53, getL l' 54 = j54, getL l' 55 = j55, getL l' 56 = j56, getL l' 57 = j57, getL l' 58 = j58, getL l' 59 = j59 at hl
        subst hl
        cases kf with
        | zero => simp [impl_ApplyDiff.l1] at H
        | succ kf =>
          rw [impl_ApplyDiff.l1] at H
          refine HT_seq_k ?_
          intro K736 hK736
          refine HT_region ?_
          refine HL_cons rfl ?_
          refine o_bin rfl rfl rfl ?_
          try dsimp only [putL, setL, evL, getL]
          refine HL_nil ?_
          refine hK736 _ _ ?_
          refine HT_seq_k ?_
          intro K737 hK737
          rcases Bool.eq_false_or_eq_true (decide (x594 < (p1.length : Int))) with hb738 | hb738
          · replace H := iteT hb738 H
            refine HT_true (congrArg Value.bool hb738) ?_
            refine HT_skip ?_
            refine hK737 _ _ ?_
            refine joinH H fun G739 hG739 H => ?_
            refine HT_joinK (fun l' s' => ∃ (x805 : List (Int)) (A805 : Option Addr) (c805 : Nat) (x806 : List (Int)) (A806 : Option Addr) (c806 : Nat), G739 (.go (x805, x806)) = some r ∧ l' = [.slice A0p p0.length c0p, .slice A1p p1.length c1p, undef, undef, getL l' 4, getL l' 5, .slice A805 x805.length c805, .slice A806 x806.length c806, undef, getL l' 9, j10, j11, j12, j13, j14, j15, j16, j17, .bool x22, .slice A31 ([] : List (Int)).length 0, .slice A0p p0.length c0p, .slice A1p p1.length c1p, .int .i64 (p1.length : Int), .int .i64 x594, .bool (decide (x594 < (p1.length : Int))), getL l' 25, getL l' 26, getL l' 27, getL l' 28, getL l' 29, getL l' 30, getL l' 31, getL l' 32, getL l' 33, getL l' 34, getL l' 35, getL l' 36, getL l' 37, getL l' 38, getL l' 39, getL l' 40, getL l' 41, getL l' 42, getL l' 43, getL l' 44, getL l' 45, getL l' 46, getL l' 47, getL l' 48, getL l' 49, getL l' 50, getL l' 51, getL l' 52, getL l' 53, getL l' 54, getL l' 55, getL l' 56, getL l' 57, getL l' 58, j59, undef, undef, undef, undef, undef, undef, undef, undef, undef] ∧ Hp sb s F0 s' [Ck.ol OI 3 A805 c805 x805] ∧ Rd KI sb A806 c806 x806) ?_ ?_
            · intro K739 hK739
              refine HT_block ?_
              refine HT_seq_k ?_
              intro K807 hK807
              refine HT_region ?_
              obtain ⟨u808, hu808, H⟩ := headE H
              obtain ⟨b808, o808, cs808, hr808, hh808, hel808⟩ := Rd.elb HRp1 hu808
              obtain ⟨_, _, rfl, rfl, ⟨A809, c809, rfl, D809⟩⟩ := hr808
              refine HL_cons rfl ?_
              refine hel808 s735 rfl rfl Try.underlying40 tI99 ?_
              try dsimp only [putL, setL, evL, getL]
              refine HL_cons rfl ?_
              refine o_loads' [.int .i64 u808.1, .slice A809 u808.2.length c809] rfl Try.underlying99 rfl tI99 rfl (fun j v hj => (hh808 hH.bs.mono) j v hj) ?_
              try dsimp only [putL, setL, evL, getL]
              refine HL_cons rfl ?_
              refine o_allocH hH tI99 ?_
              intro b810 s810 hH' hG
              replace hH : Hp sb s F0 s810 [Ck.ol OI 3 A592 c592 x592, Ck.ov b810 [.int .i64 0, .slice none 0 0] 99] := hH'
              clear hH' hG
              try dsimp only [putL, setL, evL, getL]
              refine HL_cons rfl ?_
              refine o_stvH (vs := [.int .i64 u808.1, .slice A809 u808.2.length c809]) (us' := [.int .i64 u808.1, .slice A809 u808.2.length c809]) hH 1 rfl rfl rfl rfl rfl tI99 rfl (List.cons_ne_nil _ _) rfl rfl rfl ?_
              intro s811 hH'
              replace hH : Hp sb s F0 s811 [Ck.ol OI 3 A592 c592 x592, Ck.ov b810 [.int .i64 u808.1, .slice A809 u808.2.length c809] 99] := hH'
              clear hH'
              try dsimp only [putL, setL, evL, getL]
              refine HL_nil ?_
              refine hK807 _ _ ?_
              refine joinH H fun G812 hG812 H => ?_
              refine HT_joinK (fun l' s' => ∃ (x840 : List (Int)) (A840 : Option Addr) (c840 : Nat), G812 (.go x840) = some r ∧ l' = [.slice A0p p0.length c0p, .slice A1p p1.length c1p, undef, undef, getL l' 4, getL l' 5, .slice A592 x592.length c592, .slice A840 x840.length c840, undef, .pointer (some ⟨b810, 0, none⟩), j10, j11, j12, j13, j14, j15, j16, j17, .bool x22, .slice A31 ([] : List (Int)).length 0, .slice A0p p0.length c0p, .slice A1p p1.length c1p, .int .i64 (p1.length : Int), .int .i64 x594, .bool (decide (x594 < (p1.length : Int))), .pointer (some ⟨b808, o808, none⟩), .agg #[.int .i64 u808.1, .slice A809 u808.2.length c809], getL l' 27, getL l' 28, getL l' 29, getL l' 30, getL l' 31, getL l' 32, getL l' 33, getL l' 34, getL l' 35, getL l' 36, getL l' 37, getL l' 38, getL l' 39, getL l' 40, getL l' 41, getL l' 42, getL l' 43, getL l' 44, getL l' 45, getL l' 46, getL l' 47, getL l' 48, getL l' 49, getL l' 50, getL l' 51, j52, j53, j54, j55, j56, j57, j58, j59, undef, undef, undef, undef, undef, undef, undef, undef, undef] ∧ Hp sb s F0 s' [Ck.ol OI 3 A592 c592 x592, Ck.ov b810 [.int .i64 u808.1, .slice A809 u808.2.length c809] 99] ∧ Rd KI sb A840 c840 x840) ?_ ?_
              · intro K812 hK812
                refine HT_seq_k ?_
                intro K841 hK841
                refine HT_region ?_
                refine HL_cons rfl ?_
                refine o_faddr' (ft := 3) (off := 0) rfl Try.underlying99 rfl tI3 (by decide) ?_
                try dsimp only [putL, setL, evL, getL]
                refine HL_cons rfl ?_
                refine o_load' rfl Try.underlying3 rfl (hH.hasv 1 rfl rfl) ?_
                try dsimp only [putL, setL, evL, getL]
                refine HL_cons rfl ?_
                refine o_bin rfl rfl rfl ?_
                try dsimp only [putL, setL, evL, getL]
                refine HL_nil ?_
                refine hK841 _ _ ?_
                rcases Bool.eq_false_or_eq_true (u808.1 != 3) with hb842 | hb842
                · replace H := iteT hb842 H
                  refine HT_true (congrArg Value.bool hb842) ?_
                  refine HT_seq_k ?_
                  intro K855 hK855
                  refine joinH H fun G856 hG856 H => ?_
                  refine HT_joinK (fun l' s' => ∃ (x860 : Bool), G856 x860 = some r ∧ l' = [.slice A0p p0.length c0p, .slice A1p p1.length c1p, undef, undef, j4, j5, .slice A592 x592.length c592, .slice A593 x593.length c593, undef, .pointer (some ⟨b810, 0, none⟩), j10, j11, j12, j13, j14, j15, j16, j17, .bool x22, .slice A31 ([] : List (Int)).length 0, .slice A0p p0.length c0p, .slice A1p p1.length c1p, .int .i64 (p1.length : Int), .int .i64 x594, .bool (decide (x594 < (p1.length : Int))), .pointer (some ⟨b808, o808, none⟩), .agg #[.int .i64 u808.1, .slice A809 u808.2.length c809], .pointer (some ⟨b810, 0 + 0, none⟩), .int .i64 u808.1, .bool (u808.1 != 3), getL l' 30, getL l' 31, getL l' 32, getL l' 33, getL l' 34, getL l' 35, getL l' 36, getL l' 37, getL l' 38, getL l' 39, getL l' 40, getL l' 41, getL l' 42, getL l' 43, getL l' 44, getL l' 45, .bool x860, j47, j48, j49, j50, j51, j52, j53, j54, j55, j56, j57, j58, j59, undef, undef, undef, undef, undef, undef, undef, undef, undef] ∧ Hp sb s F0 s' [Ck.ol OI 3 A592 c592 x592, Ck.ov b810 [.int .i64 u808.1, .slice A809 u808.2.length c809] 99]) ?_ ?_
                  · intro K856 hK856
                    refine HK_draw (fun s' => Gro s811 s') 18 hMix ?_
                    have hR := Gro.refl s811
                    have hH0 := hH
                    refine HK_readP 0 (v := .slice A593 x593.length c593) rfl (by kernel_rfl) (fun c l s h => hQp c l s h) rfl (fun s' K hK => ?_) rfl rfl (fun _ => hR) ?_
                    · refine o_move ?_
                      exact hK
                    try dsimp only [putL, setL, evL, getL]
                    refine HK_readP 1 (v := .int .i64 (x593.length : Int)) rfl (by kernel_rfl) (fun c l s h => hQp c l s h) rfl (fun s' K hK => ?_) rfl rfl (fun _ => hR) ?_
                    · refine o_len rfl Try.underlying22 ?_
                      exact hK
                    try dsimp only [putL, setL, evL, getL]
                    refine HK_readP 2 (v := .pointer (some ⟨b810, 0 + 1, none⟩)) rfl (by kernel_rfl) (fun c l s h => hQp c l s h) rfl (fun s' K hK => ?_) rfl rfl (fun _ => hR) ?_
                    · refine o_faddr' (ft := 22) (off := 1) rfl Try.underlying99 rfl tI22 (by decide) ?_
                      exact hK
                    try dsimp only [putL, setL, evL, getL]
                    refine HK_read 3 (v := .slice A809 u808.2.length c809) rfl (by kernel_rfl) (fun c l s h => hQp c l s h) rfl (fun s' hR' K hK => ?_) rfl rfl hR ?_
                    · refine o_load' rfl Try.underlying22 rfl (has_gro hR' (hH0.hasv 1 rfl rfl)) ?_
                      exact hK
                    try dsimp only [putL, setL, evL, getL]
                    refine HK_readP 4 (v := .int .i64 (u808.2.length : Int)) rfl (by kernel_rfl) (fun c l s h => hQp c l s h) rfl (fun s' K hK => ?_) rfl rfl (fun _ => hR) ?_
                    · refine o_len rfl Try.underlying22 ?_
                      exact hK
                    try dsimp only [putL, setL, evL, getL]
                    refine HK_readP 5 (v := .bool (decide ((x593.length : Int) < (u808.2.length : Int)))) rfl (by kernel_rfl) (fun c l s h => hQp c l s h) rfl (fun s' K hK => ?_) rfl rfl (fun _ => hR) ?_
                    · refine o_bin rfl rfl rfl ?_
                      exact hK
                    try dsimp only [putL, setL, evL, getL]
                    refine HK_readP 6 (v := .bool (decide ((x593.length : Int) < (u808.2.length : Int)))) rfl (by kernel_rfl) (fun c l s h => hQp c l s h) rfl (fun s' K hK => ?_) rfl rfl (fun _ => hR) ?_
                    · refine o_move ?_
                      exact hK
                    try dsimp only [putL, setL, evL, getL]
                    rcases Bool.eq_false_or_eq_true (decide ((x593.length : Int) < (u808.2.length : Int))) with hb861 | hb861
                    · replace H := iteT hb861 H
                      refine HK_pass 7 rfl (by kernel_rfl) (fun c l s h => hQp c l s h) ?_ hR ?_
                      · exact wantF (j := 6) (b := false) (t := 36) (c := decide ((x593.length : Int) < (u808.2.length : Int))) rfl rfl rfl rfl hb861
                      try dsimp only [putL, setL, evL, getL]
                      refine HK_pass 8 rfl (by kernel_rfl) (fun c l s h => hQp c l s h) ?_ hR ?_
                      · exact wantF (j := 6) (b := false) (t := 36) (c := decide ((x593.length : Int) < (u808.2.length : Int))) rfl rfl rfl rfl hb861
                      try dsimp only [putL, setL, evL, getL]
                      refine HK_pass 9 rfl (by kernel_rfl) (fun c l s h => hQp c l s h) ?_ hR ?_
                      · exact wantF (j := 6) (b := false) (t := 36) (c := decide ((x593.length : Int) < (u808.2.length : Int))) rfl rfl rfl rfl hb861
                      try dsimp only [putL, setL, evL, getL]
                      refine HK_pass 10 rfl (by kernel_rfl) (fun c l s h => hQp c l s h) ?_ hR ?_
                      · exact wantF (j := 6) (b := false) (t := 36) (c := decide ((x593.length : Int) < (u808.2.length : Int))) rfl rfl rfl rfl hb861
                      try dsimp only [putL, setL, evL, getL]
                      refine HK_pass 11 rfl (by kernel_rfl) (fun c l s h => hQp c l s h) ?_ hR ?_
                      · exact wantF (j := 6) (b := false) (t := 36) (c := decide ((x593.length : Int) < (u808.2.length : Int))) rfl rfl rfl rfl hb861
                      try dsimp only [putL, setL, evL, getL]
                      refine HK_pass 12 rfl (by kernel_rfl) (fun c l s h => hQp c l s h) ?_ hR ?_
                      · exact wantF (j := 6) (b := false) (t := 36) (c := decide ((x593.length : Int) < (u808.2.length : Int))) rfl rfl rfl rfl hb861
                      try dsimp only [putL, setL, evL, getL]
                      refine HK_pass 13 rfl (by kernel_rfl) (fun c l s h => hQp c l s h) ?_ hR ?_
                      · exact wantF (j := 6) (b := false) (t := 36) (c := decide ((x593.length : Int) < (u808.2.length : Int))) rfl rfl rfl rfl hb861
                      try dsimp only [putL, setL, evL, getL]
                      refine HK_pass 14 rfl (by kernel_rfl) (fun c l s h => hQp c l s h) ?_ hR ?_
                      · exact wantF (j := 6) (b := false) (t := 36) (c := decide ((x593.length : Int) < (u808.2.length : Int))) rfl rfl rfl rfl hb861
                      try dsimp only [putL, setL, evL, getL]
                      refine HK_pass 15 rfl (by kernel_rfl) (fun c l s h => hQp c l s h) ?_ hR ?_
                      · exact wantF (j := 6) (b := false) (t := 36) (c := decide ((x593.length : Int) < (u808.2.length : Int))) rfl rfl rfl rfl hb861
                      try dsimp only [putL, setL, evL, getL]
                      refine HK_readP 16 (v := .bool true) rfl (by kernel_rfl) (fun c l s h => hQp c l s h) rfl (fun s' K hK => ?_) rfl rfl (fun _ => hR) ?_
                      · refine o_pickT rfl hb861 ?_
                        exact hK
                      try dsimp only [putL, setL, evL, getL]
                      refine HK_done (fun _ => hR) (by kernel_rfl) ?_
                      exact hK856 _ _ ⟨true, H, rfl, hH⟩
                    · replace H := iteF hb861 H
                      refine HK_readP 7 (v := .slice A593 x593.length c593) rfl (by kernel_rfl) (fun c l s h => hQp c l s h) (wantT (j := 6) (b := false) (t := 36) (c := decide ((x593.length : Int) < (u808.2.length : Int))) rfl rfl rfl rfl hb861) (fun s' K hK => ?_) rfl rfl (fun _ => hR) ?_
                      · refine o_move ?_
                        exact hK
                      try dsimp only [putL, setL, evL, getL]
                      refine HK_readP 8 (v := .pointer (some ⟨b810, 0 + 1, none⟩)) rfl (by kernel_rfl) (fun c l s h => hQp c l s h) (wantT (j := 6) (b := false) (t := 36) (c := decide ((x593.length : Int) < (u808.2.length : Int))) rfl rfl rfl rfl hb861) (fun s' K hK => ?_) rfl rfl (fun _ => hR) ?_
                      · refine o_faddr' (ft := 22) (off := 1) rfl Try.underlying99 rfl tI22 (by decide) ?_
                        exact hK
                      try dsimp only [putL, setL, evL, getL]
                      refine HK_read 9 (v := .slice A809 u808.2.length c809) rfl (by kernel_rfl) (fun c l s h => hQp c l s h) (wantT (j := 6) (b := false) (t := 36) (c := decide ((x593.length : Int) < (u808.2.length : Int))) rfl rfl rfl rfl hb861) (fun s' hR' K hK => ?_) rfl rfl hR ?_
                      · refine o_load' rfl Try.underlying22 rfl (has_gro hR' (hH0.hasv 1 rfl rfl)) ?_
                        exact hK
                      try dsimp only [putL, setL, evL, getL]
                      refine HK_readP 10 (v := .int .i64 (u808.2.length : Int)) rfl (by kernel_rfl) (fun c l s h => hQp c l s h) (wantT (j := 6) (b := false) (t := 36) (c := decide ((x593.length : Int) < (u808.2.length : Int))) rfl rfl rfl rfl hb861) (fun s' K hK => ?_) rfl rfl (fun _ => hR) ?_
                      · refine o_len rfl Try.underlying22 ?_
                        exact hK
                      try dsimp only [putL, setL, evL, getL]
                      obtain ⟨x862, hx862, H⟩ := headE H
                      refine HK_readP 11 (v := .slice (cutA A593 c593 (Int.toNat 0) (Kd.sz KI)) x862.length (c593 - Int.toNat 0)) rfl (by kernel_rfl) (fun c l s h => hQp c l s h) (wantT (j := 6) (b := false) (t := 36) (c := decide ((x593.length : Int) < (u808.2.length : Int))) rfl rfl rfl rfl hb861) (fun s' K hK => ?_) rfl rfl (fun _ => hR) ?_
                      · refine o_cutA (xs := x593) (kl := .i64) (kh := .i64) (L := 0) (H := (u808.2.length : Int)) rfl rfl rfl Try.underlying22 tI3 D593.1 hx862 ?_
                        exact hK
                      have D862 := D593.cut hx862
                      try dsimp only [putL, setL, evL, getL]
                      refine HK_readP 12 (v := .pointer (some ⟨b810, 0 + 1, none⟩)) rfl (by kernel_rfl) (fun c l s h => hQp c l s h) (wantT (j := 6) (b := false) (t := 36) (c := decide ((x593.length : Int) < (u808.2.length : Int))) rfl rfl rfl rfl hb861) (fun s' K hK => ?_) rfl rfl (fun _ => hR) ?_
                      · refine o_faddr' (ft := 22) (off := 1) rfl Try.underlying99 rfl tI22 (by decide) ?_
                        exact hK
                      try dsimp only [putL, setL, evL, getL]
                      refine HK_read 13 (v := .slice A809 u808.2.length c809) rfl (by kernel_rfl) (fun c l s h => hQp c l s h) (wantT (j := 6) (b := false) (t := 36) (c := decide ((x593.length : Int) < (u808.2.length : Int))) rfl rfl rfl rfl hb861) (fun s' hR' K hK => ?_) rfl rfl hR ?_
                      · refine o_load' rfl Try.underlying22 rfl (has_gro hR' (hH0.hasv 1 rfl rfl)) ?_
                        exact hK
                      try dsimp only [putL, setL, evL, getL]
                      obtain ⟨u863, hu863, H⟩ := headE H
                      refine HK_one 14 (by kernel_rfl) rfl (fun _ => hR) (wantT (j := 6) (b := false) (t := 36) (c := decide ((x593.length : Int) < (u808.2.length : Int))) rfl rfl rfl rfl hb861) ?_
                      refine o_call (args := #[.slice (cutA A593 c593 (Int.toNat 0) (Kd.sz KI)) x862.length (c593 - Int.toNat 0), .slice A809 u808.2.length c809]) Try.func100 rfl rfl rfl (slices_Equal_int_int.ok sb s811 no (cutA A593 c593 (Int.toNat 0) (Kd.sz KI)) (c593 - Int.toNat 0) x862 A809 c809 u808.2 D862 D809 (Hp.own hH.bs) _ hu863) ?_
                      rintro _ s863 ⟨rfl, hD⟩
                      replace hR := hR.trans hD.gro
                      replace hH := hH.back0 hD (Up.refl _ _ _)
                      clear hD
                      dsimp only [addC, setC, rmC, selC, getC] at hH
                      try dsimp only [putL, setL, evL, getL]
                      refine HK_readP 15 (v := .bool (!u863)) rfl (by kernel_rfl) (fun c l s h => hQp c l s h) (wantT (j := 6) (b := false) (t := 36) (c := decide ((x593.length : Int) < (u808.2.length : Int))) rfl rfl rfl rfl hb861) (fun s' K hK => ?_) rfl rfl (fun _ => hR) ?_
                      · refine o_not rfl ?_
                        exact hK
                      try dsimp only [putL, setL, evL, getL]
                      refine HK_readP 16 (v := .bool (!u863)) rfl (by kernel_rfl) (fun c l s h => hQp c l s h) rfl (fun s' K hK => ?_) rfl rfl (fun _ => hR) ?_
                      · refine o_pickF rfl hb861 ?_
                        exact hK
                      try dsimp only [putL, setL, evL, getL]
                      refine HK_done (fun _ => hR) (by kernel_rfl) ?_
                      exact hK856 _ _ ⟨!u863, H, rfl, hH⟩
                  · rintro l' s864 ⟨x860, H, hl, hH⟩
                    generalize getL l' 30 = j30, getL l' 31 = j31, getL l' 32 = j32, getL l' 33 = j33, getL l' 34 = j34, getL l' 35 = j35, getL l' 36 = j36, getL l' 37 = j37, getL l' 38 = j38, getL l' 39 = j39, getL l' 40 = j40, getL l' 41 = j41, getL l' 42 = j42, getL l' 43 = j43, getL l' 44 = j44, getL l' 45 = j45 at hl
                    subst hl
                    replace H := hG856 _ H
                    try dsimp only at H
                    rcases Bool.eq_false_or_eq_true x860 with hb865 | hb865
                    · replace H := iteT hb865 H
                      refine HT_true (congrArg Value.bool hb865) ?_
                      refine HT_seq_k ?_
                      intro K866 hK866
                      refine HT_region ?_
                      refine HL_cons rfl ?_
                      refine o_assign ?_
                      try dsimp only [putL, setL, evL, getL]
                      refine HL_cons rfl ?_
                      refine o_assign ?_
                      try dsimp only [putL, setL, evL, getL]
                      refine HL_nil ?_
                      refine hK866 _ _ ?_
                      refine HT_ret ?_
                      replace H := escH (fun z hz => hG812 _ hz) H
                      replace H := escH (fun z hz => hG739 _ hz) H
                      replace H := escH (fun z hz => hG34 _ hz) H
                      obtain rfl := Option.some.inj (show some _ = some r from H)
                      exact hQr _ _ [.slice none 0 0, .bool false] ⟨rfl, rfl, trivial⟩ ⟨none, 0, rfl, (hH.nil (K := KI) OI 3).sel [2] (by decide)⟩
                    · replace H := iteF hb865 H
                      refine HT_false (congrArg Value.bool hb865) ?_
                      refine HT_skip ?_
                      refine hK855 _ _ ?_
                      refine HT_region ?_
                      refine HL_cons rfl ?_
                      refine o_move ?_
                      try dsimp only [putL, setL, evL, getL]
                      refine HL_cons rfl ?_
                      refine o_faddr' (ft := 22) (off := 1) rfl Try.underlying99 rfl tI22 (by decide) ?_
                      try dsimp only [putL, setL, evL, getL]
                      refine HL_cons rfl ?_
                      refine o_load' rfl Try.underlying22 rfl (hH.hasv 1 rfl rfl) ?_
                      try dsimp only [putL, setL, evL, getL]
                      refine HL_cons rfl ?_
                      refine o_len rfl Try.underlying22 ?_
                      try dsimp only [putL, setL, evL, getL]
                      obtain ⟨x867, hx867, H⟩ := headE H
                      refine HL_cons rfl ?_
                      refine o_cutA (xs := x593) (kl := .i64) (kh := .i64) (L := (u808.2.length : Int)) (H := (x593.length : Int)) rfl rfl rfl Try.underlying22 tI3 D593.1 hx867 ?_
                      have D867 := D593.cut hx867
                      try dsimp only [putL, setL, evL, getL]
                      refine HL_cons rfl ?_
                      refine o_assign ?_
                      try dsimp only [putL, setL, evL, getL]
                      refine HL_nil ?_
                      exact hK812 _ _ ⟨x867, (cutA A593 c593 (Int.toNat (u808.2.length : Int)) (Kd.sz KI)), c593 - Int.toNat (u808.2.length : Int), H, rfl, hH, D867⟩
                · replace H := iteF hb842 H
                  refine HT_false (congrArg Value.bool hb842) ?_
                  refine HT_skip ?_
                  exact hK812 _ _ ⟨x593, A593, c593, H, rfl, hH, D593⟩
              · rintro l' s868 ⟨x840, A840, c840, H, hl, hH, D840⟩
                generalize getL l' 4 = j4, getL l' 5 = j5, getL l' 27 = j27, getL l' 28 = j28, getL l' 29 = j29, getL l' 30 = j30, getL l' 31 = j31, getL l' 32 = j32, getL l' 33 = j33, getL l' 34 = j34, getL l' 35 = j35, getL l' 36 = j36, getL l' 37 = j37, getL l' 38 = j38, getL l' 39 = j39, getL l' 40 = j40, getL l' 41 = j41, getL l' 42 = j42, getL l' 43 = j43, getL l' 44 = j44, getL l' 45 = j45, getL l' 46 = j46, getL l' 47 = j47, getL l' 48 = j48, getL l' 49 = j49, getL l' 50 = j50, getL l' 51 = j51 at hl
                subst hl
                replace H := hG812 _ H
                try dsimp only at H
                refine HT_seq_k ?_
                intro K869 hK869
                refine HT_region ?_
                refine HL_cons rfl ?_
                refine o_faddr' (ft := 3) (off := 0) rfl Try.underlying99 rfl tI3 (by decide) ?_
                try dsimp only [putL, setL, evL, getL]
                refine HL_cons rfl ?_
                refine o_load' rfl Try.underlying3 rfl (hH.hasv 1 rfl rfl) ?_
                try dsimp only [putL, setL, evL, getL]
                refine HL_cons rfl ?_
                refine o_bin rfl rfl rfl ?_
                try dsimp only [putL, setL, evL, getL]
                refine HL_nil ?_
                refine hK869 _ _ ?_
                rcases Bool.eq_false_or_eq_true (u808.1 != 2) with hb870 | hb870
                · replace H := iteT hb870 H
                  refine HT_true (congrArg Value.bool hb870) ?_
                  refine HT_region ?_
                  refine HL_cons rfl ?_
                  refine o_move ?_
                  try dsimp only [putL, setL, evL, getL]
                  refine HL_cons rfl ?_
                  refine o_faddr' (ft := 22) (off := 1) rfl Try.underlying99 rfl tI22 (by decide) ?_
                  try dsimp only [putL, setL, evL, getL]
                  refine HL_cons rfl ?_
                  refine o_load' rfl Try.underlying22 rfl (hH.hasv 1 rfl rfl) ?_
                  try dsimp only [putL, setL, evL, getL]
                  obtain ⟨x871, hx871, H⟩ := headE H
                  refine HL_cons rfl ?_
                  refine o_appF (K := KI) (n := 17592186044416) (A := A592) (c := c592) (xs := x592) (ys := u808.2) (B := A809) (c2 := c809) hH 0 rfl rfl rfl rfl Try.underlying22 tI3 rfl (by decide) (by decide) (by decide) (Src.flat (D809.mono hH.bs.mono)) hx871 ?_
                  intro A871 c871 s871 hH'
                  replace hH : Hp sb s F0 s871 [Ck.ol OI 3 A871 c871 x871, Ck.ov b810 [.int .i64 u808.1, .slice A809 u808.2.length c809] 99] := hH'
                  clear hH'
                  try dsimp only [putL, setL, evL, getL]
                  refine HL_cons rfl ?_
                  refine o_assign ?_
                  try dsimp only [putL, setL, evL, getL]
                  refine HL_nil ?_
                  exact hK739 _ _ ⟨x871, A871, c871, x840, A840, c840, H, rfl, hH.sel [0] (by decide), D840⟩
                · replace H := iteF hb870 H
                  refine HT_false (congrArg Value.bool hb870) ?_
                  refine HT_skip ?_
                  exact hK739 _ _ ⟨x592, A592, c592, x840, A840, c840, H, rfl, hH.sel [0] (by decide), D840⟩
            · rintro l' s872 ⟨x805, A805, c805, x806, A806, c806, H, hl, hH, D806⟩
              generalize getL l' 4 = j4, getL l' 5 = j5, getL l' 9 = j9, getL l' 25 = j25, getL l' 26 = j26, getL l' 27 = j27, getL l' 28 = j28, getL l' 29 = j29, getL l' 30 = j30, getL l' 31 = j31, getL l' 32 = j32, getL l' 33 = j33, getL l' 34 = j34, getL l' 35 = j35, getL l' 36 = j36, getL l' 37 = j37, getL l' 38 = j38, getL l' 39 = j39, getL l' 40 = j40, getL l' 41 = j41, getL l' 42 = j42, getL l' 43 = j43, getL l' 44 = j44, getL l' 45 = j45, getL l' 46 = j46, getL l' 47 = j47, getL l' 48 = j48, getL l' 49 = j49, getL l' 50 = j50, getL l' 51 = j51, getL l' 52 = j52, getL l' 53 = j53, getL l' 54 = j54, getL l' 55 = j55, getL l' 56 = j56, getL l' 57 = j57, getL l' 58 = j58 at hl
              subst hl
              replace H := hG739 _ H
              try dsimp only at H
              refine HT_region ?_
              refine HL_cons rfl ?_
              refine o_bin rfl rfl rfl ?_
              try dsimp only [putL, setL, evL, getL]
              refine HL_cons rfl ?_
              refine o_move ?_
              try dsimp only [putL, setL, evL, getL]
              refine HL_nil ?_
              exact hK735 _ _ ⟨kf, Nat.lt_succ_self kf, x805, A805, c805, x806, A806, c806, IntKind.i64.wrap (x594 + 1), H, rfl, hH, D806⟩
          · replace H := iteF hb738 H
            refine HT_false (congrArg Value.bool hb738) ?_
            refine HT_exit ?_
            exact hK34 _ _ ⟨x592, A592, c592, x593, A593, c593, H, rfl, hH, D593⟩
      · rintro l' s873 ⟨x453, A453, c453, x454, A454, c454, H, hl, hH, D454⟩
        generalize getL l' 4 = j4, getL l' 5 = j5, getL l' 9 = j9, getL l' 23 = j23, getL l' 24 = j24, getL l' 25 = j25, getL l' 26 = j26, getL l' 27 = j27, getL l' 28 = j28, getL l' 29 = j29, getL l' 30 = j30, getL l' 31 = j31, getL l' 32 = j32, getL l' 33 = j33, getL l' 34 = j34, getL l' 35 = j35, getL l' 36 = j36, getL l' 37 = j37, getL l' 38 = j38, getL l' 39 = j39, getL l' 40 = j40, getL l' 41 = j41, getL l' 42 = j42, getL l' 43 = j43, getL l' 44 = j44, getL l' 45 = j45, getL l' 46 = j46, getL l' 47 = j47, getL l' 48 = j48, getL l' 49 = j49, getL l' 50 = j50, getL l' 51 = j51, getL l' 52 = j52, getL l' 53 = j53, getL l' 54 = j54, getL l' 55 = j55, getL l' 56 = j56, getL l' 57 = j57, getL l' 58 = j58, getL l' 59 = j59 at hl
        subst hl
        replace H := hG34 _ H
        try dsimp only at H
        refine hK32 _ _ ?_
        refine HT_seq_k ?_
        intro K882 hK882
        refine joinH H fun G883 hG883 H => ?_
        refine HT_joinK (fun l' s' => ∃ (x885 : Bool), G883 x885 = some r ∧ l' = [.slice A0p p0.length c0p, .slice A1p p1.length c1p, undef, undef, j4, j5, .slice A453 x453.length c453, .slice A454 x454.length c454, undef, j9, j10, j11, j12, j13, j14, j15, j16, j17, .bool x22, .slice A31 ([] : List (Int)).length 0, .slice A0p p0.length c0p, .slice A1p p1.length c1p, .int .i64 (p1.length : Int), j23, j24, j25, j26, j27, j28, j29, j30, j31, j32, j33, j34, j35, j36, j37, j38, j39, j40, j41, j42, j43, j44, j45, j46, j47, j48, j49, j50, j51, j52, j53, j54, j55, j56, j57, j58, j59, getL l' 60, getL l' 61, getL l' 62, getL l' 63, getL l' 64, getL l' 65, getL l' 66, .bool x885, undef] ∧ Hp sb s F0 s' [Ck.ol OI 3 A453 c453 x453]) ?_ ?_
        · intro K883 hK883
          refine HT_region ?_
          refine HL_cons rfl ?_
          refine o_move ?_
          try dsimp only [putL, setL, evL, getL]
          refine HL_cons rfl ?_
          refine o_len rfl Try.underlying22 ?_
          try dsimp only [putL, setL, evL, getL]
          refine HL_cons rfl ?_
          refine o_bin rfl rfl rfl ?_
          try dsimp only [putL, setL, evL, getL]
          refine HL_cons rfl ?_
          refine o_move ?_
          try dsimp only [putL, setL, evL, getL]
          rcases Bool.eq_false_or_eq_true (decide ((x454.length : Int) > 0)) with hb886 | hb886
          · replace H := iteT hb886 H
            refine HL_skip ?_ ?_
            · exact wantF (j := 3) (b := false) (t := 63) (c := decide ((x454.length : Int) > 0)) rfl rfl rfl rfl hb886
            try dsimp only [putL, setL, evL, getL]
            refine HL_skip ?_ ?_
            · exact wantF (j := 3) (b := false) (t := 63) (c := decide ((x454.length : Int) > 0)) rfl rfl rfl rfl hb886
            try dsimp only [putL, setL, evL, getL]
            refine HL_skip ?_ ?_
            · exact wantF (j := 3) (b := false) (t := 63) (c := decide ((x454.length : Int) > 0)) rfl rfl rfl rfl hb886
            try dsimp only [putL, setL, evL, getL]
            refine HL_cons rfl ?_
            refine o_pickT rfl hb886 ?_
            try dsimp only [putL, setL, evL, getL]
            refine HL_nil ?_
            exact hK883 _ _ ⟨true, H, rfl, hH⟩
          · replace H := iteF hb886 H
            refine HL_want ?_ ?_
            · exact wantT (j := 3) (b := false) (t := 63) (c := decide ((x454.length : Int) > 0)) rfl rfl rfl rfl hb886
            refine o_move ?_
            try dsimp only [putL, setL, evL, getL]
            refine HL_want ?_ ?_
            · exact wantT (j := 3) (b := false) (t := 63) (c := decide ((x454.length : Int) > 0)) rfl rfl rfl rfl hb886
            refine o_len rfl Try.underlying22 ?_
            try dsimp only [putL, setL, evL, getL]
            refine HL_want ?_ ?_
            · exact wantT (j := 3) (b := false) (t := 63) (c := decide ((x454.length : Int) > 0)) rfl rfl rfl rfl hb886
            refine o_bin rfl rfl rfl ?_
            try dsimp only [putL, setL, evL, getL]
            refine HL_cons rfl ?_
            refine o_pickF rfl hb886 ?_
            try dsimp only [putL, setL, evL, getL]
            refine HL_nil ?_
            exact hK883 _ _ ⟨decide ((x453.length : Int) > 60), H, rfl, hH⟩
        · rintro l' s887 ⟨x885, H, hl, hH⟩
          generalize getL l' 60 = j60, getL l' 61 = j61, getL l' 62 = j62, getL l' 63 = j63, getL l' 64 = j64, getL l' 65 = j65, getL l' 66 = j66 at hl
          subst hl
          replace H := hG883 _ H
          try dsimp only at H
          rcases Bool.eq_false_or_eq_true x885 with hb888 | hb888
          · replace H := iteT hb888 H
            refine HT_true (congrArg Value.bool hb888) ?_
            refine HT_seq_k ?_
            intro K889 hK889
            refine HT_region ?_
            refine HL_cons rfl ?_
            refine o_assign ?_
            try dsimp only [putL, setL, evL, getL]
            refine HL_cons rfl ?_
            refine o_assign ?_
            try dsimp only [putL, setL, evL, getL]
            refine HL_nil ?_
            refine hK889 _ _ ?_
            refine HT_ret ?_
            obtain rfl := Option.some.inj (show some _ = some r from H)
            exact hQr _ _ [.slice none 0 0, .bool false] ⟨rfl, rfl, trivial⟩ ⟨none, 0, rfl, (hH.nil (K := KI) OI 3).sel [1] (by decide)⟩
          · replace H := iteF hb888 H
            refine HT_false (congrArg Value.bool hb888) ?_
            refine HT_skip ?_
            refine hK882 _ _ ?_
            refine HT_seq_k ?_
            intro K890 hK890
            refine HT_region ?_
            refine HL_cons rfl ?_
            refine o_move ?_
            try dsimp only [putL, setL, evL, getL]
            refine HL_cons rfl ?_
            refine o_assign ?_
            try dsimp only [putL, setL, evL, getL]
            refine HL_cons rfl ?_
            refine o_assign ?_
            try dsimp only [putL, setL, evL, getL]
            refine HL_nil ?_
            refine hK890 _ _ ?_
            refine HT_ret ?_
            obtain rfl := Option.some.inj (show some _ = some r from H)
            exact hQr _ _ [.slice A453 x453.length c453, .bool true] ⟨rfl, rfl, trivial⟩ ⟨A453, c453, rfl, hH⟩
def laws_eqIntS.l1 (p0 : List (Int)) (p1 : List (Int)) : Nat → Int → Option (Lo Unit Bool)
  | 0, _ => none
  | kf + 1, x48 => if (decide (x48 < (p0.length : Int))) = true then ((rd? p0 x48).bind fun u65 => (rd? p1 x48).bind fun u66 => if (u65 != u66) = true then ((some false).bind fun z => some (Lo.ret z)) else (laws_eqIntS.l1 p0 p1 kf (IntKind.i64.wrap (x48 + 1)))) else (some (Lo.go ()))
def laws_eqIntS.f (p0 : List (Int)) (p1 : List (Int)) : Option Bool := if ((p0.length : Int) != (p1.length : Int)) = true then (some false) else ((laws_eqIntS.l1 p0 p1 ((((p0.length : Int)) - (0)).toNat + 2) 0).bind fun (o : Lo Unit Bool) => match o with | .go () => (some true) | .ret z => some z)
def laws_eqIntS.post (sb s : St) (F0 : Fp) (r : Bool) : Value → St → Prop := fun v s' => v = .bool r ∧ Hp sb s F0 s' []
set_option maxRecDepth 100000 in
set_option maxHeartbeats 4000000 in
theorem laws_eqIntS.ok (sb s : St) (F0 : Fp) (A0p : Option Addr) (c0p : Nat) (p0 : List (Int)) (A1p : Option Addr) (c1p : Nat) (p1 : List (Int)) (HRp0 : Rd KI sb A0p c0p p0) (HRp1 : Rd KI sb A1p c1p p1) (hH : Hp sb s F0 s []) (r : Bool) (H : laws_eqIntS.f p0 p1 = some r) : GCall Try.prog 18 #[.slice A0p p0.length c0p, .slice A1p p1.length c1p] s (laws_eqIntS.post sb s F0 r) := by
  refine GCall_ofk [.tmp 4] [.slice A0p p0.length c0p, .slice A1p p1.length c1p, undef, undef, undef, undef, undef, undef, undef, undef, undef, undef, undef, undef, undef, undef, undef, undef, undef, undef, undef, undef, undef, undef, undef, undef] Try.func18 rfl rfl rfl ?_
  intro w Q hQr hQn hQp
  replace H := topE H
  unfold laws_eqIntS.f at H
  refine HT_seq_k ?_
  intro K1 hK1
  refine HT_region ?_
  refine HL_cons rfl ?_
  refine o_assign ?_
  try dsimp only [putL, setL, evL, getL]
  refine HL_nil ?_
  refine hK1 _ _ ?_
  refine HT_seq_k ?_
  intro K2 hK2
  refine HT_seq_k ?_
  intro K3 hK3
  refine HT_region ?_
  refine HL_cons rfl ?_
  refine o_move ?_
  try dsimp only [putL, setL, evL, getL]
  refine HL_cons rfl ?_
  refine o_len rfl Try.underlying22 ?_
  try dsimp only [putL, setL, evL, getL]
  refine HL_cons rfl ?_
  refine o_move ?_
  try dsimp only [putL, setL, evL, getL]
  refine HL_cons rfl ?_
  refine o_len rfl Try.underlying22 ?_
  try dsimp only [putL, setL, evL, getL]
  refine HL_cons rfl ?_
  refine o_bin rfl rfl rfl ?_
  try dsimp only [putL, setL, evL, getL]
  refine HL_nil ?_
  refine hK3 _ _ ?_
  rcases Bool.eq_false_or_eq_true ((p0.length : Int) != (p1.length : Int)) with hb4 | hb4
  · replace H := iteT hb4 H
    refine HT_true (congrArg Value.bool hb4) ?_
    refine HT_seq_k ?_
    intro K5 hK5
    refine HT_region ?_
    refine HL_cons rfl ?_
    refine o_assign ?_
    try dsimp only [putL, setL, evL, getL]
    refine HL_nil ?_
    refine hK5 _ _ ?_
    refine HT_ret ?_
    obtain rfl := Option.some.inj (show some _ = some r from H)
    exact hQr _ _ [.bool false] ⟨rfl, trivial⟩ ⟨rfl, hH⟩
  · replace H := iteF hb4 H
    refine HT_false (congrArg Value.bool hb4) ?_
    refine HT_skip ?_
    refine hK2 _ _ ?_
    refine HT_seq_k ?_
    intro K6 hK6
    refine HT_seq_k ?_
    intro K7 hK7
    refine HT_region ?_
    refine HL_cons rfl ?_
    refine o_assign ?_
    try dsimp only [putL, setL, evL, getL]
    refine HL_nil ?_
    refine hK7 _ _ ?_
    refine joinH H fun G8 hG8 H => ?_
    refine HT_toK (fun l' s' => G8 (.go ()) = some r ∧ l' = [.slice A0p p0.length c0p, .slice A1p p1.length c1p, undef, undef, getL l' 4, getL l' 5, .slice A0p p0.length c0p, .int .i64 (p0.length : Int), .slice A1p p1.length c1p, .int .i64 (p1.length : Int), .bool ((p0.length : Int) != (p1.length : Int)), getL l' 11, getL l' 12, getL l' 13, getL l' 14, getL l' 15, getL l' 16, getL l' 17, getL l' 18, getL l' 19, getL l' 20, getL l' 21, getL l' 22, getL l' 23, getL l' 24, getL l' 25] ∧ Hp sb s F0 s' []) ?_ ?_
    · intro K8 hK8
      refine HT_block ?_
      refine HT_loopK (fun kf l' s' => ∃ (x48 : Int), (laws_eqIntS.l1 p0 p1 kf x48).bind G8 = some r ∧ l' = [.slice A0p p0.length c0p, .slice A1p p1.length c1p, undef, undef, getL l' 4, .int .i64 x48, .slice A0p p0.length c0p, .int .i64 (p0.length : Int), .slice A1p p1.length c1p, .int .i64 (p1.length : Int), .bool ((p0.length : Int) != (p1.length : Int)), getL l' 11, getL l' 12, getL l' 13, getL l' 14, getL l' 15, getL l' 16, getL l' 17, getL l' 18, getL l' 19, getL l' 20, getL l' 21, getL l' 22, getL l' 23, getL l' 24, getL l' 25] ∧ Hp sb s F0 s' []) ((((p0.length : Int)) - (0)).toNat + 2) ⟨0, H, rfl, hH⟩ ?_
      rintro kf l' s59 ⟨x48, H, hl, hH⟩ K59 hK59
      generalize getL l' 4 = j4, getL l' 11 = j11, getL l' 12 = j12, getL l' 13 = j13, getL l' 14 = j14, getL l' 15 = j15, getL l' 16 = j16, getL l' 17 = j17, getL l' 18 = j18, getL l' 19 = j19, getL l' 20 = j20, getL l' 21 = j21, getL l' 22 = j22, getL l' 23 = j23, getL l' 24 = j24, getL l' 25 = j25 at hl
      subst hl
      cases kf with
      | zero => simp [laws_eqIntS.l1] at H
      | succ kf =>
        rw [laws_eqIntS.l1] at H
        refine HT_seq_k ?_
        intro K60 hK60
        refine HT_seq_k ?_
        intro K61 hK61
        refine HT_region ?_
        refine HL_cons rfl ?_
        refine o_move ?_
        try dsimp only [putL, setL, evL, getL]
        refine HL_cons rfl ?_
        refine o_move ?_
        try dsimp only [putL, setL, evL, getL]
        refine HL_cons rfl ?_
        refine o_len rfl Try.underlying22 ?_
        try dsimp only [putL, setL, evL, getL]
        refine HL_cons rfl ?_
        refine o_bin rfl rfl rfl ?_
        try dsimp only [putL, setL, evL, getL]
        refine HL_nil ?_
        refine hK61 _ _ ?_
        rcases Bool.eq_false_or_eq_true (decide (x48 < (p0.length : Int))) with hb62 | hb62
        · replace H := iteT hb62 H
          refine HT_true (congrArg Value.bool hb62) ?_
          refine HT_skip ?_
          refine hK60 _ _ ?_
          refine HT_seq_k ?_
          intro K63 hK63
          refine HT_block ?_
          refine HT_seq_k ?_
          intro K64 hK64
          refine HK_draw (fun s' => Gro s59 s') 10 hMix ?_
          have hR := Gro.refl s59
          have hH0 := hH
          refine HK_readP 0 (v := .slice A0p p0.length c0p) rfl (by kernel_rfl) (fun c l s h => hQp c l s h) rfl (fun s' K hK => ?_) rfl rfl (fun _ => hR) ?_
          · refine o_move ?_
            exact hK
          try dsimp only [putL, setL, evL, getL]
          refine HK_readP 1 (v := .int .i64 x48) rfl (by kernel_rfl) (fun c l s h => hQp c l s h) rfl (fun s' K hK => ?_) rfl rfl (fun _ => hR) ?_
          · refine o_move ?_
            exact hK
          try dsimp only [putL, setL, evL, getL]
          obtain ⟨u65, hu65, H⟩ := headE H
          obtain ⟨b65, o65, cs65, hr65, hh65, hel65⟩ := Rd.elb HRp0 hu65
          obtain rfl := hr65
          refine HK_readP 2 (v := .pointer (some ⟨b65, o65, none⟩)) rfl (by kernel_rfl) (fun c l s h => hQp c l s h) rfl (fun s' K hK => ?_) rfl rfl (fun _ => hR) ?_
          · refine hel65 s' rfl rfl Try.underlying22 tI3 ?_
            exact hK
          try dsimp only [putL, setL, evL, getL]
          refine HK_read 3 (v := .int .i64 u65) rfl (by kernel_rfl) (fun c l s h => hQp c l s h) rfl (fun s' hR' K hK => ?_) rfl rfl hR ?_
          · refine o_load' rfl Try.underlying3 rfl ((hh65 (hH0.bs.mono.trans hR'.mono)) 0 _ rfl) ?_
            exact hK
          try dsimp only [putL, setL, evL, getL]
          refine HK_readP 4 (v := .slice A1p p1.length c1p) rfl (by kernel_rfl) (fun c l s h => hQp c l s h) rfl (fun s' K hK => ?_) rfl rfl (fun _ => hR) ?_
          · refine o_move ?_
            exact hK
          try dsimp only [putL, setL, evL, getL]
          refine HK_readP 5 (v := .int .i64 x48) rfl (by kernel_rfl) (fun c l s h => hQp c l s h) rfl (fun s' K hK => ?_) rfl rfl (fun _ => hR) ?_
          · refine o_move ?_
            exact hK
          try dsimp only [putL, setL, evL, getL]
          obtain ⟨u66, hu66, H⟩ := headE H
          obtain ⟨b66, o66, cs66, hr66, hh66, hel66⟩ := Rd.elb HRp1 hu66
          obtain rfl := hr66
          refine HK_readP 6 (v := .pointer (some ⟨b66, o66, none⟩)) rfl (by kernel_rfl) (fun c l s h => hQp c l s h) rfl (fun s' K hK => ?_) rfl rfl (fun _ => hR) ?_
          · refine hel66 s' rfl rfl Try.underlying22 tI3 ?_
            exact hK
          try dsimp only [putL, setL, evL, getL]
          refine HK_read 7 (v := .int .i64 u66) rfl (by kernel_rfl) (fun c l s h => hQp c l s h) rfl (fun s' hR' K hK => ?_) rfl rfl hR ?_
          · refine o_load' rfl Try.underlying3 rfl ((hh66 (hH0.bs.mono.trans hR'.mono)) 0 _ rfl) ?_
            exact hK
          try dsimp only [putL, setL, evL, getL]
          refine HK_readP 8 (v := .bool (u65 != u66)) rfl (by kernel_rfl) (fun c l s h => hQp c l s h) rfl (fun s' K hK => ?_) rfl rfl (fun _ => hR) ?_
          · refine o_bin rfl rfl rfl ?_
            exact hK
          try dsimp only [putL, setL, evL, getL]
          refine HK_done (fun _ => hR) (by kernel_rfl) ?_
          refine hK64 _ _ ?_
          rcases Bool.eq_false_or_eq_true (u65 != u66) with hb67 | hb67
          · replace H := iteT hb67 H
            refine HT_true (congrArg Value.bool hb67) ?_
            refine HT_seq_k ?_
            intro K68 hK68
            refine HT_region ?_
            refine HL_cons rfl ?_
            refine o_assign ?_
            try dsimp only [putL, setL, evL, getL]
            refine HL_nil ?_
            refine hK68 _ _ ?_
            refine HT_ret ?_
            replace H := escH (fun z hz => hG8 _ hz) H
            obtain rfl := Option.some.inj (show some _ = some r from H)
            exact hQr _ _ [.bool false] ⟨rfl, trivial⟩ ⟨rfl, hH⟩
          · replace H := iteF hb67 H
            refine HT_false (congrArg Value.bool hb67) ?_
            refine HT_skip ?_
            refine hK63 _ _ ?_
            refine HT_region ?_
            refine HL_cons rfl ?_
            refine o_move ?_
            try dsimp only [putL, setL, evL, getL]
            refine HL_cons rfl ?_
            refine o_bin rfl rfl rfl ?_
            try dsimp only [putL, setL, evL, getL]
            refine HL_cons rfl ?_
            refine o_assign ?_
            try dsimp only [putL, setL, evL, getL]
            refine HL_nil ?_
            exact hK59 _ _ ⟨kf, Nat.lt_succ_self kf, IntKind.i64.wrap (x48 + 1), H, rfl, hH⟩
        · replace H := iteF hb62 H
          refine HT_false (congrArg Value.bool hb62) ?_
          refine HT_exit ?_
          exact hK8 _ _ ⟨H, rfl, hH⟩
    · rintro l' s69 ⟨H, hl, hH⟩
      generalize getL l' 4 = j4, getL l' 5 = j5, getL l' 11 = j11, getL l' 12 = j12, getL l' 13 = j13, getL l' 14 = j14, getL l' 15 = j15, getL l' 16 = j16, getL l' 17 = j17, getL l' 18 = j18, getL l' 19 = j19, getL l' 20 = j20, getL l' 21 = j21, getL l' 22 = j22, getL l' 23 = j23, getL l' 24 = j24, getL l' 25 = j25 at hl
      subst hl
      replace H := hG8 _ H
      try dsimp only at H
      refine hK6 _ _ ?_
      refine HT_seq_k ?_
      intro K70 hK70
      refine HT_region ?_
      refine HL_cons rfl ?_
      refine o_assign ?_
      try dsimp only [putL, setL, evL, getL]
      refine HL_nil ?_
      refine hK70 _ _ ?_
      refine HT_ret ?_
      obtain rfl := Option.some.inj (show some _ = some r from H)
      exact hQr _ _ [.bool true] ⟨rfl, trivial⟩ ⟨rfl, hH⟩
def laws_eqEdit.f (p0_0 : Int) (p0_1 : List (Int)) (p1_0 : Int) (p1_1 : List (Int)) : Option Bool := if (p0_0 != p1_0) = true then (some false) else ((laws_eqIntS.f p0_1 p1_1).bind fun u10 => if (!u10) = true then (some false) else (some true))
def laws_eqEdit.post (sb s : St) (F0 : Fp) (r : Bool) : Value → St → Prop := fun v s' => v = .bool r ∧ Hp sb s F0 s' []
set_option maxRecDepth 100000 in
set_option maxHeartbeats 4000000 in
theorem laws_eqEdit.ok (sb s : St) (F0 : Fp) (p0_0 : Int) (A0_1p : Option Addr) (c0_1p : Nat) (p0_1 : List (Int)) (p1_0 : Int) (A1_1p : Option Addr) (c1_1p : Nat) (p1_1 : List (Int)) (HRp0_1 : Rd KI sb A0_1p c0_1p p0_1) (HRp1_1 : Rd KI sb A1_1p c1_1p p1_1) (hH : Hp sb s F0 s []) (r : Bool) (H : laws_eqEdit.f p0_0 p0_1 p1_0 p1_1 = some r) : GCall Try.prog 95 #[.agg #[.int .i64 p0_0, .slice A0_1p p0_1.length c0_1p], .agg #[.int .i64 p1_0, .slice A1_1p p1_1.length c1_1p]] s (laws_eqEdit.post sb s F0 r) := by
  refine GCall_ofk [.tmp 4] [.agg #[.int .i64 p0_0, .slice A0_1p p0_1.length c0_1p], .agg #[.int .i64 p1_0, .slice A1_1p p1_1.length c1_1p], undef, undef, undef, undef, undef, undef, undef, undef, undef, undef, undef, undef, undef, undef] Try.func95 rfl rfl rfl ?_
  intro w Q hQr hQn hQp
  replace H := topE H
  unfold laws_eqEdit.f at H
  refine HT_seq_k ?_
  intro K1 hK1
  refine HT_region ?_
  refine HL_cons rfl ?_
  refine o_boxH hH rfl ?_
  intro b2 s2 hH' hG
  replace hH : Hp sb s F0 s2 [Ck.ov b2 [.int .i64 p0_0, .slice A0_1p p0_1.length c0_1p] 99] := hH'
  clear hH' hG
  try dsimp only [putL, setL, evL, getL]
  refine HL_cons rfl ?_
  refine o_boxH hH rfl ?_
  intro b3 s3 hH' hG
  replace hH : Hp sb s F0 s3 [Ck.ov b2 [.int .i64 p0_0, .slice A0_1p p0_1.length c0_1p] 99, Ck.ov b3 [.int .i64 p1_0, .slice A1_1p p1_1.length c1_1p] 99] := hH'
  clear hH' hG
  try dsimp only [putL, setL, evL, getL]
  refine HL_cons rfl ?_
  refine o_assign ?_
  try dsimp only [putL, setL, evL, getL]
  refine HL_nil ?_
  refine hK1 _ _ ?_
  refine HT_seq_k ?_
  intro K4 hK4
  refine HT_seq_k ?_
  intro K5 hK5
  refine HT_region ?_
  refine HL_cons rfl ?_
  refine o_faddr' (ft := 3) (off := 0) rfl Try.underlying99 rfl tI3 (by decide) ?_
  try dsimp only [putL, setL, evL, getL]
  refine HL_cons rfl ?_
  refine o_load' rfl Try.underlying3 rfl (hH.hasv 0 rfl rfl) ?_
  try dsimp only [putL, setL, evL, getL]
  refine HL_cons rfl ?_
  refine o_faddr' (ft := 3) (off := 0) rfl Try.underlying99 rfl tI3 (by decide) ?_
  try dsimp only [putL, setL, evL, getL]
  refine HL_cons rfl ?_
  refine o_load' rfl Try.underlying3 rfl (hH.hasv 1 rfl rfl) ?_
  try dsimp only [putL, setL, evL, getL]
  refine HL_cons rfl ?_
  refine o_bin rfl rfl rfl ?_
  try dsimp only [putL, setL, evL, getL]
  refine HL_nil ?_
  refine hK5 _ _ ?_
  rcases Bool.eq_false_or_eq_true (p0_0 != p1_0) with hb6 | hb6
  · replace H := iteT hb6 H
    refine HT_true (congrArg Value.bool hb6) ?_
    refine HT_seq_k ?_
    intro K7 hK7
    refine HT_region ?_
    refine HL_cons rfl ?_
    refine o_assign ?_
    try dsimp only [putL, setL, evL, getL]
    refine HL_nil ?_
    refine hK7 _ _ ?_
    refine HT_ret ?_
    obtain rfl := Option.some.inj (show some _ = some r from H)
    exact hQr _ _ [.bool false] ⟨rfl, trivial⟩ ⟨rfl, hH.sel [] (by decide)⟩
  · replace H := iteF hb6 H
    refine HT_false (congrArg Value.bool hb6) ?_
    refine HT_skip ?_
    refine hK4 _ _ ?_
    refine HT_seq_k ?_
    intro K8 hK8
    refine HT_seq_k ?_
    intro K9 hK9
    refine HT_region ?_
    refine HL_cons rfl ?_
    refine o_faddr' (ft := 22) (off := 1) rfl Try.underlying99 rfl tI22 (by decide) ?_
    try dsimp only [putL, setL, evL, getL]
    refine HL_cons rfl ?_
    refine o_load' rfl Try.underlying22 rfl (hH.hasv 0 rfl rfl) ?_
    try dsimp only [putL, setL, evL, getL]
    refine HL_cons rfl ?_
    refine o_faddr' (ft := 22) (off := 1) rfl Try.underlying99 rfl tI22 (by decide) ?_
    try dsimp only [putL, setL, evL, getL]
    refine HL_cons rfl ?_
    refine o_load' rfl Try.underlying22 rfl (hH.hasv 1 rfl rfl) ?_
    try dsimp only [putL, setL, evL, getL]
    obtain ⟨u10, hu10, H⟩ := headE H
    refine HL_cons rfl ?_
    refine o_call (args := #[.slice A0_1p p0_1.length c0_1p, .slice A1_1p p1_1.length c1_1p]) Try.func18 rfl rfl rfl (laws_eqIntS.ok sb s3 no A0_1p c0_1p p0_1 A1_1p c1_1p p1_1 HRp0_1 HRp1_1 (Hp.own hH.bs) _ hu10) ?_
    rintro _ s10 ⟨rfl, hD⟩
    replace hH := hH.back0 hD (Up.refl _ _ _)
    clear hD
    dsimp only [addC, setC, rmC, selC, getC] at hH
    try dsimp only [putL, setL, evL, getL]
    refine HL_cons rfl ?_
    refine o_not rfl ?_
    try dsimp only [putL, setL, evL, getL]
    refine HL_nil ?_
    refine hK9 _ _ ?_
    rcases Bool.eq_false_or_eq_true (!u10) with hb11 | hb11
    · replace H := iteT hb11 H
      refine HT_true (congrArg Value.bool hb11) ?_
      refine HT_seq_k ?_
      intro K12 hK12
      refine HT_region ?_
      refine HL_cons rfl ?_
      refine o_assign ?_
      try dsimp only [putL, setL, evL, getL]
      refine HL_nil ?_
      refine hK12 _ _ ?_
      refine HT_ret ?_
      obtain rfl := Option.some.inj (show some _ = some r from H)
      exact hQr _ _ [.bool false] ⟨rfl, trivial⟩ ⟨rfl, hH.sel [] (by decide)⟩
    · replace H := iteF hb11 H
      refine HT_false (congrArg Value.bool hb11) ?_
      refine HT_skip ?_
      refine hK8 _ _ ?_
      refine HT_seq_k ?_
      intro K13 hK13
      refine HT_region ?_
      refine HL_cons rfl ?_
      refine o_assign ?_
      try dsimp only [putL, setL, evL, getL]
      refine HL_nil ?_
      refine hK13 _ _ ?_
      refine HT_ret ?_
      obtain rfl := Option.some.inj (show some _ = some r from H)
      exact hQr _ _ [.bool true] ⟨rfl, trivial⟩ ⟨rfl, hH.sel [] (by decide)⟩
def laws_eqEditS.l1 (p0 : List ((Int) × (List (Int)))) (p1 : List ((Int) × (List (Int)))) : Nat → Int → Option (Lo Unit Bool)
  | 0, _ => none
  | kf + 1, x60 => if (decide (x60 < (p0.length : Int))) = true then ((rd? p0 x60).bind fun u80 => (rd? p1 x60).bind fun u82 => (laws_eqEdit.f u80.1 u80.2 u82.1 u82.2).bind fun u84 => if (!u84) = true then ((some false).bind fun z => some (Lo.ret z)) else (laws_eqEditS.l1 p0 p1 kf (IntKind.i64.wrap (x60 + 1)))) else (some (Lo.go ()))
def laws_eqEditS.f (p0 : List ((Int) × (List (Int)))) (p1 : List ((Int) × (List (Int)))) : Option Bool := if ((p0.length : Int) != (p1.length : Int)) = true then (some false) else ((laws_eqEditS.l1 p0 p1 ((((p0.length : Int)) - (0)).toNat + 2) 0).bind fun (o : Lo Unit Bool) => match o with | .go () => (some true) | .ret z => some z)
def laws_eqEditS.post (sb s : St) (F0 : Fp) (r : Bool) : Value → St → Prop := fun v s' => v = .bool r ∧ Hp sb s F0 s' []
set_option maxRecDepth 100000 in
set_option maxHeartbeats 4000000 in
theorem laws_eqEditS.ok (sb s : St) (F0 : Fp) (A0p : Option Addr) (c0p : Nat) (p0 : List ((Int) × (List (Int)))) (A1p : Option Addr) (c1p : Nat) (p1 : List ((Int) × (List (Int)))) (HRp0 : Rd KS99 sb A0p c0p p0) (HRp1 : Rd KS99 sb A1p c1p p1) (hH : Hp sb s F0 s []) (r : Bool) (H : laws_eqEditS.f p0 p1 = some r) : GCall Try.prog 32 #[.slice A0p p0.length c0p, .slice A1p p1.length c1p] s (laws_eqEditS.post sb s F0 r) := by
  refine GCall_ofk [.tmp 4] [.slice A0p p0.length c0p, .slice A1p p1.length c1p, undef, undef, undef, undef, undef, undef, undef, undef, undef, undef, undef, undef, undef, undef, undef, undef, undef, undef, undef, undef, undef, undef, undef, undef, undef] Try.func32 rfl rfl rfl ?_
  intro w Q hQr hQn hQp
  replace H := topE H
  unfold laws_eqEditS.f at H
  refine HT_seq_k ?_
  intro K1 hK1
  refine HT_region ?_
  refine HL_cons rfl ?_
  refine o_assign ?_
  try dsimp only [putL, setL, evL, getL]
  refine HL_nil ?_
  refine hK1 _ _ ?_
  refine HT_seq_k ?_
  intro K2 hK2
  refine HT_seq_k ?_
  intro K3 hK3
  refine HT_region ?_
  refine HL_cons rfl ?_
  refine o_move ?_
  try dsimp only [putL, setL, evL, getL]
  refine HL_cons rfl ?_
  refine o_len rfl Try.underlying40 ?_
  try dsimp only [putL, setL, evL, getL]
  refine HL_cons rfl ?_
  refine o_move ?_
  try dsimp only [putL, setL, evL, getL]
  refine HL_cons rfl ?_
  refine o_len rfl Try.underlying40 ?_
  try dsimp only [putL, setL, evL, getL]
  refine HL_cons rfl ?_
  refine o_bin rfl rfl rfl ?_
  try dsimp only [putL, setL, evL, getL]
  refine HL_nil ?_
  refine hK3 _ _ ?_
  rcases Bool.eq_false_or_eq_true ((p0.length : Int) != (p1.length : Int)) with hb4 | hb4
  · replace H := iteT hb4 H
    refine HT_true (congrArg Value.bool hb4) ?_
    refine HT_seq_k ?_
    intro K5 hK5
    refine HT_region ?_
    refine HL_cons rfl ?_
    refine o_assign ?_
    try dsimp only [putL, setL, evL, getL]
    refine HL_nil ?_
    refine hK5 _ _ ?_
    refine HT_ret ?_
    obtain rfl := Option.some.inj (show some _ = some r from H)
    exact hQr _ _ [.bool false] ⟨rfl, trivial⟩ ⟨rfl, hH⟩
  · replace H := iteF hb4 H
    refine HT_false (congrArg Value.bool hb4) ?_
    refine HT_skip ?_
    refine hK2 _ _ ?_
    refine HT_seq_k ?_
    intro K6 hK6
    refine HT_seq_k ?_
    intro K7 hK7
    refine HT_region ?_
    refine HL_cons rfl ?_
    refine o_assign ?_
    try dsimp only [putL, setL, evL, getL]
    refine HL_nil ?_
    refine hK7 _ _ ?_
    refine joinH H fun G8 hG8 H => ?_
    refine HT_toK (fun l' s' => G8 (.go ()) = some r ∧ l' = [.slice A0p p0.length c0p, .slice A1p p1.length c1p, undef, undef, getL l' 4, getL l' 5, .slice A0p p0.length c0p, .int .i64 (p0.length : Int), .slice A1p p1.length c1p, .int .i64 (p1.length : Int), .bool ((p0.length : Int) != (p1.length : Int)), getL l' 11, getL l' 12, getL l' 13, getL l' 14, getL l' 15, getL l' 16, getL l' 17, getL l' 18, getL l' 19, getL l' 20, getL l' 21, getL l' 22, getL l' 23, getL l' 24, getL l' 25, getL l' 26] ∧ Hp sb s F0 s' []) ?_ ?_
    · intro K8 hK8
      refine HT_block ?_
      refine HT_loopK (fun kf l' s' => ∃ (x60 : Int), (laws_eqEditS.l1 p0 p1 kf x60).bind G8 = some r ∧ l' = [.slice A0p p0.length c0p, .slice A1p p1.length c1p, undef, undef, getL l' 4, .int .i64 x60, .slice A0p p0.length c0p, .int .i64 (p0.length : Int), .slice A1p p1.length c1p, .int .i64 (p1.length : Int), .bool ((p0.length : Int) != (p1.length : Int)), getL l' 11, getL l' 12, getL l' 13, getL l' 14, getL l' 15, getL l' 16, getL l' 17, getL l' 18, getL l' 19, getL l' 20, getL l' 21, getL l' 22, getL l' 23, getL l' 24, getL l' 25, getL l' 26] ∧ Hp sb s F0 s' []) ((((p0.length : Int)) - (0)).toNat + 2) ⟨0, H, rfl, hH⟩ ?_
      rintro kf l' s74 ⟨x60, H, hl, hH⟩ K74 hK74
      generalize getL l' 4 = j4, getL l' 11 = j11, getL l' 12 = j12, getL l' 13 = j13, getL l' 14 = j14, getL l' 15 = j15, getL l' 16 = j16, getL l' 17 = j17, getL l' 18 = j18, getL l' 19 = j19, getL l' 20 = j20, getL l' 21 = j21, getL l' 22 = j22, getL l' 23 = j23, getL l' 24 = j24, getL l' 25 = j25, getL l' 26 = j26 at hl
      subst hl
      cases kf with
      | zero => simp [laws_eqEditS.l1] at H
      | succ kf =>
        rw [laws_eqEditS.l1] at H
        refine HT_seq_k ?_
        intro K75 hK75
        refine HT_seq_k ?_
        intro K76 hK76
        refine HT_region ?_
        refine HL_cons rfl ?_
        refine o_move ?_
        try dsimp only [putL, setL, evL, getL]
        refine HL_cons rfl ?_
        refine o_move ?_
        try dsimp only [putL, setL, evL, getL]
        refine HL_cons rfl ?_
        refine o_len rfl Try.underlying40 ?_
        try dsimp only [putL, setL, evL, getL]
        refine HL_cons rfl ?_
        refine o_bin rfl rfl rfl ?_
        try dsimp only [putL, setL, evL, getL]
        refine HL_nil ?_
        refine hK76 _ _ ?_
        rcases Bool.eq_false_or_eq_true (decide (x60 < (p0.length : Int))) with hb77 | hb77
        · replace H := iteT hb77 H
          refine HT_true (congrArg Value.bool hb77) ?_
          refine HT_skip ?_
          refine hK75 _ _ ?_
          refine HT_seq_k ?_
          intro K78 hK78
          refine HT_block ?_
          refine HT_seq_k ?_
          intro K79 hK79
          refine HK_draw (fun s' => Gro s74 s') 11 hMix ?_
          have hR := Gro.refl s74
          have hH0 := hH
          refine HK_readP 0 (v := .slice A0p p0.length c0p) rfl (by kernel_rfl) (fun c l s h => hQp c l s h) rfl (fun s' K hK => ?_) rfl rfl (fun _ => hR) ?_
          · refine o_move ?_
            exact hK
          try dsimp only [putL, setL, evL, getL]
          refine HK_readP 1 (v := .int .i64 x60) rfl (by kernel_rfl) (fun c l s h => hQp c l s h) rfl (fun s' K hK => ?_) rfl rfl (fun _ => hR) ?_
          · refine o_move ?_
            exact hK
          try dsimp only [putL, setL, evL, getL]
          obtain ⟨u80, hu80, H⟩ := headE H
          obtain ⟨b80, o80, cs80, hr80, hh80, hel80⟩ := Rd.elb HRp0 hu80
          obtain ⟨_, _, rfl, rfl, ⟨A81, c81, rfl, D81⟩⟩ := hr80
          refine HK_readP 2 (v := .pointer (some ⟨b80, o80, none⟩)) rfl (by kernel_rfl) (fun c l s h => hQp c l s h) rfl (fun s' K hK => ?_) rfl rfl (fun _ => hR) ?_
          · refine hel80 s' rfl rfl Try.underlying40 tI99 ?_
            exact hK
          try dsimp only [putL, setL, evL, getL]
          refine HK_read 3 (v := .agg #[.int .i64 u80.1, .slice A81 u80.2.length c81]) rfl (by kernel_rfl) (fun c l s h => hQp c l s h) rfl (fun s' hR' K hK => ?_) rfl rfl hR ?_
          · refine o_loads' [.int .i64 u80.1, .slice A81 u80.2.length c81] rfl Try.underlying99 rfl tI99 rfl (fun j v hj => (hh80 (hH0.bs.mono.trans hR'.mono)) j v hj) ?_
            exact hK
          try dsimp only [putL, setL, evL, getL]
          refine HK_readP 4 (v := .slice A1p p1.length c1p) rfl (by kernel_rfl) (fun c l s h => hQp c l s h) rfl (fun s' K hK => ?_) rfl rfl (fun _ => hR) ?_
          · refine o_move ?_
            exact hK
          try dsimp only [putL, setL, evL, getL]
          refine HK_readP 5 (v := .int .i64 x60) rfl (by kernel_rfl) (fun c l s h => hQp c l s h) rfl (fun s' K hK => ?_) rfl rfl (fun _ => hR) ?_
          · refine o_move ?_
            exact hK
          try dsimp only [putL, setL, evL, getL]
          obtain ⟨u82, hu82, H⟩ := headE H
          obtain ⟨b82, o82, cs82, hr82, hh82, hel82⟩ := Rd.elb HRp1 hu82
          obtain ⟨_, _, rfl, rfl, ⟨A83, c83, rfl, D83⟩⟩ := hr82
          refine HK_readP 6 (v := .pointer (some ⟨b82, o82, none⟩)) rfl (by kernel_rfl) (fun c l s h => hQp c l s h) rfl (fun s' K hK => ?_) rfl rfl (fun _ => hR) ?_
          · refine hel82 s' rfl rfl Try.underlying40 tI99 ?_
            exact hK
          try dsimp only [putL, setL, evL, getL]
          refine HK_read 7 (v := .agg #[.int .i64 u82.1, .slice A83 u82.2.length c83]) rfl (by kernel_rfl) (fun c l s h => hQp c l s h) rfl (fun s' hR' K hK => ?_) rfl rfl hR ?_
          · refine o_loads' [.int .i64 u82.1, .slice A83 u82.2.length c83] rfl Try.underlying99 rfl tI99 rfl (fun j v hj => (hh82 (hH0.bs.mono.trans hR'.mono)) j v hj) ?_
            exact hK
          try dsimp only [putL, setL, evL, getL]
          obtain ⟨u84, hu84, H⟩ := headE H
          refine HK_one 8 (by kernel_rfl) rfl (fun _ => hR) rfl ?_
          refine o_call (args := #[.agg #[.int .i64 u80.1, .slice A81 u80.2.length c81], .agg #[.int .i64 u82.1, .slice A83 u82.2.length c83]]) Try.func95 rfl rfl rfl (laws_eqEdit.ok sb s74 no u80.1 A81 c81 u80.2 u82.1 A83 c83 u82.2 D81 D83 (Hp.own hH.bs) _ hu84) ?_
          rintro _ s84 ⟨rfl, hD⟩
          replace hR := hR.trans hD.gro
          replace hH := hH.back0 hD (Up.refl _ _ _)
          clear hD
          dsimp only [addC, setC, rmC, selC, getC] at hH
          try dsimp only [putL, setL, evL, getL]
          refine HK_readP 9 (v := .bool (!u84)) rfl (by kernel_rfl) (fun c l s h => hQp c l s h) rfl (fun s' K hK => ?_) rfl rfl (fun _ => hR) ?_
          · refine o_not rfl ?_
            exact hK
          try dsimp only [putL, setL, evL, getL]
          refine HK_done (fun _ => hR) (by kernel_rfl) ?_
          refine hK79 _ _ ?_
          rcases Bool.eq_false_or_eq_true (!u84) with hb85 | hb85
          · replace H := iteT hb85 H
            refine HT_true (congrArg Value.bool hb85) ?_
            refine HT_seq_k ?_
            intro K86 hK86
            refine HT_region ?_
            refine HL_cons rfl ?_
            refine o_assign ?_
            try dsimp only [putL, setL, evL, getL]
            refine HL_nil ?_
            refine hK86 _ _ ?_
            refine HT_ret ?_
            replace H := escH (fun z hz => hG8 _ hz) H
            obtain rfl := Option.some.inj (show some _ = some r from H)
            exact hQr _ _ [.bool false] ⟨rfl, trivial⟩ ⟨rfl, hH⟩
          · replace H := iteF hb85 H
            refine HT_false (congrArg Value.bool hb85) ?_
            refine HT_skip ?_
            refine hK78 _ _ ?_
            refine HT_region ?_
            refine HL_cons rfl ?_
            refine o_move ?_
            try dsimp only [putL, setL, evL, getL]
            refine HL_cons rfl ?_
            refine o_bin rfl rfl rfl ?_
            try dsimp only [putL, setL, evL, getL]
            refine HL_cons rfl ?_
            refine o_assign ?_
            try dsimp only [putL, setL, evL, getL]
            refine HL_nil ?_
            exact hK74 _ _ ⟨kf, Nat.lt_succ_self kf, IntKind.i64.wrap (x60 + 1), H, rfl, hH⟩
        · replace H := iteF hb77 H
          refine HT_false (congrArg Value.bool hb77) ?_
          refine HT_exit ?_
          exact hK8 _ _ ⟨H, rfl, hH⟩
    · rintro l' s87 ⟨H, hl, hH⟩
      generalize getL l' 4 = j4, getL l' 5 = j5, getL l' 11 = j11, getL l' 12 = j12, getL l' 13 = j13, getL l' 14 = j14, getL l' 15 = j15, getL l' 16 = j16, getL l' 17 = j17, getL l' 18 = j18, getL l' 19 = j19, getL l' 20 = j20, getL l' 21 = j21, getL l' 22 = j22, getL l' 23 = j23, getL l' 24 = j24, getL l' 25 = j25, getL l' 26 = j26 at hl
      subst hl
      replace H := hG8 _ H
      try dsimp only at H
      refine hK6 _ _ ?_
      refine HT_seq_k ?_
      intro K88 hK88
      refine HT_region ?_
      refine HL_cons rfl ?_
      refine o_assign ?_
      try dsimp only [putL, setL, evL, getL]
      refine HL_nil ?_
      refine hK88 _ _ ?_
      refine HT_ret ?_
      obtain rfl := Option.some.inj (show some _ = some r from H)
      exact hQr _ _ [.bool true] ⟨rfl, trivial⟩ ⟨rfl, hH⟩
def laws_markIntS.l1 (p0 : List (Int)) : Nat → (List (Int)) → Int → Int → Option (Int × (List (Int)))
  | 0, _, _, _ => none
  | kf + 1, x42, x43, x44 => if (decide (x44 < (p0.length : Int))) = true then ((rd? x42 x44).bind fun u61 => (st? x42 x44 x43).bind fun x62 => laws_markIntS.l1 p0 kf x62 (IntKind.i64.wrap (x43 + 1)) (IntKind.i64.wrap (x44 + 1))) else (some (x43, x42))
def laws_markIntS.f (p0 : List (Int)) (p1 : Int) : Option (Int × (List (Int))) := (laws_markIntS.l1 p0 ((((p0.length : Int)) - (0)).toNat + 2) p0 p1 0).bind fun (o : Int × (List (Int))) => match o with | (x33, x34) => (some (x33, x34))
def laws_markIntS.post (sb s : St) (F0 : Fp) (A0p : Option Addr) (c0p : Nat) (p0 : List (Int)) (r : Int × (List (Int))) : Value → St → Prop := fun v s' => v = .int .i64 r.1 ∧ Hp sb s F0 s' [Ck.ol OI 3 A0p c0p r.2] ∧ r.2.length = p0.length
set_option maxRecDepth 100000 in
set_option maxHeartbeats 4000000 in
theorem laws_markIntS.ok (sb s : St) (F0 : Fp) (A0p : Option Addr) (c0p : Nat) (p0 : List (Int)) (p1 : Int) (hH : Hp sb s F0 s [Ck.ol OI 3 A0p c0p p0]) (r : Int × (List (Int))) (H : laws_markIntS.f p0 p1 = some r) : GCall Try.prog 19 #[.slice A0p p0.length c0p, .int .i64 p1] s (laws_markIntS.post sb s F0 A0p c0p p0 r) := by
  refine GCall_ofk [.tmp 4] [.slice A0p p0.length c0p, .int .i64 p1, undef, undef, undef, undef, undef, undef, undef, undef, undef, undef, undef, undef, undef, undef, undef, undef, undef] Try.func19 rfl rfl rfl ?_
  intro w Q hQr hQn hQp
  replace H := topE H
  unfold laws_markIntS.f at H
  refine HT_seq_k ?_
  intro K1 hK1
  refine HT_region ?_
  refine HL_cons rfl ?_
  refine o_assign ?_
  try dsimp only [putL, setL, evL, getL]
  refine HL_nil ?_
  refine hK1 _ _ ?_
  refine HT_seq_k ?_
  intro K2 hK2
  refine HT_seq_k ?_
  intro K3 hK3
  refine HT_region ?_
  refine HL_cons rfl ?_
  refine o_assign ?_
  try dsimp only [putL, setL, evL, getL]
  refine HL_nil ?_
  refine hK3 _ _ ?_
  refine joinH H fun G4 hG4 H => ?_
  refine HT_toK (fun l' s' => ∃ (x33 : Int) (x34 : List (Int)), G4 (x33, x34) = some r ∧ l' = [.slice A0p p0.length c0p, .int .i64 x33, undef, undef, .int .i64 0, getL l' 5, getL l' 6, getL l' 7, getL l' 8, getL l' 9, getL l' 10, getL l' 11, getL l' 12, getL l' 13, getL l' 14, getL l' 15, getL l' 16, getL l' 17, undef] ∧ Hp sb s F0 s' [Ck.ol OI 3 A0p c0p x34] ∧ x34.length = p0.length) ?_ ?_
  · intro K4 hK4
    refine HT_block ?_
    refine HT_loopK (fun kf l' s' => ∃ (x42 : List (Int)) (x43 : Int) (x44 : Int), (laws_markIntS.l1 p0 kf x42 x43 x44).bind G4 = some r ∧ l' = [.slice A0p p0.length c0p, .int .i64 x43, undef, undef, .int .i64 0, .int .i64 x44, getL l' 6, getL l' 7, getL l' 8, getL l' 9, getL l' 10, getL l' 11, getL l' 12, getL l' 13, getL l' 14, getL l' 15, getL l' 16, getL l' 17, undef] ∧ Hp sb s F0 s' [Ck.ol OI 3 A0p c0p x42] ∧ x42.length = p0.length) ((((p0.length : Int)) - (0)).toNat + 2) ⟨p0, p1, 0, H, rfl, hH, rfl⟩ ?_
    rintro kf l' s55 ⟨x42, x43, x44, H, hl, hH, hl42⟩ K55 hK55
    generalize getL l' 6 = j6, getL l' 7 = j7, getL l' 8 = j8, getL l' 9 = j9, getL l' 10 = j10, getL l' 11 = j11, getL l' 12 = j12, getL l' 13 = j13, getL l' 14 = j14, getL l' 15 = j15, getL l' 16 = j16, getL l' 17 = j17 at hl
    subst hl
    cases kf with
    | zero => simp [laws_markIntS.l1] at H
    | succ kf =>
      rw [laws_markIntS.l1] at H
      refine HT_seq_k ?_
      intro K56 hK56
      refine HT_seq_k ?_
      intro K57 hK57
      refine HT_region ?_
      refine HL_cons rfl ?_
      refine o_move ?_
      try dsimp only [putL, setL, evL, getL]
      refine HL_cons rfl ?_
      refine o_move ?_
      try dsimp only [putL, setL, evL, getL]
      refine HL_cons rfl ?_
      refine o_len rfl Try.underlying22 ?_
      try dsimp only [putL, setL, evL, getL]
      refine HL_cons rfl ?_
      refine o_bin rfl rfl rfl ?_
      try dsimp only [putL, setL, evL, getL]
      refine HL_nil ?_
      refine hK57 _ _ ?_
      rcases Bool.eq_false_or_eq_true (decide (x44 < (p0.length : Int))) with hb58 | hb58
      · replace H := iteT hb58 H
        refine HT_true (congrArg Value.bool hb58) ?_
        refine HT_skip ?_
        refine hK56 _ _ ?_
        refine HT_seq_k ?_
        intro K59 hK59
        refine HT_block ?_
        refine HT_seq_k ?_
        intro K60 hK60
        refine HT_region ?_
        refine HL_cons rfl ?_
        refine o_move ?_
        try dsimp only [putL, setL, evL, getL]
        refine HL_cons rfl ?_
        refine o_move ?_
        try dsimp only [putL, setL, evL, getL]
        refine HL_cons rfl ?_
        refine o_move ?_
        try dsimp only [putL, setL, evL, getL]
        obtain ⟨u61, hu61, H⟩ := headE H
        obtain ⟨b61, o61, cs61, hA61, hr61, hh61, hel61⟩ := hH.elo 0 rfl hu61
        obtain rfl := hr61
        refine HL_cons rfl ?_
        refine hel61 s55 (sliceLen hl42) rfl Try.underlying22 tI3 ?_
        try dsimp only [putL, setL, evL, getL]
        obtain ⟨x62, hx62, H⟩ := headE H
        refine HL_cons rfl ?_
        refine o_setF (vs := [.int .i64 x43]) (u := x43) hH 0 rfl rfl rfl rfl rfl tI3 hA61 hx62 (Ent.own (Ent.flat rfl)) ?_
        intro s62 hH'
        have hl62 := (st?_len hx62).trans hl42
        replace hH : Hp sb s F0 s62 [Ck.ol OI 3 A0p c0p x62] := hH'
        clear hH'
        try dsimp only [putL, setL, evL, getL]
        refine HL_nil ?_
        refine hK60 _ _ ?_
        refine HT_region ?_
        refine HL_cons rfl ?_
        refine o_move ?_
        try dsimp only [putL, setL, evL, getL]
        refine HL_cons rfl ?_
        refine o_bin rfl rfl rfl ?_
        try dsimp only [putL, setL, evL, getL]
        refine HL_cons rfl ?_
        refine o_assign ?_
        try dsimp only [putL, setL, evL, getL]
        refine HL_nil ?_
        refine hK59 _ _ ?_
        refine HT_region ?_
        refine HL_cons rfl ?_
        refine o_move ?_
        try dsimp only [putL, setL, evL, getL]
        refine HL_cons rfl ?_
        refine o_bin rfl rfl rfl ?_
        try dsimp only [putL, setL, evL, getL]
        refine HL_cons rfl ?_
        refine o_assign ?_
        try dsimp only [putL, setL, evL, getL]
        refine HL_nil ?_
        exact hK55 _ _ ⟨kf, Nat.lt_succ_self kf, x62, IntKind.i64.wrap (x43 + 1), IntKind.i64.wrap (x44 + 1), H, rfl, hH, hl62⟩
      · replace H := iteF hb58 H
        refine HT_false (congrArg Value.bool hb58) ?_
        refine HT_exit ?_
        exact hK4 _ _ ⟨x43, x42, H, rfl, hH, hl42⟩
  · rintro l' s63 ⟨x33, x34, H, hl, hH, hl34⟩
    generalize getL l' 5 = j5, getL l' 6 = j6, getL l' 7 = j7, getL l' 8 = j8, getL l' 9 = j9, getL l' 10 = j10, getL l' 11 = j11, getL l' 12 = j12, getL l' 13 = j13, getL l' 14 = j14, getL l' 15 = j15, getL l' 16 = j16, getL l' 17 = j17 at hl
    subst hl
    replace H := hG4 _ H
    try dsimp only at H
    refine hK2 _ _ ?_
    refine HT_seq_k ?_
    intro K64 hK64
    refine HT_region ?_
    refine HL_cons rfl ?_
    refine o_move ?_
    try dsimp only [putL, setL, evL, getL]
    refine HL_cons rfl ?_
    refine o_assign ?_
    try dsimp only [putL, setL, evL, getL]
    refine HL_nil ?_
    refine hK64 _ _ ?_
    refine HT_ret ?_
    obtain rfl := Option.some.inj (show some _ = some r from H)
    exact hQr _ _ [.int .i64 x33] ⟨rfl, trivial⟩ ⟨rfl, hH, hl34⟩
def laws_markEditS.l1 (p0 : List ((Int) × (List (Int)))) : Nat → (List ((Int) × (List (Int)))) → Int → Int → Option (Int × (List ((Int) × (List (Int)))))
  | 0, _, _, _ => none
  | kf + 1, x78, x79, x80 => if (decide (x80 < (p0.length : Int))) = true then ((rd? x78 x80).bind fun u106 => (st? x78 x80 (x79, u106.2)).bind fun x108 => (rd? x108 x80).bind fun u110 => (laws_markIntS.f u110.2 (IntKind.i64.wrap (x79 + 1))).bind fun u114 => (st? x108 x80 (u110.1, u114.2)).bind fun x116 => laws_markEditS.l1 p0 kf x116 u114.1 (IntKind.i64.wrap (x80 + 1))) else (some (x79, x78))
def laws_markEditS.f (p0 : List ((Int) × (List (Int)))) (p1 : Int) : Option (Int × (List ((Int) × (List (Int))))) := (laws_markEditS.l1 p0 ((((p0.length : Int)) - (0)).toNat + 2) p0 p1 0).bind fun (o : Int × (List ((Int) × (List (Int))))) => match o with | (x60, x61) => (some (x60, x61))
def laws_markEditS.post (sb s : St) (F0 : Fp) (A0p : Option Addr) (c0p : Nat) (p0 : List ((Int) × (List (Int)))) (r : Int × (List ((Int) × (List (Int))))) : Value → St → Prop := fun v s' => v = .int .i64 r.1 ∧ Hp sb s F0 s' [Ck.ol OS99 99 A0p c0p r.2] ∧ r.2.length = p0.length
set_option maxRecDepth 100000 in
set_option maxHeartbeats 4000000 in
theorem laws_markEditS.ok (sb s : St) (F0 : Fp) (A0p : Option Addr) (c0p : Nat) (p0 : List ((Int) × (List (Int)))) (p1 : Int) (hH : Hp sb s F0 s [Ck.ol OS99 99 A0p c0p p0]) (r : Int × (List ((Int) × (List (Int))))) (H : laws_markEditS.f p0 p1 = some r) : GCall Try.prog 33 #[.slice A0p p0.length c0p, .int .i64 p1] s (laws_markEditS.post sb s F0 A0p c0p p0 r) := by
  refine GCall_ofk [.tmp 4] [.slice A0p p0.length c0p, .int .i64 p1, undef, undef, undef, undef, undef, undef, undef, undef, undef, undef, undef, undef, undef, undef, undef, undef, undef, undef, undef, undef, undef, undef, undef, undef, undef] Try.func33 rfl rfl rfl ?_
  intro w Q hQr hQn hQp
  replace H := topE H
  unfold laws_markEditS.f at H
  refine HT_seq_k ?_
  intro K1 hK1
  refine HT_region ?_
  refine HL_cons rfl ?_
  refine o_assign ?_
  try dsimp only [putL, setL, evL, getL]
  refine HL_nil ?_
  refine hK1 _ _ ?_
  refine HT_seq_k ?_
  intro K2 hK2
  refine HT_seq_k ?_
  intro K3 hK3
  refine HT_region ?_
  refine HL_cons rfl ?_
  refine o_assign ?_
  try dsimp only [putL, setL, evL, getL]
  refine HL_nil ?_
  refine hK3 _ _ ?_
  refine joinH H fun G4 hG4 H => ?_
  refine HT_toK (fun l' s' => ∃ (x60 : Int) (x61 : List ((Int) × (List (Int)))), G4 (x60, x61) = some r ∧ l' = [.slice A0p p0.length c0p, .int .i64 x60, undef, undef, .int .i64 0, getL l' 5, getL l' 6, getL l' 7, getL l' 8, getL l' 9, getL l' 10, getL l' 11, getL l' 12, getL l' 13, getL l' 14, getL l' 15, getL l' 16, getL l' 17, getL l' 18, getL l' 19, getL l' 20, getL l' 21, getL l' 22, getL l' 23, getL l' 24, getL l' 25, undef] ∧ Hp sb s F0 s' [Ck.ol OS99 99 A0p c0p x61] ∧ x61.length = p0.length) ?_ ?_
  · intro K4 hK4
    refine HT_block ?_
    refine HT_loopK (fun kf l' s' => ∃ (x78 : List ((Int) × (List (Int)))) (x79 : Int) (x80 : Int), (laws_markEditS.l1 p0 kf x78 x79 x80).bind G4 = some r ∧ l' = [.slice A0p p0.length c0p, .int .i64 x79, undef, undef, .int .i64 0, .int .i64 x80, getL l' 6, getL l' 7, getL l' 8, getL l' 9, getL l' 10, getL l' 11, getL l' 12, getL l' 13, getL l' 14, getL l' 15, getL l' 16, getL l' 17, getL l' 18, getL l' 19, getL l' 20, getL l' 21, getL l' 22, getL l' 23, getL l' 24, getL l' 25, undef] ∧ Hp sb s F0 s' [Ck.ol OS99 99 A0p c0p x78] ∧ x78.length = p0.length) ((((p0.length : Int)) - (0)).toNat + 2) ⟨p0, p1, 0, H, rfl, hH, rfl⟩ ?_
    rintro kf l' s100 ⟨x78, x79, x80, H, hl, hH, hl78⟩ K100 hK100
    generalize getL l' 6 = j6, getL l' 7 = j7, getL l' 8 = j8, getL l' 9 = j9, getL l' 10 = j10, getL l' 11 = j11, getL l' 12 = j12, getL l' 13 = j13, getL l' 14 = j14, getL l' 15 = j15, getL l' 16 = j16, getL l' 17 = j17, getL l' 18 = j18, getL l' 19 = j19, getL l' 20 = j20, getL l' 21 = j21, getL l' 22 = j22, getL l' 23 = j23, getL l' 24 = j24, getL l' 25 = j25 at hl
    subst hl
    cases kf with
    | zero => simp [laws_markEditS.l1] at H
    | succ kf =>
      rw [laws_markEditS.l1] at H
      refine HT_seq_k ?_
      intro K101 hK101
      refine HT_seq_k ?_
      intro K102 hK102
      refine HT_region ?_
      refine HL_cons rfl ?_
      refine o_move ?_
      try dsimp only [putL, setL, evL, getL]
      refine HL_cons rfl ?_
      refine o_move ?_
      try dsimp only [putL, setL, evL, getL]
      refine HL_cons rfl ?_
      refine o_len rfl Try.underlying40 ?_
      try dsimp only [putL, setL, evL, getL]
      refine HL_cons rfl ?_
      refine o_bin rfl rfl rfl ?_
      try dsimp only [putL, setL, evL, getL]
      refine HL_nil ?_
      refine hK102 _ _ ?_
      rcases Bool.eq_false_or_eq_true (decide (x80 < (p0.length : Int))) with hb103 | hb103
      · replace H := iteT hb103 H
        refine HT_true (congrArg Value.bool hb103) ?_
        refine HT_skip ?_
        refine hK101 _ _ ?_
        refine HT_seq_k ?_
        intro K104 hK104
        refine HT_block ?_
        refine HT_seq_k ?_
        intro K105 hK105
        refine HT_region ?_
        refine HL_cons rfl ?_
        refine o_move ?_
        try dsimp only [putL, setL, evL, getL]
        refine HL_cons rfl ?_
        refine o_move ?_
        try dsimp only [putL, setL, evL, getL]
        refine HL_cons rfl ?_
        refine o_move ?_
        try dsimp only [putL, setL, evL, getL]
        obtain ⟨u106, hu106, H⟩ := headE H
        obtain ⟨b106, o106, cs106, hA106, hr106, hh106, hel106⟩ := hH.elo 0 rfl hu106
        obtain ⟨_, _, rfl, rfl, ⟨A107, c107, rfl, D107⟩⟩ := hr106
        refine HL_cons rfl ?_
        refine hel106 s100 (sliceLen hl78) rfl Try.underlying40 tI99 ?_
        try dsimp only [putL, setL, evL, getL]
        refine HL_cons rfl ?_
        refine o_faddr' (ft := 3) (off := 0) rfl Try.underlying99 rfl tI3 (by decide) ?_
        try dsimp only [putL, setL, evL, getL]
        obtain ⟨x108, hx108, H⟩ := headE H
        refine HL_cons rfl ?_
        refine o_setf (u := u106) (u' := (x79, u106.2)) (off := 0) hH 0 rfl rfl rfl rfl tI3 hA106 hu106 (Fup.left Fup.int) hx108 ?_
        intro s108 hH'
        have hl108 := (st?_len hx108).trans hl78
        replace hH : Hp sb s F0 s108 [Ck.ol OS99 99 A0p c0p x108] := hH'
        clear hH'
        try dsimp only [putL, setL, evL, getL]
        refine HL_nil ?_
        refine hK105 _ _ ?_
        refine HT_seq_k ?_
        intro K109 hK109
        refine HT_region ?_
        refine HL_cons rfl ?_
        refine o_move ?_
        try dsimp only [putL, setL, evL, getL]
        refine HL_cons rfl ?_
        refine o_bin rfl rfl rfl ?_
        try dsimp only [putL, setL, evL, getL]
        refine HL_cons rfl ?_
        refine o_assign ?_
        try dsimp only [putL, setL, evL, getL]
        refine HL_nil ?_
        refine hK109 _ _ ?_
        refine HT_region ?_
        refine HL_cons rfl ?_
        refine o_move ?_
        try dsimp only [putL, setL, evL, getL]
        refine HL_cons rfl ?_
        refine o_move ?_
        try dsimp only [putL, setL, evL, getL]
        obtain ⟨u110, hu110, H⟩ := headE H
        obtain ⟨b110, o110, vs110, hA110, -, hH⟩ := hH.open 0 rfl rfl hu110
        dsimp only [addC, setC, rmC, selC, getC] at hH
        obtain ⟨v111, v112, rfl, hH⟩ := hH.el_pair 1 rfl rfl
        dsimp only [addC, setC, rmC, selC, getC] at hH
        obtain rfl := hH.el_rep 1 rfl
        replace hH := hH.drop 1 rfl
        dsimp only [addC, setC, rmC, selC, getC] at hH
        obtain ⟨A113, c113, rfl, hH⟩ := hH.el_sl 2 rfl rfl
        dsimp only [addC, setC, rmC, selC, getC] at hH
        replace hH : Hp sb s F0 s108 [Ck.oh OS99 99 A0p c0p x108 (Int.toNat x80) [.int .i64 u110.1, .slice A113 u110.2.length c113], Ck.emp, Ck.ol OI 3 A113 c113 u110.2] := hH
        refine HL_cons rfl ?_
        refine iaddr_of (K := KS99) hA110 hu110 s108 (sliceLen hl108) rfl Try.underlying40 tI99 ?_
        try dsimp only [putL, setL, evL, getL]
        refine HL_cons rfl ?_
        refine o_faddr' (ft := 22) (off := 1) rfl Try.underlying99 rfl tI22 (by decide) ?_
        try dsimp only [putL, setL, evL, getL]
        refine HL_cons rfl ?_
        refine o_load' rfl Try.underlying22 rfl (hH.hasoh 0 rfl hA110 1 _ rfl) ?_
        try dsimp only [putL, setL, evL, getL]
        refine HL_cons rfl ?_
        refine o_move ?_
        try dsimp only [putL, setL, evL, getL]
        obtain ⟨u114, hu114, H⟩ := headE H
        obtain ⟨F1, hA, hB⟩ := hH.take [2] (by decide)
        dsimp only [addC, setC, rmC, selC, getC] at hA
        refine HL_cons rfl ?_
        refine o_call (args := #[.slice A113 u110.2.length c113, .int .i64 (IntKind.i64.wrap (x79 + 1))]) Try.func19 rfl rfl rfl (laws_markIntS.ok sb s108 F1 A113 c113 u110.2 (IntKind.i64.wrap (x79 + 1)) hA _ hu114) ?_
        rintro _ s114 ⟨rfl, hD, hl115⟩
        replace hH := hB _ _ _ (Up.refl _ _ _) hD
        clear hD hA hB
        dsimp only [addC, setC, rmC, selC, getC] at hH
        try dsimp only [putL, setL, evL, getL]
        refine HL_cons rfl ?_
        refine o_assign ?_
        try dsimp only [putL, setL, evL, getL]
        refine HL_nil ?_
        refine hK104 _ _ ?_
        refine HT_region ?_
        refine HL_cons rfl ?_
        refine o_move ?_
        try dsimp only [putL, setL, evL, getL]
        refine HL_cons rfl ?_
        refine o_bin rfl rfl rfl ?_
        try dsimp only [putL, setL, evL, getL]
        refine HL_cons rfl ?_
        refine o_assign ?_
        try dsimp only [putL, setL, evL, getL]
        refine HL_nil ?_
        replace hH := hH.conv [3] (by decide) (d := Ck.el OS99 [.int .i64 u110.1, .slice A113 u110.2.length c113] (u110.1, u114.2)) (Ent.pair (v1 := [.int .i64 u110.1]) (v2 := [.slice A113 u110.2.length c113]) (x1 := u110.1) (x2 := u114.2) (Ent.flat rfl) (Ent.slL hl115))
        dsimp only [addC, setC, rmC, selC, getC] at hH
        obtain ⟨x116, hx116, H⟩ := headE H
        replace hH := hH.close (i := x80) 0 4 (by decide) rfl rfl rfl hx116
        dsimp only [addC, setC, rmC, selC, getC] at hH
        have hl116 := (st?_len hx116).trans hl108
        replace hH : Hp sb s F0 s114 [Ck.ol OS99 99 A0p c0p x116, Ck.emp, Ck.emp, Ck.emp, Ck.emp] := hH
        exact hK100 _ _ ⟨kf, Nat.lt_succ_self kf, x116, u114.1, IntKind.i64.wrap (x80 + 1), H, rfl, hH.sel [0] (by decide), hl116⟩
      · replace H := iteF hb103 H
        refine HT_false (congrArg Value.bool hb103) ?_
        refine HT_exit ?_
        exact hK4 _ _ ⟨x79, x78, H, rfl, hH, hl78⟩
  · rintro l' s117 ⟨x60, x61, H, hl, hH, hl61⟩
    generalize getL l' 5 = j5, getL l' 6 = j6, getL l' 7 = j7, getL l' 8 = j8, getL l' 9 = j9, getL l' 10 = j10, getL l' 11 = j11, getL l' 12 = j12, getL l' 13 = j13, getL l' 14 = j14, getL l' 15 = j15, getL l' 16 = j16, getL l' 17 = j17, getL l' 18 = j18, getL l' 19 = j19, getL l' 20 = j20, getL l' 21 = j21, getL l' 22 = j22, getL l' 23 = j23, getL l' 24 = j24, getL l' 25 = j25 at hl
    subst hl
    replace H := hG4 _ H
    try dsimp only at H
    refine hK2 _ _ ?_
    refine HT_seq_k ?_
    intro K118 hK118
    refine HT_region ?_
    refine HL_cons rfl ?_
    refine o_move ?_
    try dsimp only [putL, setL, evL, getL]
    refine HL_cons rfl ?_
    refine o_assign ?_
    try dsimp only [putL, setL, evL, getL]
    refine HL_nil ?_
    refine hK118 _ _ ?_
    refine HT_ret ?_
    obtain rfl := Option.some.inj (show some _ = some r from H)
    exact hQr _ _ [.int .i64 x60] ⟨rfl, trivial⟩ ⟨rfl, hH, hl61⟩
def laws_heldIntS.l1 (p0 : List (Int)) : Nat → Int → Int → Option (Lo Int Int)
  | 0, _, _ => none
  | kf + 1, x47, x48 => if (decide (x48 < (p0.length : Int))) = true then ((rd? p0 x48).bind fun u67 => if (u67 != x47) = true then ((some (-1)).bind fun z => some (Lo.ret z)) else (laws_heldIntS.l1 p0 kf (IntKind.i64.wrap (x47 + 1)) (IntKind.i64.wrap (x48 + 1)))) else (some (Lo.go x47))
def laws_heldIntS.f (p0 : List (Int)) (p1 : Int) : Option Int := (laws_heldIntS.l1 p0 ((((p0.length : Int)) - (0)).toNat + 2) p1 0).bind fun (o : Lo Int Int) => match o with | .go x37 => (some x37) | .ret z => some z
def laws_heldIntS.post (sb s : St) (F0 : Fp) (r : Int) : Value → St → Prop := fun v s' => v = .int .i64 r ∧ Hp sb s F0 s' []
set_option maxRecDepth 100000 in
set_option maxHeartbeats 4000000 in
theorem laws_heldIntS.ok (sb s : St) (F0 : Fp) (A0p : Option Addr) (c0p : Nat) (p0 : List (Int)) (p1 : Int) (HRp0 : Rd KI sb A0p c0p p0) (hH : Hp sb s F0 s []) (r : Int) (H : laws_heldIntS.f p0 p1 = some r) : GCall Try.prog 20 #[.slice A0p p0.length c0p, .int .i64 p1] s (laws_heldIntS.post sb s F0 r) := by
  refine GCall_ofk [.tmp 4] [.slice A0p p0.length c0p, .int .i64 p1, undef, undef, undef, undef, undef, undef, undef, undef, undef, undef, undef, undef, undef, undef, undef, undef, undef, undef, undef] Try.func20 rfl rfl rfl ?_
  intro w Q hQr hQn hQp
  replace H := topE H
  unfold laws_heldIntS.f at H
  refine HT_seq_k ?_
  intro K1 hK1
  refine HT_region ?_
  refine HL_cons rfl ?_
  refine o_assign ?_
  try dsimp only [putL, setL, evL, getL]
  refine HL_nil ?_
  refine hK1 _ _ ?_
  refine HT_seq_k ?_
  intro K2 hK2
  refine HT_seq_k ?_
  intro K3 hK3
  refine HT_region ?_
  refine HL_cons rfl ?_
  refine o_assign ?_
  try dsimp only [putL, setL, evL, getL]
  refine HL_nil ?_
  refine hK3 _ _ ?_
  refine joinH H fun G4 hG4 H => ?_
  refine HT_toK (fun l' s' => ∃ (x37 : Int), G4 (.go x37) = some r ∧ l' = [.slice A0p p0.length c0p, .int .i64 x37, undef, undef, getL l' 4, getL l' 5, getL l' 6, getL l' 7, getL l' 8, getL l' 9, getL l' 10, getL l' 11, getL l' 12, getL l' 13, getL l' 14, getL l' 15, getL l' 16, getL l' 17, getL l' 18, getL l' 19, undef] ∧ Hp sb s F0 s' []) ?_ ?_
  · intro K4 hK4
    refine HT_block ?_
    refine HT_loopK (fun kf l' s' => ∃ (x47 : Int) (x48 : Int), (laws_heldIntS.l1 p0 kf x47 x48).bind G4 = some r ∧ l' = [.slice A0p p0.length c0p, .int .i64 x47, undef, undef, getL l' 4, .int .i64 x48, getL l' 6, getL l' 7, getL l' 8, getL l' 9, getL l' 10, getL l' 11, getL l' 12, getL l' 13, getL l' 14, getL l' 15, getL l' 16, getL l' 17, getL l' 18, getL l' 19, undef] ∧ Hp sb s F0 s' []) ((((p0.length : Int)) - (0)).toNat + 2) ⟨p1, 0, H, rfl, hH⟩ ?_
    rintro kf l' s60 ⟨x47, x48, H, hl, hH⟩ K60 hK60
    generalize getL l' 4 = j4, getL l' 6 = j6, getL l' 7 = j7, getL l' 8 = j8, getL l' 9 = j9, getL l' 10 = j10, getL l' 11 = j11, getL l' 12 = j12, getL l' 13 = j13, getL l' 14 = j14, getL l' 15 = j15, getL l' 16 = j16, getL l' 17 = j17, getL l' 18 = j18, getL l' 19 = j19 at hl
    subst hl
    cases kf with
    | zero => simp [laws_heldIntS.l1] at H
    | succ kf =>
      rw [laws_heldIntS.l1] at H
      refine HT_seq_k ?_
      intro K61 hK61
      refine HT_seq_k ?_
      intro K62 hK62
      refine HT_region ?_
      refine HL_cons rfl ?_
      refine o_move ?_
      try dsimp only [putL, setL, evL, getL]
      refine HL_cons rfl ?_
      refine o_move ?_
      try dsimp only [putL, setL, evL, getL]
      refine HL_cons rfl ?_
      refine o_len rfl Try.underlying22 ?_
      try dsimp only [putL, setL, evL, getL]
      refine HL_cons rfl ?_
      refine o_bin rfl rfl rfl ?_
      try dsimp only [putL, setL, evL, getL]
      refine HL_nil ?_
      refine hK62 _ _ ?_
      rcases Bool.eq_false_or_eq_true (decide (x48 < (p0.length : Int))) with hb63 | hb63
      · replace H := iteT hb63 H
        refine HT_true (congrArg Value.bool hb63) ?_
        refine HT_skip ?_
        refine hK61 _ _ ?_
        refine HT_seq_k ?_
        intro K64 hK64
        refine HT_block ?_
        refine HT_seq_k ?_
        intro K65 hK65
        refine HT_seq_k ?_
        intro K66 hK66
        refine HT_region ?_
        refine HL_cons rfl ?_
        refine o_move ?_
        try dsimp only [putL, setL, evL, getL]
        refine HL_cons rfl ?_
        refine o_move ?_
        try dsimp only [putL, setL, evL, getL]
        obtain ⟨u67, hu67, H⟩ := headE H
        obtain ⟨b67, o67, cs67, hr67, hh67, hel67⟩ := Rd.elb HRp0 hu67
        obtain rfl := hr67
        refine HL_cons rfl ?_
        refine hel67 s60 rfl rfl Try.underlying22 tI3 ?_
        try dsimp only [putL, setL, evL, getL]
        refine HL_cons rfl ?_
        refine o_load' rfl Try.underlying3 rfl ((hh67 hH.bs.mono) 0 _ rfl) ?_
        try dsimp only [putL, setL, evL, getL]
        refine HL_cons rfl ?_
        refine o_move ?_
        try dsimp only [putL, setL, evL, getL]
        refine HL_cons rfl ?_
        refine o_bin rfl rfl rfl ?_
        try dsimp only [putL, setL, evL, getL]
        refine HL_nil ?_
        refine hK66 _ _ ?_
        rcases Bool.eq_false_or_eq_true (u67 != x47) with hb68 | hb68
        · replace H := iteT hb68 H
          refine HT_true (congrArg Value.bool hb68) ?_
          refine HT_seq_k ?_
          intro K69 hK69
          refine HT_region ?_
          refine HL_cons rfl ?_
          refine o_assign ?_
          try dsimp only [putL, setL, evL, getL]
          refine HL_nil ?_
          refine hK69 _ _ ?_
          refine HT_ret ?_
          replace H := escH (fun z hz => hG4 _ hz) H
          obtain rfl := Option.some.inj (show some _ = some r from H)
          exact hQr _ _ [.int .i64 (-1)] ⟨rfl, trivial⟩ ⟨rfl, hH⟩
        · replace H := iteF hb68 H
          refine HT_false (congrArg Value.bool hb68) ?_
          refine HT_skip ?_
          refine hK65 _ _ ?_
          refine HT_region ?_
          refine HL_cons rfl ?_
          refine o_move ?_
          try dsimp only [putL, setL, evL, getL]
          refine HL_cons rfl ?_
          refine o_bin rfl rfl rfl ?_
          try dsimp only [putL, setL, evL, getL]
          refine HL_cons rfl ?_
          refine o_assign ?_
          try dsimp only [putL, setL, evL, getL]
          refine HL_nil ?_
          refine hK64 _ _ ?_
          refine HT_region ?_
          refine HL_cons rfl ?_
          refine o_move ?_
          try dsimp only [putL, setL, evL, getL]
          refine HL_cons rfl ?_
          refine o_bin rfl rfl rfl ?_
          try dsimp only [putL, setL, evL, getL]
          refine HL_cons rfl ?_
          refine o_assign ?_
          try dsimp only [putL, setL, evL, getL]
          refine HL_nil ?_
          exact hK60 _ _ ⟨kf, Nat.lt_succ_self kf, IntKind.i64.wrap (x47 + 1), IntKind.i64.wrap (x48 + 1), H, rfl, hH⟩
      · replace H := iteF hb63 H
        refine HT_false (congrArg Value.bool hb63) ?_
        refine HT_exit ?_
        exact hK4 _ _ ⟨x47, H, rfl, hH⟩
  · rintro l' s70 ⟨x37, H, hl, hH⟩
    generalize getL l' 4 = j4, getL l' 5 = j5, getL l' 6 = j6, getL l' 7 = j7, getL l' 8 = j8, getL l' 9 = j9, getL l' 10 = j10, getL l' 11 = j11, getL l' 12 = j12, getL l' 13 = j13, getL l' 14 = j14, getL l' 15 = j15, getL l' 16 = j16, getL l' 17 = j17, getL l' 18 = j18, getL l' 19 = j19 at hl
    subst hl
    replace H := hG4 _ H
    try dsimp only at H
    refine hK2 _ _ ?_
    refine HT_seq_k ?_
    intro K71 hK71
    refine HT_region ?_
    refine HL_cons rfl ?_
    refine o_move ?_
    try dsimp only [putL, setL, evL, getL]
    refine HL_cons rfl ?_
    refine o_assign ?_
    try dsimp only [putL, setL, evL, getL]
    refine HL_nil ?_
    refine hK71 _ _ ?_
    refine HT_ret ?_
    obtain rfl := Option.some.inj (show some _ = some r from H)
    exact hQr _ _ [.int .i64 x37] ⟨rfl, trivial⟩ ⟨rfl, hH⟩
def laws_FnExactApplyDiff.f (p0 : List (Int)) (p1 : List ((Int) × (List (Int)))) : Option Bool := if (decide ((p0.length : Int) > 1048576)) = true then (some true) else ((laws_szEditS.f p1 1048576).bind fun u8 => if (decide (u8 < 0)) = true then (some true) else ((laws_toIntS.f p0).bind fun u14 => (laws_toEditS.f p1).bind fun u16 => (spec_ApplyDiff.f u14 u16).bind fun u18 => (laws_toIntS.f p0).bind fun u21 => (laws_toEditS.f p1).bind fun u24 => (impl_ApplyDiff.f u21 u24).bind fun u27 => ((laws_eqIntS.f u27.1 u18.1).bind fun u44 => if (!u44) = true then (some true) else (some (u27.2 != u18.2))).bind fun (o : Bool) => match o with | x43 => (if x43 = true then (some false) else ((laws_toIntS.f p0).bind fun u51 => (laws_eqIntS.f u21 u51).bind fun u53 => if (!u53) = true then (some false) else ((laws_toEditS.f p1).bind fun u58 => (laws_eqEditS.f u24 u58).bind fun u60 => if (!u60) = true then (some false) else ((laws_markIntS.f u21 1).bind fun u65 => (laws_markEditS.f u24 u65.1).bind fun u68 => (if (decide (u68.1 < 0)) = true then (some true) else ((laws_eqIntS.f u27.1 u18.1).bind fun u89 => if (!u89) = true then (some true) else (some (u27.2 != u18.2)))).bind fun (o : Bool) => match o with | x87 => (if x87 = true then (some false) else ((laws_markIntS.f u27.1 1).bind fun u96 => (laws_heldIntS.f u96.2 1).bind fun u100 => if (decide (u100 < 0)) = true then (some false) else (if (u100 != u96.1) = true then (some false) else ((laws_toIntS.f p0).bind fun u110 => (laws_toEditS.f p1).bind fun u112 => (impl_ApplyDiff.f u110 u112).bind fun u114 => ((laws_eqIntS.f u114.1 u18.1).bind fun u131 => if (!u131) = true then (some true) else (some (u114.2 != u18.2))).bind fun (o : Bool) => match o with | x130 => (if x130 = true then (some false) else ((laws_heldIntS.f u96.2 1).bind fun u138 => if (decide (u138 < 0)) = true then (some false) else (if (u138 != u96.1) = true then (some false) else (some true))))))))))))))
def laws_FnExactApplyDiff.post (sb s : St) (F0 : Fp) (r : Bool) : Value → St → Prop := fun v s' => v = .bool r ∧ Hp sb s F0 s' []
set_option maxRecDepth 100000 in
set_option maxHeartbeats 4000000 in
theorem laws_FnExactApplyDiff.ok (sb s : St) (F0 : Fp) (A0p : Option Addr) (c0p : Nat) (p0 : List (Int)) (A1p : Option Addr) (c1p : Nat) (p1 : List ((Int) × (List (Int)))) (HRp0 : Rd KI sb A0p c0p p0) (HRp1 : Rd KS109 sb A1p c1p p1) (hH : Hp sb s F0 s []) (r : Bool) (H : laws_FnExactApplyDiff.f p0 p1 = some r) : GCall Try.prog 7 #[.slice A0p p0.length c0p, .slice A1p p1.length c1p] s (laws_FnExactApplyDiff.post sb s F0 r) := by
  refine GCall_ofk [.tmp 4] [.slice A0p p0.length c0p, .slice A1p p1.length c1p, undef, undef, undef, undef, undef, undef, undef, undef, undef, undef, undef, undef, undef, undef, undef, undef, undef, undef, undef, undef, undef, undef, undef, undef, undef, undef, undef, undef, undef, undef, undef, undef, undef, undef, undef, undef, undef, undef, undef, undef, undef, undef, undef, undef, undef, undef, undef, undef, undef, undef, undef, undef, undef, undef, undef, undef, undef, undef, undef, undef, undef, undef, undef, undef, undef, undef, undef, undef, undef, undef, undef, undef, undef, undef, undef, undef, undef, undef, undef, undef, undef, undef, undef, undef, undef, undef, undef, undef, undef, undef, undef, undef, undef, undef, undef, undef, undef, undef, undef, undef, undef, undef, undef, undef, undef, undef, undef, undef, undef, undef, undef, undef, undef, undef, undef] Try.func7 rfl rfl rfl ?_
  intro w Q hQr hQn hQp
  replace H := topE H
  unfold laws_FnExactApplyDiff.f at H
  refine HT_seq_k ?_
  intro K1 hK1
  refine HT_region ?_
  refine HL_cons rfl ?_
  refine o_assign ?_
  try dsimp only [putL, setL, evL, getL]
  refine HL_nil ?_
  refine hK1 _ _ ?_
  refine HT_seq_k ?_
  intro K2 hK2
  refine HT_seq_k ?_
  intro K3 hK3
  refine HT_region ?_
  refine HL_cons rfl ?_
  refine o_move ?_
  try dsimp only [putL, setL, evL, getL]
  refine HL_cons rfl ?_
  refine o_len rfl Try.underlying22 ?_
  try dsimp only [putL, setL, evL, getL]
  refine HL_cons rfl ?_
  refine o_bin rfl rfl rfl ?_
  try dsimp only [putL, setL, evL, getL]
  refine HL_nil ?_
  refine hK3 _ _ ?_
  rcases Bool.eq_false_or_eq_true (decide ((p0.length : Int) > 1048576)) with hb4 | hb4
  · replace H := iteT hb4 H
    refine HT_true (congrArg Value.bool hb4) ?_
    refine HT_seq_k ?_
    intro K5 hK5
    refine HT_region ?_
    refine HL_cons rfl ?_
    refine o_assign ?_
    try dsimp only [putL, setL, evL, getL]
    refine HL_nil ?_
    refine hK5 _ _ ?_
    refine HT_ret ?_
    obtain rfl := Option.some.inj (show some _ = some r from H)
    exact hQr _ _ [.bool true] ⟨rfl, trivial⟩ ⟨rfl, hH⟩
  · replace H := iteF hb4 H
    refine HT_false (congrArg Value.bool hb4) ?_
    refine HT_skip ?_
    refine hK2 _ _ ?_
    refine HT_seq_k ?_
    intro K6 hK6
    refine HT_region ?_
    refine HL_cons rfl ?_
    refine o_assign ?_
    try dsimp only [putL, setL, evL, getL]
    refine HL_nil ?_
    refine hK6 _ _ ?_
    refine HT_seq_k ?_
    intro K7 hK7
    refine HT_region ?_
    refine HL_cons rfl ?_
    refine o_move ?_
    try dsimp only [putL, setL, evL, getL]
    refine HL_cons rfl ?_
    refine o_move ?_
    try dsimp only [putL, setL, evL, getL]
    obtain ⟨u8, hu8, H⟩ := headE H
    refine HL_cons rfl ?_
    refine o_call (args := #[.slice A1p p1.length c1p, .int .i64 1048576]) Try.func28 rfl rfl rfl (laws_szEditS.ok sb s no A1p c1p p1 1048576 HRp1 (Hp.own hH.bs) _ hu8) ?_
    rintro _ s8 ⟨rfl, hD⟩
    replace hH := hH.back0 hD (Up.refl _ _ _)
    clear hD
    dsimp only [addC, setC, rmC, selC, getC] at hH
    try dsimp only [putL, setL, evL, getL]
    refine HL_cons rfl ?_
    refine o_assign ?_
    try dsimp only [putL, setL, evL, getL]
    refine HL_nil ?_
    refine hK7 _ _ ?_
    refine HT_seq_k ?_
    intro K9 hK9
    refine HT_seq_k ?_
    intro K10 hK10
    refine HT_region ?_
    refine HL_cons rfl ?_
    refine o_move ?_
    try dsimp only [putL, setL, evL, getL]
    refine HL_cons rfl ?_
    refine o_bin rfl rfl rfl ?_
    try dsimp only [putL, setL, evL, getL]
    refine HL_nil ?_
    refine hK10 _ _ ?_
    rcases Bool.eq_false_or_eq_true (decide (u8 < 0)) with hb11 | hb11
    · replace H := iteT hb11 H
      refine HT_true (congrArg Value.bool hb11) ?_
      refine HT_seq_k ?_
      intro K12 hK12
      refine HT_region ?_
      refine HL_cons rfl ?_
      refine o_assign ?_
      try dsimp only [putL, setL, evL, getL]
      refine HL_nil ?_
      refine hK12 _ _ ?_
      refine HT_ret ?_
      obtain rfl := Option.some.inj (show some _ = some r from H)
      exact hQr _ _ [.bool true] ⟨rfl, trivial⟩ ⟨rfl, hH⟩
    · replace H := iteF hb11 H
      refine HT_false (congrArg Value.bool hb11) ?_
      refine HT_skip ?_
      refine hK9 _ _ ?_
      refine HT_seq_k ?_
      intro K13 hK13
      refine HT_region ?_
      refine HL_cons rfl ?_
      refine o_move ?_
      try dsimp only [putL, setL, evL, getL]
      obtain ⟨u14, hu14, H⟩ := headE H
      refine HL_cons rfl ?_
      refine o_call (args := #[.slice A0p p0.length c0p]) Try.func16 rfl rfl rfl (laws_toIntS.ok sb s8 no A0p c0p p0 HRp0 (Hp.own hH.bs) _ hu14) ?_
      rintro _ s14 ⟨A15, c15, rfl, hD⟩
      replace hH := hH.back0 hD (Up.refl _ _ _)
      clear hD
      dsimp only [addC, setC, rmC, selC, getC] at hH
      try dsimp only [putL, setL, evL, getL]
      refine HL_cons rfl ?_
      refine o_move ?_
      try dsimp only [putL, setL, evL, getL]
      obtain ⟨u16, hu16, H⟩ := headE H
      refine HL_cons rfl ?_
      refine o_call (args := #[.slice A1p p1.length c1p]) Try.func30 rfl rfl rfl (laws_toEditS.ok sb s14 no A1p c1p p1 HRp1 (Hp.own hH.bs) _ hu16) ?_
      rintro _ s16 ⟨A17, c17, rfl, hD⟩
      replace hH := hH.back0 hD (Up.refl _ _ _)
      clear hD
      dsimp only [addC, setC, rmC, selC, getC] at hH
      try dsimp only [putL, setL, evL, getL]
      obtain ⟨u18, hu18, H⟩ := headE H
      refine HL_cons rfl ?_
      refine o_call (args := #[.slice A15 u14.length c15, .slice A17 u16.length c17]) Try.func37 rfl rfl rfl (spec_ApplyDiff.ok s16 s16 no A15 c15 u14 A17 c17 u16 (hH.rd 0 rfl) (hH.rd 1 rfl) (Hp.own (Bs.refl s16)) _ hu18) ?_
      rintro _ s18 ⟨A19, c19, rfl, hD⟩
      replace hH := hH.back0T hD
      clear hD
      dsimp only [addC, setC, rmC, selC, getC] at hH
      try dsimp only [putL, setL, evL, getL]
      refine HL_cons rfl ?_
      refine o_move ?_
      try dsimp only [putL, setL, evL, getL]
      refine HL_cons rfl ?_
      refine o_extract rfl rfl ?_
      try dsimp only [putL, setL, evL, getL]
      refine HL_cons rfl ?_
      refine o_extract rfl rfl ?_
      try dsimp only [putL, setL, evL, getL]
      refine HL_cons rfl ?_
      refine o_assign ?_
      try dsimp only [putL, setL, evL, getL]
      refine HL_cons rfl ?_
      refine o_assign ?_
      try dsimp only [putL, setL, evL, getL]
      refine HL_nil ?_
      refine hK13 _ _ ?_
      refine HT_seq_k ?_
      intro K20 hK20
      refine HT_region ?_
      refine HL_cons rfl ?_
      refine o_move ?_
      try dsimp only [putL, setL, evL, getL]
      obtain ⟨u21, hu21, H⟩ := headE H
      refine HL_cons rfl ?_
      refine o_call (args := #[.slice A0p p0.length c0p]) Try.func16 rfl rfl rfl (laws_toIntS.ok sb s18 no A0p c0p p0 HRp0 (Hp.own hH.bs) _ hu21) ?_
      rintro _ s21 ⟨A22, c22, rfl, hD⟩
      replace hH := hH.back0 hD (Up.refl _ _ _)
      clear hD
      dsimp only [addC, setC, rmC, selC, getC] at hH
      try dsimp only [putL, setL, evL, getL]
      refine HL_cons rfl ?_
      refine o_assign ?_
      try dsimp only [putL, setL, evL, getL]
      refine HL_nil ?_
      refine hK20 _ _ ?_
      refine HT_seq_k ?_
      intro K23 hK23
      refine HT_region ?_
      refine HL_cons rfl ?_
      refine o_move ?_
      try dsimp only [putL, setL, evL, getL]
      obtain ⟨u24, hu24, H⟩ := headE H
      refine HL_cons rfl ?_
      refine o_call (args := #[.slice A1p p1.length c1p]) Try.func30 rfl rfl rfl (laws_toEditS.ok sb s21 no A1p c1p p1 HRp1 (Hp.own hH.bs) _ hu24) ?_
      rintro _ s24 ⟨A25, c25, rfl, hD⟩
      replace hH := hH.back0 hD (Up.refl _ _ _)
      clear hD
      dsimp only [addC, setC, rmC, selC, getC] at hH
      try dsimp only [putL, setL, evL, getL]
      refine HL_cons rfl ?_
      refine o_assign ?_
      try dsimp only [putL, setL, evL, getL]
      refine HL_nil ?_
      refine hK23 _ _ ?_
      refine HT_seq_k ?_
      intro K26 hK26
      refine HT_region ?_
      refine HL_cons rfl ?_
      refine o_move ?_
      try dsimp only [putL, setL, evL, getL]
      refine HL_cons rfl ?_
      refine o_move ?_
      try dsimp only [putL, setL, evL, getL]
      obtain ⟨u27, hu27, H⟩ := headE H
      refine HL_cons rfl ?_
      refine o_call (args := #[.slice A22 u21.length c22, .slice A25 u24.length c25]) Try.func38 rfl rfl rfl (impl_ApplyDiff.ok s24 s24 no A22 c22 u21 A25 c25 u24 (hH.rd 3 rfl) (hH.rd 4 rfl) (Hp.own (Bs.refl s24)) _ hu27) ?_
      rintro _ s27 ⟨A28, c28, rfl, hD⟩
      replace hH := hH.back0T hD
      clear hD
      dsimp only [addC, setC, rmC, selC, getC] at hH
      try dsimp only [putL, setL, evL, getL]
      refine HL_cons rfl ?_
      refine o_move ?_
      try dsimp only [putL, setL, evL, getL]
      refine HL_cons rfl ?_
      refine o_extract rfl rfl ?_
      try dsimp only [putL, setL, evL, getL]
      refine HL_cons rfl ?_
      refine o_extract rfl rfl ?_
      try dsimp only [putL, setL, evL, getL]
      refine HL_cons rfl ?_
      refine o_assign ?_
      try dsimp only [putL, setL, evL, getL]
      refine HL_cons rfl ?_
      refine o_assign ?_
      try dsimp only [putL, setL, evL, getL]
      refine HL_nil ?_
      refine hK26 _ _ ?_
      refine HT_seq_k ?_
      intro K39 hK39
      refine joinH H fun G40 hG40 H => ?_
      refine HT_joinK (fun l' s' => ∃ (x43 : Bool), G40 x43 = some r ∧ l' = [.slice A0p p0.length c0p, .slice A1p p1.length c1p, undef, undef, .bool false, .int .i64 u8, .slice A19 u18.1.length c19, .bool u18.2, .slice A22 u21.length c22, .slice A25 u24.length c25, .slice A28 u27.1.length c28, .bool u27.2, undef, undef, undef, undef, undef, .slice A0p p0.length c0p, .int .i64 (p0.length : Int), .bool (decide ((p0.length : Int) > 1048576)), .slice A1p p1.length c1p, .int .i64 1048576, .int .i64 u8, .int .i64 u8, .bool (decide (u8 < 0)), .tuple #[.slice A19 u18.1.length c19, .bool u18.2], .slice A0p p0.length c0p, .slice A15 u14.length c15, .slice A1p p1.length c1p, .slice A17 u16.length c17, .tuple #[.slice A19 u18.1.length c19, .bool u18.2], .slice A19 u18.1.length c19, .bool u18.2, .slice A0p p0.length c0p, .slice A22 u21.length c22, .slice A1p p1.length c1p, .slice A25 u24.length c25, .tuple #[.slice A28 u27.1.length c28, .bool u27.2], .slice A22 u21.length c22, .slice A25 u24.length c25, .tuple #[.slice A28 u27.1.length c28, .bool u27.2], .slice A28 u27.1.length c28, .bool u27.2, getL l' 43, getL l' 44, getL l' 45, getL l' 46, getL l' 47, getL l' 48, getL l' 49, getL l' 50, .bool x43, undef, undef, undef, undef, undef, undef, undef, undef, undef, undef, undef, undef, undef, undef, undef, undef, undef, undef, undef, undef, undef, undef, undef, undef, undef, undef, undef, undef, undef, undef, undef, undef, undef, undef, undef, undef, undef, undef, undef, undef, undef, undef, undef, undef, undef, undef, undef, undef, undef, undef, undef, undef, undef, undef, undef, undef, undef, undef, undef, undef, undef, undef, undef, undef, undef] ∧ Hp sb s F0 s' [Ck.ol OI 3 A19 c19 u18.1, Ck.ol OI 3 A22 c22 u21, Ck.ol OS99 99 A25 c25 u24, Ck.ol OI 3 A28 c28 u27.1]) ?_ ?_
      · intro K40 hK40
        refine HT_region ?_
        refine HL_cons rfl ?_
        refine o_move ?_
        try dsimp only [putL, setL, evL, getL]
        refine HL_cons rfl ?_
        refine o_move ?_
        try dsimp only [putL, setL, evL, getL]
        obtain ⟨u44, hu44, H⟩ := headE H
        refine HL_cons rfl ?_
        refine o_call (args := #[.slice A28 u27.1.length c28, .slice A19 u18.1.length c19]) Try.func18 rfl rfl rfl (laws_eqIntS.ok s27 s27 no A28 c28 u27.1 A19 c19 u18.1 (hH.rd 5 rfl) (hH.rd 2 rfl) (Hp.own (Bs.refl s27)) _ hu44) ?_
        rintro _ s44 ⟨rfl, hD⟩
        replace hH := hH.back0T hD
        clear hD
        dsimp only [addC, setC, rmC, selC, getC] at hH
        try dsimp only [putL, setL, evL, getL]
        refine HL_cons rfl ?_
        refine o_not rfl ?_
        try dsimp only [putL, setL, evL, getL]
        refine HL_cons rfl ?_
        refine o_move ?_
        try dsimp only [putL, setL, evL, getL]
        rcases Bool.eq_false_or_eq_true (!u44) with hb45 | hb45
        · replace H := iteT hb45 H
          refine HL_skip ?_ ?_
          · exact wantF (j := 4) (b := false) (t := 47) (c := !u44) rfl rfl rfl rfl hb45
          try dsimp only [putL, setL, evL, getL]
          refine HL_skip ?_ ?_
          · exact wantF (j := 4) (b := false) (t := 47) (c := !u44) rfl rfl rfl rfl hb45
          try dsimp only [putL, setL, evL, getL]
          refine HL_skip ?_ ?_
          · exact wantF (j := 4) (b := false) (t := 47) (c := !u44) rfl rfl rfl rfl hb45
          try dsimp only [putL, setL, evL, getL]
          refine HL_cons rfl ?_
          refine o_pickT rfl hb45 ?_
          try dsimp only [putL, setL, evL, getL]
          refine HL_nil ?_
          exact hK40 _ _ ⟨true, H, rfl, hH.sel [2, 3, 4, 5] (by decide)⟩
        · replace H := iteF hb45 H
          refine HL_want ?_ ?_
          · exact wantT (j := 4) (b := false) (t := 47) (c := !u44) rfl rfl rfl rfl hb45
          refine o_move ?_
          try dsimp only [putL, setL, evL, getL]
          refine HL_want ?_ ?_
          · exact wantT (j := 4) (b := false) (t := 47) (c := !u44) rfl rfl rfl rfl hb45
          refine o_move ?_
          try dsimp only [putL, setL, evL, getL]
          refine HL_want ?_ ?_
          · exact wantT (j := 4) (b := false) (t := 47) (c := !u44) rfl rfl rfl rfl hb45
          refine o_neb rfl rfl Try.underlying4 ?_
          try dsimp only [putL, setL, evL, getL]
          refine HL_cons rfl ?_
          refine o_pickF rfl hb45 ?_
          try dsimp only [putL, setL, evL, getL]
          refine HL_nil ?_
          exact hK40 _ _ ⟨u27.2 != u18.2, H, rfl, hH.sel [2, 3, 4, 5] (by decide)⟩
      · rintro l' s46 ⟨x43, H, hl, hH⟩
        generalize getL l' 43 = j43, getL l' 44 = j44, getL l' 45 = j45, getL l' 46 = j46, getL l' 47 = j47, getL l' 48 = j48, getL l' 49 = j49, getL l' 50 = j50 at hl
        subst hl
        replace H := hG40 _ H
        try dsimp only at H
        rcases Bool.eq_false_or_eq_true x43 with hb47 | hb47
        · replace H := iteT hb47 H
          refine HT_true (congrArg Value.bool hb47) ?_
          refine HT_seq_k ?_
          intro K48 hK48
          refine HT_region ?_
          refine HL_cons rfl ?_
          refine o_assign ?_
          try dsimp only [putL, setL, evL, getL]
          refine HL_nil ?_
          refine hK48 _ _ ?_
          refine HT_ret ?_
          obtain rfl := Option.some.inj (show some _ = some r from H)
          exact hQr _ _ [.bool false] ⟨rfl, trivial⟩ ⟨rfl, hH.sel [] (by decide)⟩
        · replace H := iteF hb47 H
          refine HT_false (congrArg Value.bool hb47) ?_
          refine HT_skip ?_
          refine hK39 _ _ ?_
          refine HT_seq_k ?_
          intro K49 hK49
          refine HT_seq_k ?_
          intro K50 hK50
          refine HT_region ?_
          refine HL_cons rfl ?_
          refine o_move ?_
          try dsimp only [putL, setL, evL, getL]
          refine HL_cons rfl ?_
          refine o_move ?_
          try dsimp only [putL, setL, evL, getL]
          obtain ⟨u51, hu51, H⟩ := headE H
          refine HL_cons rfl ?_
          refine o_call (args := #[.slice A0p p0.length c0p]) Try.func16 rfl rfl rfl (laws_toIntS.ok sb s46 no A0p c0p p0 HRp0 (Hp.own hH.bs) _ hu51) ?_
          rintro _ s51 ⟨A52, c52, rfl, hD⟩
          replace hH := hH.back0 hD (Up.refl _ _ _)
          clear hD
          dsimp only [addC, setC, rmC, selC, getC] at hH
          try dsimp only [putL, setL, evL, getL]
          obtain ⟨u53, hu53, H⟩ := headE H
          refine HL_cons rfl ?_
          refine o_call (args := #[.slice A22 u21.length c22, .slice A52 u51.length c52]) Try.func18 rfl rfl rfl (laws_eqIntS.ok s51 s51 no A22 c22 u21 A52 c52 u51 (hH.rd 1 rfl) (hH.rd 4 rfl) (Hp.own (Bs.refl s51)) _ hu53) ?_
          rintro _ s53 ⟨rfl, hD⟩
          replace hH := hH.back0T hD
          clear hD
          dsimp only [addC, setC, rmC, selC, getC] at hH
          try dsimp only [putL, setL, evL, getL]
          refine HL_cons rfl ?_
          refine o_not rfl ?_
          try dsimp only [putL, setL, evL, getL]
          refine HL_nil ?_
          refine hK50 _ _ ?_
          rcases Bool.eq_false_or_eq_true (!u53) with hb54 | hb54
          · replace H := iteT hb54 H
            refine HT_true (congrArg Value.bool hb54) ?_
            refine HT_seq_k ?_
            intro K55 hK55
            refine HT_region ?_
            refine HL_cons rfl ?_
            refine o_assign ?_
            try dsimp only [putL, setL, evL, getL]
            refine HL_nil ?_
            refine hK55 _ _ ?_
            refine HT_ret ?_
            obtain rfl := Option.some.inj (show some _ = some r from H)
            exact hQr _ _ [.bool false] ⟨rfl, trivial⟩ ⟨rfl, hH.sel [] (by decide)⟩
          · replace H := iteF hb54 H
            refine HT_false (congrArg Value.bool hb54) ?_
            refine HT_skip ?_
            refine hK49 _ _ ?_
            refine HT_seq_k ?_
            intro K56 hK56
            refine HT_seq_k ?_
            intro K57 hK57
            refine HT_region ?_
            refine HL_cons rfl ?_
            refine o_move ?_
            try dsimp only [putL, setL, evL, getL]
            refine HL_cons rfl ?_
            refine o_move ?_
            try dsimp only [putL, setL, evL, getL]
            obtain ⟨u58, hu58, H⟩ := headE H
            refine HL_cons rfl ?_
            refine o_call (args := #[.slice A1p p1.length c1p]) Try.func30 rfl rfl rfl (laws_toEditS.ok sb s53 no A1p c1p p1 HRp1 (Hp.own hH.bs) _ hu58) ?_
            rintro _ s58 ⟨A59, c59, rfl, hD⟩
            replace hH := hH.back0 hD (Up.refl _ _ _)
            clear hD
            dsimp only [addC, setC, rmC, selC, getC] at hH
            try dsimp only [putL, setL, evL, getL]
            obtain ⟨u60, hu60, H⟩ := headE H
            refine HL_cons rfl ?_
            refine o_call (args := #[.slice A25 u24.length c25, .slice A59 u58.length c59]) Try.func32 rfl rfl rfl (laws_eqEditS.ok s58 s58 no A25 c25 u24 A59 c59 u58 (hH.rd 2 rfl) (hH.rd 5 rfl) (Hp.own (Bs.refl s58)) _ hu60) ?_
            rintro _ s60 ⟨rfl, hD⟩
            replace hH := hH.back0T hD
            clear hD
            dsimp only [addC, setC, rmC, selC, getC] at hH
            try dsimp only [putL, setL, evL, getL]
            refine HL_cons rfl ?_
            refine o_not rfl ?_
            try dsimp only [putL, setL, evL, getL]
            refine HL_nil ?_
            refine hK57 _ _ ?_
            rcases Bool.eq_false_or_eq_true (!u60) with hb61 | hb61
            · replace H := iteT hb61 H
              refine HT_true (congrArg Value.bool hb61) ?_
              refine HT_seq_k ?_
              intro K62 hK62
              refine HT_region ?_
              refine HL_cons rfl ?_
              refine o_assign ?_
              try dsimp only [putL, setL, evL, getL]
              refine HL_nil ?_
              refine hK62 _ _ ?_
              refine HT_ret ?_
              obtain rfl := Option.some.inj (show some _ = some r from H)
              exact hQr _ _ [.bool false] ⟨rfl, trivial⟩ ⟨rfl, hH.sel [] (by decide)⟩
            · replace H := iteF hb61 H
              refine HT_false (congrArg Value.bool hb61) ?_
              refine HT_skip ?_
              refine hK56 _ _ ?_
              refine HT_seq_k ?_
              intro K63 hK63
              refine HT_region ?_
              refine HL_cons rfl ?_
              refine o_assign ?_
              try dsimp only [putL, setL, evL, getL]
              refine HL_nil ?_
              refine hK63 _ _ ?_
              refine HT_seq_k ?_
              intro K64 hK64
              refine HT_region ?_
              refine HL_cons rfl ?_
              refine o_move ?_
              try dsimp only [putL, setL, evL, getL]
              refine HL_cons rfl ?_
              refine o_move ?_
              try dsimp only [putL, setL, evL, getL]
              obtain ⟨u65, hu65, H⟩ := headE H
              obtain ⟨F1, hA, hB⟩ := hH.take [1] (by decide)
              dsimp only [addC, setC, rmC, selC, getC] at hA
              refine HL_cons rfl ?_
              refine o_call (args := #[.slice A22 u21.length c22, .int .i64 1]) Try.func19 rfl rfl rfl (laws_markIntS.ok sb s60 F1 A22 c22 u21 1 hA _ hu65) ?_
              rintro _ s65 ⟨rfl, hD, hl66⟩
              replace hH := hB _ _ _ (Up.refl _ _ _) hD
              clear hD hA hB
              dsimp only [addC, setC, rmC, selC, getC] at hH
              try dsimp only [putL, setL, evL, getL]
              refine HL_cons rfl ?_
              refine o_assign ?_
              try dsimp only [putL, setL, evL, getL]
              refine HL_nil ?_
              refine hK64 _ _ ?_
              refine HT_seq_k ?_
              intro K67 hK67
              refine HT_region ?_
              refine HL_cons rfl ?_
              refine o_move ?_
              try dsimp only [putL, setL, evL, getL]
              refine HL_cons rfl ?_
              refine o_move ?_
              try dsimp only [putL, setL, evL, getL]
              obtain ⟨u68, hu68, H⟩ := headE H
              obtain ⟨F1, hA, hB⟩ := hH.take [2] (by decide)
              dsimp only [addC, setC, rmC, selC, getC] at hA
              refine HL_cons rfl ?_
              refine o_call (args := #[.slice A25 u24.length c25, .int .i64 u65.1]) Try.func33 rfl rfl rfl (laws_markEditS.ok sb s65 F1 A25 c25 u24 u65.1 hA _ hu68) ?_
              rintro _ s68 ⟨rfl, hD, hl69⟩
              replace hH := hB _ _ _ (Up.refl _ _ _) hD
              clear hD hA hB
              dsimp only [addC, setC, rmC, selC, getC] at hH
              try dsimp only [putL, setL, evL, getL]
              refine HL_cons rfl ?_
              refine o_assign ?_
              try dsimp only [putL, setL, evL, getL]
              refine HL_nil ?_
              refine hK67 _ _ ?_
              refine HT_seq_k ?_
              intro K82 hK82
              refine joinH H fun G83 hG83 H => ?_
              refine HT_joinK (fun l' s' => ∃ (x87 : Bool), G83 x87 = some r ∧ l' = [.slice A0p p0.length c0p, .slice A1p p1.length c1p, undef, undef, .bool false, .int .i64 u8, .slice A19 u18.1.length c19, .bool u18.2, .slice A22 u21.length c22, .slice A25 u24.length c25, .slice A28 u27.1.length c28, .bool u27.2, .int .i64 u68.1, undef, undef, undef, undef, .slice A0p p0.length c0p, .int .i64 (p0.length : Int), .bool (decide ((p0.length : Int) > 1048576)), .slice A1p p1.length c1p, .int .i64 1048576, .int .i64 u8, .int .i64 u8, .bool (decide (u8 < 0)), .tuple #[.slice A19 u18.1.length c19, .bool u18.2], .slice A0p p0.length c0p, .slice A15 u14.length c15, .slice A1p p1.length c1p, .slice A17 u16.length c17, .tuple #[.slice A19 u18.1.length c19, .bool u18.2], .slice A19 u18.1.length c19, .bool u18.2, .slice A0p p0.length c0p, .slice A22 u21.length c22, .slice A1p p1.length c1p, .slice A25 u24.length c25, .tuple #[.slice A28 u27.1.length c28, .bool u27.2], .slice A22 u21.length c22, .slice A25 u24.length c25, .tuple #[.slice A28 u27.1.length c28, .bool u27.2], .slice A28 u27.1.length c28, .bool u27.2, j43, j44, j45, j46, j47, j48, j49, j50, .bool x43, .slice A22 u21.length c22, .slice A0p p0.length c0p, .slice A52 u51.length c52, .bool u53, .bool (!u53), .slice A25 u24.length c25, .slice A1p p1.length c1p, .slice A59 u58.length c59, .bool u60, .bool (!u60), .slice A22 u21.length c22, .int .i64 1, .int .i64 u65.1, .slice A25 u24.length c25, .int .i64 u65.1, .int .i64 u68.1, getL l' 68, getL l' 69, getL l' 70, getL l' 71, getL l' 72, getL l' 73, getL l' 74, getL l' 75, getL l' 76, getL l' 77, getL l' 78, getL l' 79, .bool x87, undef, undef, undef, undef, undef, undef, undef, undef, undef, undef, undef, undef, undef, undef, undef, undef, undef, undef, undef, undef, undef, undef, undef, undef, undef, undef, undef, undef, undef, undef, undef, undef, undef, undef, undef, undef] ∧ Hp sb s F0 s' [Ck.ol OI 3 A19 c19 u18.1, Ck.ol OI 3 A28 c28 u27.1]) ?_ ?_
              · intro K83 hK83
                refine HT_region ?_
                refine HL_cons rfl ?_
                refine o_move ?_
                try dsimp only [putL, setL, evL, getL]
                refine HL_cons rfl ?_
                refine o_bin rfl rfl rfl ?_
                try dsimp only [putL, setL, evL, getL]
                refine HL_cons rfl ?_
                refine o_move ?_
                try dsimp only [putL, setL, evL, getL]
                rcases Bool.eq_false_or_eq_true (decide (u68.1 < 0)) with hb88 | hb88
                · replace H := iteT hb88 H
                  refine HL_skip ?_ ?_
                  · exact wantF (j := 2) (b := false) (t := 70) (c := decide (u68.1 < 0)) rfl rfl rfl rfl hb88
                  try dsimp only [putL, setL, evL, getL]
                  refine HL_skip ?_ ?_
                  · exact wantF (j := 2) (b := false) (t := 70) (c := decide (u68.1 < 0)) rfl rfl rfl rfl hb88
                  try dsimp only [putL, setL, evL, getL]
                  refine HL_skip ?_ ?_
                  · exact wantF (j := 2) (b := false) (t := 70) (c := decide (u68.1 < 0)) rfl rfl rfl rfl hb88
                  try dsimp only [putL, setL, evL, getL]
                  refine HL_skip ?_ ?_
                  · exact wantF (j := 2) (b := false) (t := 70) (c := decide (u68.1 < 0)) rfl rfl rfl rfl hb88
                  try dsimp only [putL, setL, evL, getL]
                  refine HL_cons rfl ?_
                  refine o_pickT rfl hb88 ?_
                  try dsimp only [putL, setL, evL, getL]
                  refine HL_cons rfl ?_
                  refine o_move ?_
                  try dsimp only [putL, setL, evL, getL]
                  refine HL_skip ?_ ?_
                  · exact wantF (j := 8) (b := false) (t := 76) (c := true) rfl rfl rfl rfl rfl
                  try dsimp only [putL, setL, evL, getL]
                  refine HL_skip ?_ ?_
                  · exact wantF (j := 8) (b := false) (t := 76) (c := true) rfl rfl rfl rfl rfl
                  try dsimp only [putL, setL, evL, getL]
                  refine HL_skip ?_ ?_
                  · exact wantF (j := 8) (b := false) (t := 76) (c := true) rfl rfl rfl rfl rfl
                  try dsimp only [putL, setL, evL, getL]
                  refine HL_cons rfl ?_
                  refine o_pickT rfl rfl ?_
                  try dsimp only [putL, setL, evL, getL]
                  refine HL_nil ?_
                  exact hK83 _ _ ⟨true, H, rfl, hH.sel [0, 3] (by decide)⟩
                · replace H := iteF hb88 H
                  refine HL_want ?_ ?_
                  · exact wantT (j := 2) (b := false) (t := 70) (c := decide (u68.1 < 0)) rfl rfl rfl rfl hb88
                  refine o_move ?_
                  try dsimp only [putL, setL, evL, getL]
                  refine HL_want ?_ ?_
                  · exact wantT (j := 2) (b := false) (t := 70) (c := decide (u68.1 < 0)) rfl rfl rfl rfl hb88
                  refine o_move ?_
                  try dsimp only [putL, setL, evL, getL]
                  obtain ⟨u89, hu89, H⟩ := headE H
                  refine HL_want ?_ ?_
                  · exact wantT (j := 2) (b := false) (t := 70) (c := decide (u68.1 < 0)) rfl rfl rfl rfl hb88
                  refine o_call (args := #[.slice A28 u27.1.length c28, .slice A19 u18.1.length c19]) Try.func18 rfl rfl rfl (laws_eqIntS.ok s68 s68 no A28 c28 u27.1 A19 c19 u18.1 (hH.rd 3 rfl) (hH.rd 0 rfl) (Hp.own (Bs.refl s68)) _ hu89) ?_
                  rintro _ s89 ⟨rfl, hD⟩
                  replace hH := hH.back0T hD
                  clear hD
                  dsimp only [addC, setC, rmC, selC, getC] at hH
                  try dsimp only [putL, setL, evL, getL]
                  refine HL_want ?_ ?_
                  · exact wantT (j := 2) (b := false) (t := 70) (c := decide (u68.1 < 0)) rfl rfl rfl rfl hb88
                  refine o_not rfl ?_
                  try dsimp only [putL, setL, evL, getL]
                  refine HL_cons rfl ?_
                  refine o_pickF rfl hb88 ?_
                  try dsimp only [putL, setL, evL, getL]
                  refine HL_cons rfl ?_
                  refine o_move ?_
                  try dsimp only [putL, setL, evL, getL]
                  rcases Bool.eq_false_or_eq_true (!u89) with hb90 | hb90
                  · replace H := iteT hb90 H
                    refine HL_skip ?_ ?_
                    · exact wantF (j := 8) (b := false) (t := 76) (c := !u89) rfl rfl rfl rfl hb90
                    try dsimp only [putL, setL, evL, getL]
                    refine HL_skip ?_ ?_
                    · exact wantF (j := 8) (b := false) (t := 76) (c := !u89) rfl rfl rfl rfl hb90
                    try dsimp only [putL, setL, evL, getL]
                    refine HL_skip ?_ ?_
                    · exact wantF (j := 8) (b := false) (t := 76) (c := !u89) rfl rfl rfl rfl hb90
                    try dsimp only [putL, setL, evL, getL]
                    refine HL_cons rfl ?_
                    refine o_pickT rfl hb90 ?_
                    try dsimp only [putL, setL, evL, getL]
                    refine HL_nil ?_
                    exact hK83 _ _ ⟨true, H, rfl, hH.sel [0, 3] (by decide)⟩
                  · replace H := iteF hb90 H
                    refine HL_want ?_ ?_
                    · exact wantT (j := 8) (b := false) (t := 76) (c := !u89) rfl rfl rfl rfl hb90
                    refine o_move ?_
                    try dsimp only [putL, setL, evL, getL]
                    refine HL_want ?_ ?_
                    · exact wantT (j := 8) (b := false) (t := 76) (c := !u89) rfl rfl rfl rfl hb90
                    refine o_move ?_
                    try dsimp only [putL, setL, evL, getL]
                    refine HL_want ?_ ?_
                    · exact wantT (j := 8) (b := false) (t := 76) (c := !u89) rfl rfl rfl rfl hb90
                    refine o_neb rfl rfl Try.underlying4 ?_
                    try dsimp only [putL, setL, evL, getL]
                    refine HL_cons rfl ?_
                    refine o_pickF rfl hb90 ?_
                    try dsimp only [putL, setL, evL, getL]
                    refine HL_nil ?_
                    exact hK83 _ _ ⟨u27.2 != u18.2, H, rfl, hH.sel [0, 3] (by decide)⟩
              · rintro l' s91 ⟨x87, H, hl, hH⟩
                generalize getL l' 68 = j68, getL l' 69 = j69, getL l' 70 = j70, getL l' 71 = j71, getL l' 72 = j72, getL l' 73 = j73, getL l' 74 = j74, getL l' 75 = j75, getL l' 76 = j76, getL l' 77 = j77, getL l' 78 = j78, getL l' 79 = j79 at hl
                subst hl
                replace H := hG83 _ H
                try dsimp only at H
                rcases Bool.eq_false_or_eq_true x87 with hb92 | hb92
                · replace H := iteT hb92 H
                  refine HT_true (congrArg Value.bool hb92) ?_
                  refine HT_seq_k ?_
                  intro K93 hK93
                  refine HT_region ?_
                  refine HL_cons rfl ?_
                  refine o_assign ?_
                  try dsimp only [putL, setL, evL, getL]
                  refine HL_nil ?_
                  refine hK93 _ _ ?_
                  refine HT_ret ?_
                  obtain rfl := Option.some.inj (show some _ = some r from H)
                  exact hQr _ _ [.bool false] ⟨rfl, trivial⟩ ⟨rfl, hH.sel [] (by decide)⟩
                · replace H := iteF hb92 H
                  refine HT_false (congrArg Value.bool hb92) ?_
                  refine HT_skip ?_
                  refine hK82 _ _ ?_
                  refine HT_seq_k ?_
                  intro K94 hK94
                  refine HT_region ?_
                  refine HL_cons rfl ?_
                  refine o_assign ?_
                  try dsimp only [putL, setL, evL, getL]
                  refine HL_nil ?_
                  refine hK94 _ _ ?_
                  refine HT_seq_k ?_
                  intro K95 hK95
                  refine HT_region ?_
                  refine HL_cons rfl ?_
                  refine o_move ?_
                  try dsimp only [putL, setL, evL, getL]
                  refine HL_cons rfl ?_
                  refine o_move ?_
                  try dsimp only [putL, setL, evL, getL]
                  obtain ⟨u96, hu96, H⟩ := headE H
                  obtain ⟨F1, hA, hB⟩ := hH.take [1] (by decide)
                  dsimp only [addC, setC, rmC, selC, getC] at hA
                  refine HL_cons rfl ?_
                  refine o_call (args := #[.slice A28 u27.1.length c28, .int .i64 1]) Try.func19 rfl rfl rfl (laws_markIntS.ok sb s91 F1 A28 c28 u27.1 1 hA _ hu96) ?_
                  rintro _ s96 ⟨rfl, hD, hl97⟩
                  replace hH := hB _ _ _ (Up.refl _ _ _) hD
                  clear hD hA hB
                  dsimp only [addC, setC, rmC, selC, getC] at hH
                  try dsimp only [putL, setL, evL, getL]
                  refine HL_cons rfl ?_
                  refine o_assign ?_
                  try dsimp only [putL, setL, evL, getL]
                  refine HL_nil ?_
                  refine hK95 _ _ ?_
                  refine HT_seq_k ?_
                  intro K98 hK98
                  refine HT_region ?_
                  refine HL_cons rfl ?_
                  refine o_assign ?_
                  try dsimp only [putL, setL, evL, getL]
                  refine HL_nil ?_
                  refine hK98 _ _ ?_
                  refine HT_seq_k ?_
                  intro K99 hK99
                  refine HT_region ?_
                  refine HL_cons rfl ?_
                  refine o_move ?_
                  try dsimp only [putL, setL, evL, getL]
                  refine HL_cons rfl ?_
                  refine o_move ?_
                  try dsimp only [putL, setL, evL, getL]
                  obtain ⟨u100, hu100, H⟩ := headE H
                  refine HL_cons rfl ?_
                  refine o_call (args := #[.slice A28 u96.2.length c28, .int .i64 1]) Try.func20 rfl rfl (by show ([.slice A28 u27.1.length c28, .int .i64 1] : List Value) = [.slice A28 u96.2.length c28, .int .i64 1]; rw [hl97]; first | done | rfl) (laws_heldIntS.ok s96 s96 no A28 c28 u96.2 1 (hH.rd 2 rfl) (Hp.own (Bs.refl s96)) _ hu100) ?_
                  rintro _ s100 ⟨rfl, hD⟩
                  replace hH := hH.back0T hD
                  clear hD
                  dsimp only [addC, setC, rmC, selC, getC] at hH
                  try dsimp only [putL, setL, evL, getL]
                  refine HL_cons rfl ?_
                  refine o_assign ?_
                  try dsimp only [putL, setL, evL, getL]
                  refine HL_nil ?_
                  refine hK99 _ _ ?_
                  refine HT_seq_k ?_
                  intro K101 hK101
                  refine HT_seq_k ?_
                  intro K102 hK102
                  refine HT_region ?_
                  refine HL_cons rfl ?_
                  refine o_move ?_
                  try dsimp only [putL, setL, evL, getL]
                  refine HL_cons rfl ?_
                  refine o_bin rfl rfl rfl ?_
                  try dsimp only [putL, setL, evL, getL]
                  refine HL_nil ?_
                  refine hK102 _ _ ?_
                  rcases Bool.eq_false_or_eq_true (decide (u100 < 0)) with hb103 | hb103
                  · replace H := iteT hb103 H
                    refine HT_true (congrArg Value.bool hb103) ?_
                    refine HT_seq_k ?_
                    intro K104 hK104
                    refine HT_region ?_
                    refine HL_cons rfl ?_
                    refine o_assign ?_
                    try dsimp only [putL, setL, evL, getL]
                    refine HL_nil ?_
                    refine hK104 _ _ ?_
                    refine HT_ret ?_
                    obtain rfl := Option.some.inj (show some _ = some r from H)
                    exact hQr _ _ [.bool false] ⟨rfl, trivial⟩ ⟨rfl, hH.sel [] (by decide)⟩
                  · replace H := iteF hb103 H
                    refine HT_false (congrArg Value.bool hb103) ?_
                    refine HT_skip ?_
                    refine hK101 _ _ ?_
                    refine HT_seq_k ?_
                    intro K105 hK105
                    refine HT_seq_k ?_
                    intro K106 hK106
                    refine HT_region ?_
                    refine HL_cons rfl ?_
                    refine o_move ?_
                    try dsimp only [putL, setL, evL, getL]
                    refine HL_cons rfl ?_
                    refine o_move ?_
                    try dsimp only [putL, setL, evL, getL]
                    refine HL_cons rfl ?_
                    refine o_bin rfl rfl rfl ?_
                    try dsimp only [putL, setL, evL, getL]
                    refine HL_nil ?_
                    refine hK106 _ _ ?_
                    rcases Bool.eq_false_or_eq_true (u100 != u96.1) with hb107 | hb107
                    · replace H := iteT hb107 H
                      refine HT_true (congrArg Value.bool hb107) ?_
                      refine HT_seq_k ?_
                      intro K108 hK108
                      refine HT_region ?_
                      refine HL_cons rfl ?_
                      refine o_assign ?_
                      try dsimp only [putL, setL, evL, getL]
                      refine HL_nil ?_
                      refine hK108 _ _ ?_
                      refine HT_ret ?_
                      obtain rfl := Option.some.inj (show some _ = some r from H)
                      exact hQr _ _ [.bool false] ⟨rfl, trivial⟩ ⟨rfl, hH.sel [] (by decide)⟩
                    · replace H := iteF hb107 H
                      refine HT_false (congrArg Value.bool hb107) ?_
                      refine HT_skip ?_
                      refine hK105 _ _ ?_
                      refine HT_seq_k ?_
                      intro K109 hK109
                      refine HT_region ?_
                      refine HL_cons rfl ?_
                      refine o_move ?_
                      try dsimp only [putL, setL, evL, getL]
                      obtain ⟨u110, hu110, H⟩ := headE H
                      refine HL_cons rfl ?_
                      refine o_call (args := #[.slice A0p p0.length c0p]) Try.func16 rfl rfl rfl (laws_toIntS.ok sb s100 no A0p c0p p0 HRp0 (Hp.own hH.bs) _ hu110) ?_
                      rintro _ s110 ⟨A111, c111, rfl, hD⟩
                      replace hH := hH.back0 hD (Up.refl _ _ _)
                      clear hD
                      dsimp only [addC, setC, rmC, selC, getC] at hH
                      try dsimp only [putL, setL, evL, getL]
                      refine HL_cons rfl ?_
                      refine o_move ?_
                      try dsimp only [putL, setL, evL, getL]
                      obtain ⟨u112, hu112, H⟩ := headE H
                      refine HL_cons rfl ?_
                      refine o_call (args := #[.slice A1p p1.length c1p]) Try.func30 rfl rfl rfl (laws_toEditS.ok sb s110 no A1p c1p p1 HRp1 (Hp.own hH.bs) _ hu112) ?_
                      rintro _ s112 ⟨A113, c113, rfl, hD⟩
                      replace hH := hH.back0 hD (Up.refl _ _ _)
                      clear hD
                      dsimp only [addC, setC, rmC, selC, getC] at hH
                      try dsimp only [putL, setL, evL, getL]
                      obtain ⟨u114, hu114, H⟩ := headE H
                      refine HL_cons rfl ?_
                      refine o_call (args := #[.slice A111 u110.length c111, .slice A113 u112.length c113]) Try.func38 rfl rfl rfl (impl_ApplyDiff.ok s112 s112 no A111 c111 u110 A113 c113 u112 (hH.rd 3 rfl) (hH.rd 4 rfl) (Hp.own (Bs.refl s112)) _ hu114) ?_
                      rintro _ s114 ⟨A115, c115, rfl, hD⟩
                      replace hH := hH.back0T hD
                      clear hD
                      dsimp only [addC, setC, rmC, selC, getC] at hH
                      try dsimp only [putL, setL, evL, getL]
                      refine HL_cons rfl ?_
                      refine o_move ?_
                      try dsimp only [putL, setL, evL, getL]
                      refine HL_cons rfl ?_
                      refine o_extract rfl rfl ?_
                      try dsimp only [putL, setL, evL, getL]
                      refine HL_cons rfl ?_
                      refine o_extract rfl rfl ?_
                      try dsimp only [putL, setL, evL, getL]
                      refine HL_cons rfl ?_
                      refine o_assign ?_
                      try dsimp only [putL, setL, evL, getL]
                      refine HL_cons rfl ?_
                      refine o_assign ?_
                      try dsimp only [putL, setL, evL, getL]
                      refine HL_nil ?_
                      refine hK109 _ _ ?_
                      refine HT_seq_k ?_
                      intro K126 hK126
                      refine joinH H fun G127 hG127 H => ?_
                      refine HT_joinK (fun l' s' => ∃ (x130 : Bool), G127 x130 = some r ∧ l' = [.slice A0p p0.length c0p, .slice A1p p1.length c1p, undef, undef, .bool false, .int .i64 u8, .slice A19 u18.1.length c19, .bool u18.2, .slice A22 u21.length c22, .slice A25 u24.length c25, .slice A28 u27.1.length c28, .bool u27.2, .int .i64 u68.1, .int .i64 u96.1, .int .i64 u100, .slice A115 u114.1.length c115, .bool u114.2, .slice A0p p0.length c0p, .int .i64 (p0.length : Int), .bool (decide ((p0.length : Int) > 1048576)), .slice A1p p1.length c1p, .int .i64 1048576, .int .i64 u8, .int .i64 u8, .bool (decide (u8 < 0)), .tuple #[.slice A19 u18.1.length c19, .bool u18.2], .slice A0p p0.length c0p, .slice A15 u14.length c15, .slice A1p p1.length c1p, .slice A17 u16.length c17, .tuple #[.slice A19 u18.1.length c19, .bool u18.2], .slice A19 u18.1.length c19, .bool u18.2, .slice A0p p0.length c0p, .slice A22 u21.length c22, .slice A1p p1.length c1p, .slice A25 u24.length c25, .tuple #[.slice A28 u27.1.length c28, .bool u27.2], .slice A22 u21.length c22, .slice A25 u24.length c25, .tuple #[.slice A28 u27.1.length c28, .bool u27.2], .slice A28 u27.1.length c28, .bool u27.2, j43, j44, j45, j46, j47, j48, j49, j50, .bool x43, .slice A22 u21.length c22, .slice A0p p0.length c0p, .slice A52 u51.length c52, .bool u53, .bool (!u53), .slice A25 u24.length c25, .slice A1p p1.length c1p, .slice A59 u58.length c59, .bool u60, .bool (!u60), .slice A22 u21.length c22, .int .i64 1, .int .i64 u65.1, .slice A25 u24.length c25, .int .i64 u65.1, .int .i64 u68.1, j68, j69, j70, j71, j72, j73, j74, j75, j76, j77, j78, j79, .bool x87, .slice A28 u27.1.length c28, .int .i64 1, .int .i64 u96.1, .slice A28 u27.1.length c28, .int .i64 1, .int .i64 u100, .int .i64 u100, .bool (decide (u100 < 0)), .int .i64 u100, .int .i64 u96.1, .bool (u100 != u96.1), .tuple #[.slice A115 u114.1.length c115, .bool u114.2], .slice A0p p0.length c0p, .slice A111 u110.length c111, .slice A1p p1.length c1p, .slice A113 u112.length c113, .tuple #[.slice A115 u114.1.length c115, .bool u114.2], .slice A115 u114.1.length c115, .bool u114.2, getL l' 100, getL l' 101, getL l' 102, getL l' 103, getL l' 104, getL l' 105, getL l' 106, getL l' 107, .bool x130, undef, undef, undef, undef, undef, undef, undef, undef] ∧ Hp sb s F0 s' [Ck.ol OI 3 A28 c28 u96.2]) ?_ ?_
                      · intro K127 hK127
                        refine HT_region ?_
                        refine HL_cons rfl ?_
                        refine o_move ?_
                        try dsimp only [putL, setL, evL, getL]
                        refine HL_cons rfl ?_
                        refine o_move ?_
                        try dsimp only [putL, setL, evL, getL]
                        obtain ⟨u131, hu131, H⟩ := headE H
                        refine HL_cons rfl ?_
                        refine o_call (args := #[.slice A115 u114.1.length c115, .slice A19 u18.1.length c19]) Try.func18 rfl rfl rfl (laws_eqIntS.ok s114 s114 no A115 c115 u114.1 A19 c19 u18.1 (hH.rd 5 rfl) (hH.rd 0 rfl) (Hp.own (Bs.refl s114)) _ hu131) ?_
                        rintro _ s131 ⟨rfl, hD⟩
                        replace hH := hH.back0T hD
                        clear hD
                        dsimp only [addC, setC, rmC, selC, getC] at hH
                        try dsimp only [putL, setL, evL, getL]
                        refine HL_cons rfl ?_
                        refine o_not rfl ?_
                        try dsimp only [putL, setL, evL, getL]
                        refine HL_cons rfl ?_
                        refine o_move ?_
                        try dsimp only [putL, setL, evL, getL]
                        rcases Bool.eq_false_or_eq_true (!u131) with hb132 | hb132
                        · replace H := iteT hb132 H
                          refine HL_skip ?_ ?_
                          · exact wantF (j := 4) (b := false) (t := 104) (c := !u131) rfl rfl rfl rfl hb132
                          try dsimp only [putL, setL, evL, getL]
                          refine HL_skip ?_ ?_
                          · exact wantF (j := 4) (b := false) (t := 104) (c := !u131) rfl rfl rfl rfl hb132
                          try dsimp only [putL, setL, evL, getL]
                          refine HL_skip ?_ ?_
                          · exact wantF (j := 4) (b := false) (t := 104) (c := !u131) rfl rfl rfl rfl hb132
                          try dsimp only [putL, setL, evL, getL]
                          refine HL_cons rfl ?_
                          refine o_pickT rfl hb132 ?_
                          try dsimp only [putL, setL, evL, getL]
                          refine HL_nil ?_
                          exact hK127 _ _ ⟨true, H, rfl, hH.sel [2] (by decide)⟩
                        · replace H := iteF hb132 H
                          refine HL_want ?_ ?_
                          · exact wantT (j := 4) (b := false) (t := 104) (c := !u131) rfl rfl rfl rfl hb132
                          refine o_move ?_
                          try dsimp only [putL, setL, evL, getL]
                          refine HL_want ?_ ?_
                          · exact wantT (j := 4) (b := false) (t := 104) (c := !u131) rfl rfl rfl rfl hb132
                          refine o_move ?_
                          try dsimp only [putL, setL, evL, getL]
                          refine HL_want ?_ ?_
                          · exact wantT (j := 4) (b := false) (t := 104) (c := !u131) rfl rfl rfl rfl hb132
                          refine o_neb rfl rfl Try.underlying4 ?_
                          try dsimp only [putL, setL, evL, getL]
                          refine HL_cons rfl ?_
                          refine o_pickF rfl hb132 ?_
                          try dsimp only [putL, setL, evL, getL]
                          refine HL_nil ?_
                          exact hK127 _ _ ⟨u114.2 != u18.2, H, rfl, hH.sel [2] (by decide)⟩
                      · rintro l' s133 ⟨x130, H, hl, hH⟩
                        generalize getL l' 100 = j100, getL l' 101 = j101, getL l' 102 = j102, getL l' 103 = j103, getL l' 104 = j104, getL l' 105 = j105, getL l' 106 = j106, getL l' 107 = j107 at hl
                        subst hl
                        replace H := hG127 _ H
                        try dsimp only at H
                        rcases Bool.eq_false_or_eq_true x130 with hb134 | hb134
                        · replace H := iteT hb134 H
                          refine HT_true (congrArg Value.bool hb134) ?_
                          refine HT_seq_k ?_
                          intro K135 hK135
                          refine HT_region ?_
                          refine HL_cons rfl ?_
                          refine o_assign ?_
                          try dsimp only [putL, setL, evL, getL]
                          refine HL_nil ?_
                          refine hK135 _ _ ?_
                          refine HT_ret ?_
                          obtain rfl := Option.some.inj (show some _ = some r from H)
                          exact hQr _ _ [.bool false] ⟨rfl, trivial⟩ ⟨rfl, hH.sel [] (by decide)⟩
                        · replace H := iteF hb134 H
                          refine HT_false (congrArg Value.bool hb134) ?_
                          refine HT_skip ?_
                          refine hK126 _ _ ?_
                          refine HT_seq_k ?_
                          intro K136 hK136
                          refine HT_region ?_
                          refine HL_cons rfl ?_
                          refine o_assign ?_
                          try dsimp only [putL, setL, evL, getL]
                          refine HL_nil ?_
                          refine hK136 _ _ ?_
                          refine HT_seq_k ?_
                          intro K137 hK137
                          refine HT_region ?_
                          refine HL_cons rfl ?_
                          refine o_move ?_
                          try dsimp only [putL, setL, evL, getL]
                          refine HL_cons rfl ?_
                          refine o_move ?_
                          try dsimp only [putL, setL, evL, getL]
                          obtain ⟨u138, hu138, H⟩ := headE H
                          refine HL_cons rfl ?_
                          refine o_call (args := #[.slice A28 u96.2.length c28, .int .i64 1]) Try.func20 rfl rfl (by show ([.slice A28 u27.1.length c28, .int .i64 1] : List Value) = [.slice A28 u96.2.length c28, .int .i64 1]; rw [hl97]; first | done | rfl) (laws_heldIntS.ok s133 s133 no A28 c28 u96.2 1 (hH.rd 0 rfl) (Hp.own (Bs.refl s133)) _ hu138) ?_
                          rintro _ s138 ⟨rfl, hD⟩
                          replace hH := hH.back0T hD
                          clear hD
                          dsimp only [addC, setC, rmC, selC, getC] at hH
                          try dsimp only [putL, setL, evL, getL]
                          refine HL_cons rfl ?_
                          refine o_assign ?_
                          try dsimp only [putL, setL, evL, getL]
                          refine HL_nil ?_
                          refine hK137 _ _ ?_
                          refine HT_seq_k ?_
                          intro K139 hK139
                          refine HT_seq_k ?_
                          intro K140 hK140
                          refine HT_region ?_
                          refine HL_cons rfl ?_
                          refine o_move ?_
                          try dsimp only [putL, setL, evL, getL]
                          refine HL_cons rfl ?_
                          refine o_bin rfl rfl rfl ?_
                          try dsimp only [putL, setL, evL, getL]
                          refine HL_nil ?_
                          refine hK140 _ _ ?_
                          rcases Bool.eq_false_or_eq_true (decide (u138 < 0)) with hb141 | hb141
                          · replace H := iteT hb141 H
                            refine HT_true (congrArg Value.bool hb141) ?_
                            refine HT_seq_k ?_
                            intro K142 hK142
                            refine HT_region ?_
                            refine HL_cons rfl ?_
                            refine o_assign ?_
                            try dsimp only [putL, setL, evL, getL]
                            refine HL_nil ?_
                            refine hK142 _ _ ?_
                            refine HT_ret ?_
                            obtain rfl := Option.some.inj (show some _ = some r from H)
                            exact hQr _ _ [.bool false] ⟨rfl, trivial⟩ ⟨rfl, hH.sel [] (by decide)⟩
                          · replace H := iteF hb141 H
                            refine HT_false (congrArg Value.bool hb141) ?_
                            refine HT_skip ?_
                            refine hK139 _ _ ?_
                            refine HT_seq_k ?_
                            intro K143 hK143
                            refine HT_seq_k ?_
                            intro K144 hK144
                            refine HT_region ?_
                            refine HL_cons rfl ?_
                            refine o_move ?_
                            try dsimp only [putL, setL, evL, getL]
                            refine HL_cons rfl ?_
                            refine o_move ?_
                            try dsimp only [putL, setL, evL, getL]
                            refine HL_cons rfl ?_
                            refine o_bin rfl rfl rfl ?_
                            try dsimp only [putL, setL, evL, getL]
                            refine HL_nil ?_
                            refine hK144 _ _ ?_
                            rcases Bool.eq_false_or_eq_true (u138 != u96.1) with hb145 | hb145
                            · replace H := iteT hb145 H
                              refine HT_true (congrArg Value.bool hb145) ?_
                              refine HT_seq_k ?_
                              intro K146 hK146
                              refine HT_region ?_
                              refine HL_cons rfl ?_
                              refine o_assign ?_
                              try dsimp only [putL, setL, evL, getL]
                              refine HL_nil ?_
                              refine hK146 _ _ ?_
                              refine HT_ret ?_
                              obtain rfl := Option.some.inj (show some _ = some r from H)
                              exact hQr _ _ [.bool false] ⟨rfl, trivial⟩ ⟨rfl, hH.sel [] (by decide)⟩
                            · replace H := iteF hb145 H
                              refine HT_false (congrArg Value.bool hb145) ?_
                              refine HT_skip ?_
                              refine hK143 _ _ ?_
                              refine HT_seq_k ?_
                              intro K147 hK147
                              refine HT_region ?_
                              refine HL_cons rfl ?_
                              refine o_assign ?_
                              try dsimp only [putL, setL, evL, getL]
                              refine HL_nil ?_
                              refine hK147 _ _ ?_
                              refine HT_ret ?_
                              obtain rfl := Option.some.inj (show some _ = some r from H)
                              exact hQr _ _ [.bool true] ⟨rfl, trivial⟩ ⟨rfl, hH.sel [] (by decide)⟩
end Go.Proofs.Ytopecknfnhocpaa
