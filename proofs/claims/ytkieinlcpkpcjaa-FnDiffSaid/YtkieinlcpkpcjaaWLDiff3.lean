/- The functions that the law reaches, as plain functions, each with its contract: printed by a program of the prover's. No conditions: lemmas. -/
import Derived.Test.YtkieinlcpkpcjaaWLDiff2
set_option linter.unusedVariables false
set_option linter.unusedSimpArgs false
namespace Go.Proofs.Ytkieinlcpkpcjaa
open Go Go.Proofs.GL
def slices_IndexFunc_impl_Edit_impl_Edit_impl_areEdits_1.l1 (p0 : List ((Int) × (List (Int)))) : Nat → Int → Option (Lo Unit Int)
  | 0, _ => none
  | kf + 1, x52 => if (decide (x52 < (p0.length : Int))) = true then ((rd? p0 x52).bind fun u72 => (impl_areEdits_1.f u72.1 u72.2).bind fun u74 => if u74 = true then ((some x52).bind fun z => some (Lo.ret z)) else (slices_IndexFunc_impl_Edit_impl_Edit_impl_areEdits_1.l1 p0 kf (IntKind.i64.wrap (x52 + 1)))) else (some (Lo.go ()))
def slices_IndexFunc_impl_Edit_impl_Edit_impl_areEdits_1.f (p0 : List ((Int) × (List (Int)))) : Option Int := (slices_IndexFunc_impl_Edit_impl_Edit_impl_areEdits_1.l1 p0 ((((p0.length : Int)) - (0)).toNat + 2) 0).bind fun (o : Lo Unit Int) => match o with | .go () => (some (-1)) | .ret z => some z
def slices_IndexFunc_impl_Edit_impl_Edit_impl_areEdits_1.post (sb s : St) (F0 : Fp) (r : Int) : Value → St → Prop := fun v s' => v = .int .i64 r ∧ Hp sb s F0 s' []
set_option maxRecDepth 100000 in
set_option maxHeartbeats 4000000 in
theorem slices_IndexFunc_impl_Edit_impl_Edit_impl_areEdits_1.ok (sb s : St) (F0 : Fp) (A0p : Option Addr) (c0p : Nat) (p0 : List ((Int) × (List (Int)))) (HRp0 : Rd KS170 sb A0p c0p p0) (hH : Hp sb s F0 s []) (r : Int) (H : slices_IndexFunc_impl_Edit_impl_Edit_impl_areEdits_1.f p0 = some r) : GCall Try.prog 228 #[.slice A0p p0.length c0p, .func (.func 211) #[] #[]] s (slices_IndexFunc_impl_Edit_impl_Edit_impl_areEdits_1.post sb s F0 r) := by
  refine GCall_ofk [.tmp 4] [.slice A0p p0.length c0p, .func (.func 211) #[] #[], undef, undef, undef, undef, undef, undef, undef, undef, undef, undef, undef, undef, undef, undef, undef, undef, undef] Try.func228 rfl rfl rfl ?_
  intro w Q hQr hQn hQp
  replace H := topE H
  unfold slices_IndexFunc_impl_Edit_impl_Edit_impl_areEdits_1.f at H
  refine HT_seq_k ?_
  intro K1 hK1
  refine HT_region ?_
  refine HL_cons rfl ?_
  refine o_assign ?_
  try dsimp only [putL, setL, evL, getL]
  refine HL_nil ?_
  refine hK1 _ _ ?_
  refine HT_seq_k ?_
  intro K2 hK2
  refine HT_seq_k ?_
  intro K3 hK3
  refine HT_region ?_
  refine HL_cons rfl ?_
  refine o_move ?_
  try dsimp only [putL, setL, evL, getL]
  refine HL_cons rfl ?_
  refine o_len rfl Try.underlying85 ?_
  try dsimp only [putL, setL, evL, getL]
  refine HL_cons rfl ?_
  refine o_move ?_
  try dsimp only [putL, setL, evL, getL]
  refine HL_nil ?_
  refine hK3 _ _ ?_
  refine joinH H fun G4 hG4 H => ?_
  refine HT_toK (fun l' s' => G4 (.go ()) = some r ∧ l' = [.slice A0p p0.length c0p, .func (.func 211) #[] #[], undef, undef, getL l' 4, getL l' 5, .slice A0p p0.length c0p, .int .i64 (p0.length : Int), getL l' 8, getL l' 9, getL l' 10, getL l' 11, getL l' 12, getL l' 13, getL l' 14, getL l' 15, getL l' 16, getL l' 17, getL l' 18] ∧ Hp sb s F0 s' []) ?_ ?_
  · intro K4 hK4
    refine HT_block ?_
    refine HT_loopK (fun kf l' s' => ∃ (x52 : Int), (slices_IndexFunc_impl_Edit_impl_Edit_impl_areEdits_1.l1 p0 kf x52).bind G4 = some r ∧ l' = [.slice A0p p0.length c0p, .func (.func 211) #[] #[], undef, undef, getL l' 4, getL l' 5, .slice A0p p0.length c0p, .int .i64 (p0.length : Int), .int .i64 x52, getL l' 9, getL l' 10, getL l' 11, getL l' 12, getL l' 13, getL l' 14, getL l' 15, getL l' 16, getL l' 17, getL l' 18] ∧ Hp sb s F0 s' []) ((((p0.length : Int)) - (0)).toNat + 2) ⟨0, H, rfl, hH⟩ ?_
    rintro kf l' s65 ⟨x52, H, hl, hH⟩ K65 hK65
    generalize getL l' 4 = j4, getL l' 5 = j5, getL l' 9 = j9, getL l' 10 = j10, getL l' 11 = j11, getL l' 12 = j12, getL l' 13 = j13, getL l' 14 = j14, getL l' 15 = j15, getL l' 16 = j16, getL l' 17 = j17, getL l' 18 = j18 at hl
    subst hl
    cases kf with
    | zero => simp [slices_IndexFunc_impl_Edit_impl_Edit_impl_areEdits_1.l1] at H
    | succ kf =>
      rw [slices_IndexFunc_impl_Edit_impl_Edit_impl_areEdits_1.l1] at H
      refine HT_seq_k ?_
      intro K66 hK66
      refine HT_region ?_
      refine HL_cons rfl ?_
      refine o_bin rfl rfl rfl ?_
      try dsimp only [putL, setL, evL, getL]
      refine HL_nil ?_
      refine hK66 _ _ ?_
      refine HT_seq_k ?_
      intro K67 hK67
      rcases Bool.eq_false_or_eq_true (decide (x52 < (p0.length : Int))) with hb68 | hb68
      · replace H := iteT hb68 H
        refine HT_true (congrArg Value.bool hb68) ?_
        refine HT_skip ?_
        refine hK67 _ _ ?_
        refine HT_seq_k ?_
        intro K69 hK69
        refine HT_block ?_
        refine HT_seq_k ?_
        intro K70 hK70
        refine HT_region ?_
        refine HL_cons rfl ?_
        refine o_move ?_
        try dsimp only [putL, setL, evL, getL]
        refine HL_cons rfl ?_
        refine o_assign ?_
        try dsimp only [putL, setL, evL, getL]
        refine HL_nil ?_
        refine hK70 _ _ ?_
        refine HT_seq_k ?_
        intro K71 hK71
        refine HT_region ?_
        refine HL_cons rfl ?_
        refine o_move ?_
        try dsimp only [putL, setL, evL, getL]
        refine HL_cons rfl ?_
        refine o_move ?_
        try dsimp only [putL, setL, evL, getL]
        refine HL_cons rfl ?_
        refine o_move ?_
        try dsimp only [putL, setL, evL, getL]
        replace H := headE H
        obtain ⟨u72, hu72, H⟩ := H
        obtain ⟨b72, o72, cs72, hr72, hh72, hel72⟩ := Rd.elb HRp0 hu72
        obtain ⟨_, _, rfl, rfl, ⟨A73, c73, rfl, D73⟩⟩ := hr72
        refine HL_cons rfl ?_
        refine hel72 s65 rfl rfl Try.underlying85 tI170 ?_
        try dsimp only [putL, setL, evL, getL]
        refine HL_cons rfl ?_
        refine o_loads' [.int .i64 u72.1, .slice A73 u72.2.length c73] rfl Try.underlying170 rfl tI170 rfl (fun j v hj => (hh72 hH.bs.mono) j v hj) ?_
        try dsimp only [putL, setL, evL, getL]
        replace H := headE H
        obtain ⟨u74, hu74, H⟩ := H
        refine HL_cons rfl ?_
        refine o_callv (first := #[]) (cap := #[]) (args := #[.agg #[.int .i64 u72.1, .slice A73 u72.2.length c73]]) rfl Try.func211 rfl rfl [.agg #[.int .i64 u72.1, .slice A73 u72.2.length c73]] rfl (by simp) (impl_areEdits_1.ok sb s65 no u72.1 A73 c73 u72.2 D73 (Hp.own hH.bs) _ hu74) ?_
        rintro _ s74 ⟨rfl, hD⟩
        replace hH := hH.back0 hD (Up.refl _ _ _)
        clear hD
        dsimp only [addC, setC, rmC, selC, getC] at hH
        try dsimp only [putL, setL, evL, getL]
        refine HL_nil ?_
        refine hK71 _ _ ?_
        rcases Bool.eq_false_or_eq_true u74 with hb75 | hb75
        · replace H := iteT hb75 H
          refine HT_true (congrArg Value.bool hb75) ?_
          refine HT_seq_k ?_
          intro K76 hK76
          refine HT_region ?_
          refine HL_cons rfl ?_
          refine o_move ?_
          try dsimp only [putL, setL, evL, getL]
          refine HL_cons rfl ?_
          refine o_assign ?_
          try dsimp only [putL, setL, evL, getL]
          refine HL_nil ?_
          refine hK76 _ _ ?_
          refine HT_ret ?_
          replace H := escH (fun z hz => hG4 _ hz) H
          exact hQr _ _ [.int .i64 x52] ⟨rfl, trivial⟩ (retH (fun r => slices_IndexFunc_impl_Edit_impl_Edit_impl_areEdits_1.post sb s F0 r _ _) (show some _ = some r from H) ⟨rfl, hH⟩)
        · replace H := iteF hb75 H
          refine HT_false (congrArg Value.bool hb75) ?_
          refine HT_skip ?_
          refine hK69 _ _ ?_
          refine HT_region ?_
          refine HL_cons rfl ?_
          refine o_bin rfl rfl rfl ?_
          try dsimp only [putL, setL, evL, getL]
          refine HL_cons rfl ?_
          refine o_move ?_
          try dsimp only [putL, setL, evL, getL]
          refine HL_nil ?_
          exact hK65 _ _ ⟨kf, Nat.lt_succ_self kf, IntKind.i64.wrap (x52 + 1), H, rfl, hH⟩
      · replace H := iteF hb68 H
        refine HT_false (congrArg Value.bool hb68) ?_
        refine HT_exit ?_
        exact hK4 _ _ ⟨H, rfl, hH⟩
  · rintro l' s77 ⟨H, hl, hH⟩
    generalize getL l' 4 = j4, getL l' 5 = j5, getL l' 8 = j8, getL l' 9 = j9, getL l' 10 = j10, getL l' 11 = j11, getL l' 12 = j12, getL l' 13 = j13, getL l' 14 = j14, getL l' 15 = j15, getL l' 16 = j16, getL l' 17 = j17, getL l' 18 = j18 at hl
    subst hl
    replace H := hG4 _ H
    try dsimp only at H
    refine hK2 _ _ ?_
    refine HT_seq_k ?_
    intro K78 hK78
    refine HT_region ?_
    refine HL_cons rfl ?_
    refine o_assign ?_
    try dsimp only [putL, setL, evL, getL]
    refine HL_nil ?_
    refine hK78 _ _ ?_
    refine HT_ret ?_
    exact hQr _ _ [.int .i64 (-1)] ⟨rfl, trivial⟩ (retH (fun r => slices_IndexFunc_impl_Edit_impl_Edit_impl_areEdits_1.post sb s F0 r _ _) (show some _ = some r from H) ⟨rfl, hH⟩)
def slices_ContainsFunc_impl_Edit_impl_Edit_impl_areEdits_1.f (p0 : List ((Int) × (List (Int)))) : Option Bool := (slices_IndexFunc_impl_Edit_impl_Edit_impl_areEdits_1.f p0).bind fun u3 => some (decide (u3 ≥ 0))
def slices_ContainsFunc_impl_Edit_impl_Edit_impl_areEdits_1.post (sb s : St) (F0 : Fp) (r : Bool) : Value → St → Prop := fun v s' => v = .bool r ∧ Hp sb s F0 s' []
set_option maxRecDepth 100000 in
set_option maxHeartbeats 4000000 in
theorem slices_ContainsFunc_impl_Edit_impl_Edit_impl_areEdits_1.ok (sb s : St) (F0 : Fp) (A0p : Option Addr) (c0p : Nat) (p0 : List ((Int) × (List (Int)))) (HRp0 : Rd KS170 sb A0p c0p p0) (hH : Hp sb s F0 s []) (r : Bool) (H : slices_ContainsFunc_impl_Edit_impl_Edit_impl_areEdits_1.f p0 = some r) : GCall Try.prog 210 #[.slice A0p p0.length c0p, .func (.func 211) #[] #[]] s (slices_ContainsFunc_impl_Edit_impl_Edit_impl_areEdits_1.post sb s F0 r) := by
  refine GCall_ofk [.tmp 4] [.slice A0p p0.length c0p, .func (.func 211) #[] #[], undef, undef, undef, undef, undef, undef, undef] Try.func210 rfl rfl rfl ?_
  intro w Q hQr hQn hQp
  replace H := topE H
  unfold slices_ContainsFunc_impl_Edit_impl_Edit_impl_areEdits_1.f at H
  refine HT_seq_k ?_
  intro K1 hK1
  refine HT_region ?_
  refine HL_cons rfl ?_
  refine o_assign ?_
  try dsimp only [putL, setL, evL, getL]
  refine HL_nil ?_
  refine hK1 _ _ ?_
  refine HT_seq_k ?_
  intro K2 hK2
  refine HT_region ?_
  refine HL_cons rfl ?_
  refine o_move ?_
  try dsimp only [putL, setL, evL, getL]
  refine HL_cons rfl ?_
  refine o_move ?_
  try dsimp only [putL, setL, evL, getL]
  replace H := headE H
  obtain ⟨u3, hu3, H⟩ := H
  refine HL_cons rfl ?_
  refine o_call (args := #[.slice A0p p0.length c0p, .func (.func 211) #[] #[]]) Try.func228 rfl rfl rfl (slices_IndexFunc_impl_Edit_impl_Edit_impl_areEdits_1.ok sb s no A0p c0p p0 HRp0 (Hp.own hH.bs) _ hu3) ?_
  rintro _ s3 ⟨rfl, hD⟩
  replace hH := hH.back0 hD (Up.refl _ _ _)
  clear hD
  dsimp only [addC, setC, rmC, selC, getC] at hH
  try dsimp only [putL, setL, evL, getL]
  refine HL_cons rfl ?_
  refine o_bin rfl rfl rfl ?_
  try dsimp only [putL, setL, evL, getL]
  refine HL_cons rfl ?_
  refine o_assign ?_
  try dsimp only [putL, setL, evL, getL]
  refine HL_nil ?_
  refine hK2 _ _ ?_
  refine HT_ret ?_
  exact hQr _ _ [.bool (decide (u3 ≥ 0))] ⟨rfl, trivial⟩ (retH (fun r => slices_ContainsFunc_impl_Edit_impl_Edit_impl_areEdits_1.post sb s F0 r _ _) (show some _ = some r from H) ⟨rfl, hH⟩)
def impl_areEdits.f (p0 : List ((Int) × (List (Int)))) : Option Bool := if (decide ((p0.length : Int) ≤ 120)) = true then ((slices_ContainsFunc_impl_Edit_impl_Edit_impl_areEdits_1.f p0).bind fun u4 => some (!u4)) else (some false)
def impl_areEdits.post (sb s : St) (F0 : Fp) (r : Bool) : Value → St → Prop := fun v s' => v = .bool r ∧ Hp sb s F0 s' []
set_option maxRecDepth 100000 in
set_option maxHeartbeats 4000000 in
theorem impl_areEdits.ok (sb s : St) (F0 : Fp) (A0p : Option Addr) (c0p : Nat) (p0 : List ((Int) × (List (Int)))) (HRp0 : Rd KS170 sb A0p c0p p0) (hH : Hp sb s F0 s []) (r : Bool) (H : impl_areEdits.f p0 = some r) : GCall Try.prog 161 #[.slice A0p p0.length c0p] s (impl_areEdits.post sb s F0 r) := by
  refine GCall_ofk [.tmp 2] [.slice A0p p0.length c0p, undef, undef, undef, undef, undef, undef, undef, undef, undef, undef] Try.func161 rfl rfl rfl ?_
  intro w Q hQr hQn hQp
  replace H := topE H
  unfold impl_areEdits.f at H
  refine HT_seq_k ?_
  intro K1 hK1
  refine HT_region ?_
  refine HL_cons rfl ?_
  refine o_assign ?_
  try dsimp only [putL, setL, evL, getL]
  refine HL_nil ?_
  refine hK1 _ _ ?_
  refine HT_seq_k ?_
  intro K2 hK2
  refine HT_region ?_
  refine HL_cons rfl ?_
  refine o_move ?_
  try dsimp only [putL, setL, evL, getL]
  refine HL_cons rfl ?_
  refine o_len rfl Try.underlying85 ?_
  try dsimp only [putL, setL, evL, getL]
  refine HL_cons rfl ?_
  refine o_bin rfl rfl rfl ?_
  try dsimp only [putL, setL, evL, getL]
  refine HL_cons rfl ?_
  refine o_move ?_
  try dsimp only [putL, setL, evL, getL]
  rcases Bool.eq_false_or_eq_true (decide ((p0.length : Int) ≤ 120)) with hb3 | hb3
  · replace H := iteT hb3 H
    refine HL_want ?_ ?_
    · exact wantT (j := 3) (b := true) (t := 6) (c := decide ((p0.length : Int) ≤ 120)) rfl rfl rfl rfl hb3
    refine o_move ?_
    try dsimp only [putL, setL, evL, getL]
    replace H := headE H
    obtain ⟨u4, hu4, H⟩ := H
    refine HL_want ?_ ?_
    · exact wantT (j := 3) (b := true) (t := 6) (c := decide ((p0.length : Int) ≤ 120)) rfl rfl rfl rfl hb3
    refine o_call (args := #[.slice A0p p0.length c0p, .func (.func 211) #[] #[]]) Try.func210 rfl rfl rfl (slices_ContainsFunc_impl_Edit_impl_Edit_impl_areEdits_1.ok sb s no A0p c0p p0 HRp0 (Hp.own hH.bs) _ hu4) ?_
    rintro _ s4 ⟨rfl, hD⟩
    replace hH := hH.back0 hD (Up.refl _ _ _)
    clear hD
    dsimp only [addC, setC, rmC, selC, getC] at hH
    try dsimp only [putL, setL, evL, getL]
    refine HL_want ?_ ?_
    · exact wantT (j := 3) (b := true) (t := 6) (c := decide ((p0.length : Int) ≤ 120)) rfl rfl rfl rfl hb3
    refine o_not rfl ?_
    try dsimp only [putL, setL, evL, getL]
    refine HL_cons rfl ?_
    refine o_pickT rfl hb3 ?_
    try dsimp only [putL, setL, evL, getL]
    refine HL_cons rfl ?_
    refine o_assign ?_
    try dsimp only [putL, setL, evL, getL]
    refine HL_nil ?_
    refine hK2 _ _ ?_
    refine HT_ret ?_
    exact hQr _ _ [.bool (!u4)] ⟨rfl, trivial⟩ (retH (fun r => impl_areEdits.post sb s F0 r _ _) (show some _ = some r from H) ⟨rfl, hH⟩)
  · replace H := iteF hb3 H
    refine HL_skip ?_ ?_
    · exact wantF (j := 3) (b := true) (t := 6) (c := decide ((p0.length : Int) ≤ 120)) rfl rfl rfl rfl hb3
    try dsimp only [putL, setL, evL, getL]
    refine HL_skip ?_ ?_
    · exact wantF (j := 3) (b := true) (t := 6) (c := decide ((p0.length : Int) ≤ 120)) rfl rfl rfl rfl hb3
    try dsimp only [putL, setL, evL, getL]
    refine HL_skip ?_ ?_
    · exact wantF (j := 3) (b := true) (t := 6) (c := decide ((p0.length : Int) ≤ 120)) rfl rfl rfl rfl hb3
    try dsimp only [putL, setL, evL, getL]
    refine HL_cons rfl ?_
    refine o_pickF rfl hb3 ?_
    try dsimp only [putL, setL, evL, getL]
    refine HL_cons rfl ?_
    refine o_assign ?_
    try dsimp only [putL, setL, evL, getL]
    refine HL_nil ?_
    refine hK2 _ _ ?_
    refine HT_ret ?_
    exact hQr _ _ [.bool false] ⟨rfl, trivial⟩ (retH (fun r => impl_areEdits.post sb s F0 r _ _) (show some _ = some r from H) ⟨rfl, hH⟩)
def slices_Equal_int_int.l1 (p0 : List (Int)) (p1 : List (Int)) : Nat → Int → Option (Lo Unit Bool)
  | 0, _ => none
  | kf + 1, x52 => if (decide (x52 < (p0.length : Int))) = true then ((rd? p0 x52).bind fun u71 => (rd? p1 x52).bind fun u72 => if (u71 != u72) = true then ((some false).bind fun z => some (Lo.ret z)) else (slices_Equal_int_int.l1 p0 p1 kf (IntKind.i64.wrap (x52 + 1)))) else (some (Lo.go ()))
def slices_Equal_int_int.f (p0 : List (Int)) (p1 : List (Int)) : Option Bool := if ((p0.length : Int) != (p1.length : Int)) = true then (some false) else ((slices_Equal_int_int.l1 p0 p1 ((((p0.length : Int)) - (0)).toNat + 2) 0).bind fun (o : Lo Unit Bool) => match o with | .go () => (some true) | .ret z => some z)
def slices_Equal_int_int.post (sb s : St) (F0 : Fp) (r : Bool) : Value → St → Prop := fun v s' => v = .bool r ∧ Hp sb s F0 s' []
set_option maxRecDepth 100000 in
set_option maxHeartbeats 4000000 in
theorem slices_Equal_int_int.ok (sb s : St) (F0 : Fp) (A0p : Option Addr) (c0p : Nat) (p0 : List (Int)) (A1p : Option Addr) (c1p : Nat) (p1 : List (Int)) (HRp0 : Rd KI sb A0p c0p p0) (HRp1 : Rd KI sb A1p c1p p1) (hH : Hp sb s F0 s []) (r : Bool) (H : slices_Equal_int_int.f p0 p1 = some r) : GCall Try.prog 162 #[.slice A0p p0.length c0p, .slice A1p p1.length c1p] s (slices_Equal_int_int.post sb s F0 r) := by
  refine GCall_ofk [.tmp 4] [.slice A0p p0.length c0p, .slice A1p p1.length c1p, undef, undef, undef, undef, undef, undef, undef, undef, undef, undef, undef, undef, undef, undef, undef, undef, undef, undef, undef, undef, undef, undef, undef, undef] Try.func162 rfl rfl rfl ?_
  intro w Q hQr hQn hQp
  replace H := topE H
  unfold slices_Equal_int_int.f at H
  refine HT_seq_k ?_
  intro K1 hK1
  refine HT_region ?_
  refine HL_cons rfl ?_
  refine o_assign ?_
  try dsimp only [putL, setL, evL, getL]
  refine HL_nil ?_
  refine hK1 _ _ ?_
  refine HT_seq_k ?_
  intro K2 hK2
  refine HT_seq_k ?_
  intro K3 hK3
  refine HT_region ?_
  refine HL_cons rfl ?_
  refine o_move ?_
  try dsimp only [putL, setL, evL, getL]
  refine HL_cons rfl ?_
  refine o_len rfl Try.underlying24 ?_
  try dsimp only [putL, setL, evL, getL]
  refine HL_cons rfl ?_
  refine o_move ?_
  try dsimp only [putL, setL, evL, getL]
  refine HL_cons rfl ?_
  refine o_len rfl Try.underlying24 ?_
  try dsimp only [putL, setL, evL, getL]
  refine HL_cons rfl ?_
  refine o_bin rfl rfl rfl ?_
  try dsimp only [putL, setL, evL, getL]
  refine HL_nil ?_
  refine hK3 _ _ ?_
  rcases Bool.eq_false_or_eq_true ((p0.length : Int) != (p1.length : Int)) with hb4 | hb4
  · replace H := iteT hb4 H
    refine HT_true (congrArg Value.bool hb4) ?_
    refine HT_seq_k ?_
    intro K5 hK5
    refine HT_region ?_
    refine HL_cons rfl ?_
    refine o_assign ?_
    try dsimp only [putL, setL, evL, getL]
    refine HL_nil ?_
    refine hK5 _ _ ?_
    refine HT_ret ?_
    exact hQr _ _ [.bool false] ⟨rfl, trivial⟩ (retH (fun r => slices_Equal_int_int.post sb s F0 r _ _) (show some _ = some r from H) ⟨rfl, hH⟩)
  · replace H := iteF hb4 H
    refine HT_false (congrArg Value.bool hb4) ?_
    refine HT_skip ?_
    refine hK2 _ _ ?_
    refine HT_seq_k ?_
    intro K6 hK6
    refine HT_seq_k ?_
    intro K7 hK7
    refine HT_region ?_
    refine HL_cons rfl ?_
    refine o_move ?_
    try dsimp only [putL, setL, evL, getL]
    refine HL_cons rfl ?_
    refine o_len rfl Try.underlying24 ?_
    try dsimp only [putL, setL, evL, getL]
    refine HL_cons rfl ?_
    refine o_move ?_
    try dsimp only [putL, setL, evL, getL]
    refine HL_nil ?_
    refine hK7 _ _ ?_
    refine joinH H fun G8 hG8 H => ?_
    refine HT_toK (fun l' s' => G8 (.go ()) = some r ∧ l' = [.slice A0p p0.length c0p, .slice A1p p1.length c1p, undef, undef, getL l' 4, getL l' 5, .slice A0p p0.length c0p, .int .i64 (p0.length : Int), .slice A1p p1.length c1p, .int .i64 (p1.length : Int), .bool ((p0.length : Int) != (p1.length : Int)), .slice A0p p0.length c0p, .int .i64 (p0.length : Int), getL l' 13, getL l' 14, getL l' 15, getL l' 16, getL l' 17, getL l' 18, getL l' 19, getL l' 20, getL l' 21, getL l' 22, getL l' 23, getL l' 24, getL l' 25] ∧ Hp sb s F0 s' []) ?_ ?_
    · intro K8 hK8
      refine HT_block ?_
      refine HT_loopK (fun kf l' s' => ∃ (x52 : Int), (slices_Equal_int_int.l1 p0 p1 kf x52).bind G8 = some r ∧ l' = [.slice A0p p0.length c0p, .slice A1p p1.length c1p, undef, undef, getL l' 4, getL l' 5, .slice A0p p0.length c0p, .int .i64 (p0.length : Int), .slice A1p p1.length c1p, .int .i64 (p1.length : Int), .bool ((p0.length : Int) != (p1.length : Int)), .slice A0p p0.length c0p, .int .i64 (p0.length : Int), .int .i64 x52, getL l' 14, getL l' 15, getL l' 16, getL l' 17, getL l' 18, getL l' 19, getL l' 20, getL l' 21, getL l' 22, getL l' 23, getL l' 24, getL l' 25] ∧ Hp sb s F0 s' []) ((((p0.length : Int)) - (0)).toNat + 2) ⟨0, H, rfl, hH⟩ ?_
      rintro kf l' s64 ⟨x52, H, hl, hH⟩ K64 hK64
      generalize getL l' 4 = j4, getL l' 5 = j5, getL l' 14 = j14, getL l' 15 = j15, getL l' 16 = j16, getL l' 17 = j17, getL l' 18 = j18, getL l' 19 = j19, getL l' 20 = j20, getL l' 21 = j21, getL l' 22 = j22, getL l' 23 = j23, getL l' 24 = j24, getL l' 25 = j25 at hl
      subst hl
      cases kf with
      | zero => simp [slices_Equal_int_int.l1] at H
      | succ kf =>
        rw [slices_Equal_int_int.l1] at H
        refine HT_seq_k ?_
        intro K65 hK65
        refine HT_region ?_
        refine HL_cons rfl ?_
        refine o_bin rfl rfl rfl ?_
        try dsimp only [putL, setL, evL, getL]
        refine HL_nil ?_
        refine hK65 _ _ ?_
        refine HT_seq_k ?_
        intro K66 hK66
        rcases Bool.eq_false_or_eq_true (decide (x52 < (p0.length : Int))) with hb67 | hb67
        · replace H := iteT hb67 H
          refine HT_true (congrArg Value.bool hb67) ?_
          refine HT_skip ?_
          refine hK66 _ _ ?_
          refine HT_seq_k ?_
          intro K68 hK68
          refine HT_block ?_
          refine HT_seq_k ?_
          intro K69 hK69
          refine HT_region ?_
          refine HL_cons rfl ?_
          refine o_move ?_
          try dsimp only [putL, setL, evL, getL]
          refine HL_cons rfl ?_
          refine o_assign ?_
          try dsimp only [putL, setL, evL, getL]
          refine HL_nil ?_
          refine hK69 _ _ ?_
          refine HT_seq_k ?_
          intro K70 hK70
          refine HX_draw hMix ?_
          refine HX_lim (R := fun _ => True) (k := 0) (fun s' => Gro s64 s') 10 ?_
          have hR := Gro.refl s64
          have hH0 := hH
          refine HK_readP 0 (v := .slice A0p p0.length c0p) rfl (by kernel_rfl) (fun c l s h => hQp c l s h) rfl (fun s' K hK => ?_) rfl rfl (fun _ => hR) ?_
          · refine o_move ?_
            exact hK
          try dsimp only [putL, setL, evL, getL]
          refine HK_readP 1 (v := .int .i64 x52) rfl (by kernel_rfl) (fun c l s h => hQp c l s h) rfl (fun s' K hK => ?_) rfl rfl (fun _ => hR) ?_
          · refine o_move ?_
            exact hK
          try dsimp only [putL, setL, evL, getL]
          replace H := headE H
          obtain ⟨u71, hu71, H⟩ := H
          obtain ⟨b71, o71, cs71, hr71, hh71, hel71⟩ := Rd.elb HRp0 hu71
          obtain rfl := hr71
          refine HK_readP 2 (v := .pointer (some ⟨b71, o71, none⟩)) rfl (by kernel_rfl) (fun c l s h => hQp c l s h) rfl (fun s' K hK => ?_) rfl rfl (fun _ => hR) ?_
          · refine hel71 s' rfl rfl Try.underlying24 tI3 ?_
            exact hK
          try dsimp only [putL, setL, evL, getL]
          refine HK_read 3 (v := .int .i64 u71) rfl (by kernel_rfl) (fun c l s h => hQp c l s h) rfl (fun s' hR' K hK => ?_) rfl rfl hR ?_
          · refine o_load' rfl Try.underlying3 rfl ((hh71 (hH0.bs.mono.trans hR'.mono)) 0 _ rfl) ?_
            exact hK
          try dsimp only [putL, setL, evL, getL]
          refine HK_readP 4 (v := .slice A1p p1.length c1p) rfl (by kernel_rfl) (fun c l s h => hQp c l s h) rfl (fun s' K hK => ?_) rfl rfl (fun _ => hR) ?_
          · refine o_move ?_
            exact hK
          try dsimp only [putL, setL, evL, getL]
          refine HK_readP 5 (v := .int .i64 x52) rfl (by kernel_rfl) (fun c l s h => hQp c l s h) rfl (fun s' K hK => ?_) rfl rfl (fun _ => hR) ?_
          · refine o_move ?_
            exact hK
          try dsimp only [putL, setL, evL, getL]
          replace H := headE H
          obtain ⟨u72, hu72, H⟩ := H
          obtain ⟨b72, o72, cs72, hr72, hh72, hel72⟩ := Rd.elb HRp1 hu72
          obtain rfl := hr72
          refine HK_readP 6 (v := .pointer (some ⟨b72, o72, none⟩)) rfl (by kernel_rfl) (fun c l s h => hQp c l s h) rfl (fun s' K hK => ?_) rfl rfl (fun _ => hR) ?_
          · refine hel72 s' rfl rfl Try.underlying24 tI3 ?_
            exact hK
          try dsimp only [putL, setL, evL, getL]
          refine HK_read 7 (v := .int .i64 u72) rfl (by kernel_rfl) (fun c l s h => hQp c l s h) rfl (fun s' hR' K hK => ?_) rfl rfl hR ?_
          · refine o_load' rfl Try.underlying3 rfl ((hh72 (hH0.bs.mono.trans hR'.mono)) 0 _ rfl) ?_
            exact hK
          try dsimp only [putL, setL, evL, getL]
          refine HK_readP 8 (v := .bool (u71 != u72)) rfl (by kernel_rfl) (fun c l s h => hQp c l s h) rfl (fun s' K hK => ?_) rfl rfl (fun _ => hR) ?_
          · refine o_bin rfl rfl rfl ?_
            exact hK
          try dsimp only [putL, setL, evL, getL]
          refine HK_done (fun _ => hR) (by kernel_rfl) ?_
          refine hK70 _ _ ?_
          rcases Bool.eq_false_or_eq_true (u71 != u72) with hb73 | hb73
          · replace H := iteT hb73 H
            refine HT_true (congrArg Value.bool hb73) ?_
            refine HT_seq_k ?_
            intro K74 hK74
            refine HT_region ?_
            refine HL_cons rfl ?_
            refine o_assign ?_
            try dsimp only [putL, setL, evL, getL]
            refine HL_nil ?_
            refine hK74 _ _ ?_
            refine HT_ret ?_
            replace H := escH (fun z hz => hG8 _ hz) H
            exact hQr _ _ [.bool false] ⟨rfl, trivial⟩ (retH (fun r => slices_Equal_int_int.post sb s F0 r _ _) (show some _ = some r from H) ⟨rfl, hH⟩)
          · replace H := iteF hb73 H
            refine HT_false (congrArg Value.bool hb73) ?_
            refine HT_skip ?_
            refine hK68 _ _ ?_
            refine HT_region ?_
            refine HL_cons rfl ?_
            refine o_bin rfl rfl rfl ?_
            try dsimp only [putL, setL, evL, getL]
            refine HL_cons rfl ?_
            refine o_move ?_
            try dsimp only [putL, setL, evL, getL]
            refine HL_nil ?_
            exact hK64 _ _ ⟨kf, Nat.lt_succ_self kf, IntKind.i64.wrap (x52 + 1), H, rfl, hH⟩
        · replace H := iteF hb67 H
          refine HT_false (congrArg Value.bool hb67) ?_
          refine HT_exit ?_
          exact hK8 _ _ ⟨H, rfl, hH⟩
    · rintro l' s75 ⟨H, hl, hH⟩
      generalize getL l' 4 = j4, getL l' 5 = j5, getL l' 13 = j13, getL l' 14 = j14, getL l' 15 = j15, getL l' 16 = j16, getL l' 17 = j17, getL l' 18 = j18, getL l' 19 = j19, getL l' 20 = j20, getL l' 21 = j21, getL l' 22 = j22, getL l' 23 = j23, getL l' 24 = j24, getL l' 25 = j25 at hl
      subst hl
      replace H := hG8 _ H
      try dsimp only at H
      refine hK6 _ _ ?_
      refine HT_seq_k ?_
      intro K76 hK76
      refine HT_region ?_
      refine HL_cons rfl ?_
      refine o_assign ?_
      try dsimp only [putL, setL, evL, getL]
      refine HL_nil ?_
      refine hK76 _ _ ?_
      refine HT_ret ?_
      exact hQr _ _ [.bool true] ⟨rfl, trivial⟩ (retH (fun r => slices_Equal_int_int.post sb s F0 r _ _) (show some _ = some r from H) ⟨rfl, hH⟩)
def impl_ApplyDiff.l1 (p1 : List ((Int) × (List (Int)))) : Nat → (List (Int)) → (List (Int)) → Int → Option (Lo ((List (Int)) × (List (Int))) ((List (Int)) × Bool))
  | 0, _, _, _ => none
  | kf + 1, x592, x593, x594 => if (decide (x594 < (p1.length : Int))) = true then (((rd? p1 x594).bind fun u808 => (if (u808.1 != 3) = true then ((if (decide ((x593.length : Int) < (u808.2.length : Int))) = true then (some true) else ((cut? x593 0 (u808.2.length : Int)).bind fun x862 => (slices_Equal_int_int.f x862 u808.2).bind fun u863 => some (!u863))).bind fun (o : Bool) => match o with | x860 => (if x860 = true then ((((some ([], false)).bind fun z => some (Lo.ret z)).bind fun z => some (Lo.ret z)).bind fun z => some (Lo.ret z)) else ((cut? x593 (u808.2.length : Int) (x593.length : Int)).bind fun x867 => some (Lo.go x867)))) else (some (Lo.go x593))).bind fun (o : Lo (List (Int)) (Lo ((List (Int)) × (List (Int))) (Lo ((List (Int)) × (List (Int))) ((List (Int)) × Bool)))) => match o with | .go x840 => (if (u808.1 != 2) = true then ((app? 17592186044416 x592 u808.2).bind fun x871 => some (Lo.go (x871, x840))) else (some (Lo.go (x592, x840)))) | .ret z => some z).bind fun (o : Lo ((List (Int)) × (List (Int))) (Lo ((List (Int)) × (List (Int))) ((List (Int)) × Bool))) => match o with | .go (x805, x806) => (impl_ApplyDiff.l1 p1 kf x805 x806 (IntKind.i64.wrap (x594 + 1))) | .ret z => some z) else (some (Lo.go (x592, x593)))
def impl_ApplyDiff.f (p0 : List (Int)) (p1 : List ((Int) × (List (Int)))) : Option ((List (Int)) × Bool) := ((impl_areShort.f [p0]).bind fun u24 => if (!u24) = true then (some true) else ((impl_areEdits.f p1).bind fun u26 => some (!u26))).bind fun (o : Bool) => match o with | x22 => (if x22 = true then (some ([], false)) else ((impl_ApplyDiff.l1 p1 ((((p1.length : Int)) - (0)).toNat + 2) ([] : List (Int)) p0 0).bind fun (o : Lo ((List (Int)) × (List (Int))) ((List (Int)) × Bool)) => match o with | .go (x453, x454) => ((if (decide ((x454.length : Int) > 0)) = true then (some true) else (some (decide ((x453.length : Int) > 60)))).bind fun (o : Bool) => match o with | x885 => (if x885 = true then (some ([], false)) else (some (x453, true)))) | .ret z => some z))
def impl_ApplyDiff.post (sb s : St) (F0 : Fp) (r : (List (Int)) × Bool) : Value → St → Prop := fun v s' => ∃ (A0 : Option Addr) (c0 : Nat), v = .tuple #[.slice A0 r.1.length c0, .bool r.2] ∧ Hp sb s F0 s' [Ck.ol OI 3 A0 c0 r.1]
set_option maxRecDepth 100000 in
set_option maxHeartbeats 4000000 in
theorem impl_ApplyDiff.ok (sb s : St) (F0 : Fp) (A0p : Option Addr) (c0p : Nat) (p0 : List (Int)) (A1p : Option Addr) (c1p : Nat) (p1 : List ((Int) × (List (Int)))) (HRp0 : Rd KI sb A0p c0p p0) (HRp1 : Rd KS170 sb A1p c1p p1) (hH : Hp sb s F0 s []) (r : (List (Int)) × Bool) (H : impl_ApplyDiff.f p0 p1 = some r) : GCall Try.prog 72 #[.slice A0p p0.length c0p, .slice A1p p1.length c1p] s (impl_ApplyDiff.post sb s F0 r) := by
  refine GCall_ofk [.tmp 4, .tmp 5] [.slice A0p p0.length c0p, .slice A1p p1.length c1p, undef, undef, undef, undef, undef, undef, undef, undef, undef, undef, undef, undef, undef, undef, undef, undef, undef, undef, undef, undef, undef, undef, undef, undef, undef, undef, undef, undef, undef, undef, undef, undef, undef, undef, undef, undef, undef, undef, undef, undef, undef, undef, undef, undef, undef, undef, undef, undef, undef, undef, undef, undef, undef, undef, undef, undef, undef, undef, undef, undef, undef, undef, undef, undef, undef, undef, undef] Try.func72 rfl rfl rfl ?_
  intro w Q hQr hQn hQp
  replace H := topE H
  unfold impl_ApplyDiff.f at H
  refine HT_seq_k ?_
  intro K1 hK1
  refine HT_region ?_
  refine HL_cons rfl ?_
  refine o_assign ?_
  try dsimp only [putL, setL, evL, getL]
  refine HL_cons rfl ?_
  refine o_assign ?_
  try dsimp only [putL, setL, evL, getL]
  refine HL_nil ?_
  refine hK1 _ _ ?_
  refine HT_seq_k ?_
  intro K16 hK16
  refine joinH H fun G17 hG17 H => ?_
  refine HT_joinK (fun l' s' => ∃ (x22 : Bool), G17 x22 = some r ∧ l' = [.slice A0p p0.length c0p, .slice A1p p1.length c1p, undef, undef, .slice none 0 0, .bool false, undef, undef, undef, undef, getL l' 10, getL l' 11, getL l' 12, getL l' 13, getL l' 14, getL l' 15, getL l' 16, getL l' 17, .bool x22, undef, undef, undef, undef, undef, undef, undef, undef, undef, undef, undef, undef, undef, undef, undef, undef, undef, undef, undef, undef, undef, undef, undef, undef, undef, undef, undef, undef, undef, undef, undef, undef, undef, undef, undef, undef, undef, undef, undef, undef, undef, undef, undef, undef, undef, undef, undef, undef, undef, undef] ∧ Hp sb s F0 s' []) ?_ ?_
  · intro K17 hK17
    refine HT_region ?_
    refine HL_cons rfl ?_
    refine o_move ?_
    try dsimp only [putL, setL, evL, getL]
    refine HL_cons rfl ?_
    refine o_litF (K := (Kd.sl KI)) (O := (Ow.lent (Kd.sl KI))) (ca := #[.slice A0p p0.length c0p]) [[.slice A0p p0.length c0p]] [p0] hH Try.underlying105 tI24 rfl (by decide) rfl rfl (by kernel_rfl) rfl ⟨rfl, Ent.own (Ent.lent ⟨_, _, rfl, HRp0⟩), trivial⟩ ?_
    intro A23 s23 hH' hG
    replace hH : Hp sb s F0 s23 [Ck.ol (Ow.lent (Kd.sl KI)) 24 A23 1 [p0]] := hH'
    clear hH' hG
    try dsimp only [putL, setL, evL, getL]
    replace H := headE H
    obtain ⟨u24, hu24, H⟩ := H
    refine HL_cons rfl ?_
    refine o_call (args := #[.slice A23 [p0].length 1]) Try.func99 rfl rfl rfl (impl_areShort.ok s23 s23 no A23 1 [p0] (hH.rd 0 rfl) (Hp.own (Bs.refl s23)) _ hu24) ?_
    rintro _ s24 ⟨rfl, hD⟩
    replace hH := hH.back0T hD
    clear hD
    dsimp only [addC, setC, rmC, selC, getC] at hH
    try dsimp only [putL, setL, evL, getL]
    refine HL_cons rfl ?_
    refine o_not rfl ?_
    try dsimp only [putL, setL, evL, getL]
    refine HL_cons rfl ?_
    refine o_move ?_
    try dsimp only [putL, setL, evL, getL]
    rcases Bool.eq_false_or_eq_true (!u24) with hb25 | hb25
    · replace H := iteT hb25 H
      refine HL_skip ?_ ?_
      · exact wantF (j := 4) (b := false) (t := 14) (c := !u24) rfl rfl rfl rfl hb25
      try dsimp only [putL, setL, evL, getL]
      refine HL_skip ?_ ?_
      · exact wantF (j := 4) (b := false) (t := 14) (c := !u24) rfl rfl rfl rfl hb25
      try dsimp only [putL, setL, evL, getL]
      refine HL_skip ?_ ?_
      · exact wantF (j := 4) (b := false) (t := 14) (c := !u24) rfl rfl rfl rfl hb25
      try dsimp only [putL, setL, evL, getL]
      refine HL_cons rfl ?_
      refine o_pickT rfl hb25 ?_
      try dsimp only [putL, setL, evL, getL]
      refine HL_nil ?_
      exact hK17 _ _ ⟨true, H, rfl, hH.sel [] (by decide)⟩
    · replace H := iteF hb25 H
      refine HL_want ?_ ?_
      · exact wantT (j := 4) (b := false) (t := 14) (c := !u24) rfl rfl rfl rfl hb25
      refine o_move ?_
      try dsimp only [putL, setL, evL, getL]
      replace H := headE H
      obtain ⟨u26, hu26, H⟩ := H
      refine HL_want ?_ ?_
      · exact wantT (j := 4) (b := false) (t := 14) (c := !u24) rfl rfl rfl rfl hb25
      refine o_call (args := #[.slice A1p p1.length c1p]) Try.func161 rfl rfl rfl (impl_areEdits.ok sb s24 no A1p c1p p1 HRp1 (Hp.own hH.bs) _ hu26) ?_
      rintro _ s26 ⟨rfl, hD⟩
      replace hH := hH.back0 hD (Up.refl _ _ _)
      clear hD
      dsimp only [addC, setC, rmC, selC, getC] at hH
      try dsimp only [putL, setL, evL, getL]
      refine HL_want ?_ ?_
      · exact wantT (j := 4) (b := false) (t := 14) (c := !u24) rfl rfl rfl rfl hb25
      refine o_not rfl ?_
      try dsimp only [putL, setL, evL, getL]
      refine HL_cons rfl ?_
      refine o_pickF rfl hb25 ?_
      try dsimp only [putL, setL, evL, getL]
      refine HL_nil ?_
      exact hK17 _ _ ⟨!u26, H, rfl, hH.sel [] (by decide)⟩
  · rintro l' s27 ⟨x22, H, hl, hH⟩
    generalize getL l' 10 = j10, getL l' 11 = j11, getL l' 12 = j12, getL l' 13 = j13, getL l' 14 = j14, getL l' 15 = j15, getL l' 16 = j16, getL l' 17 = j17 at hl
    subst hl
    replace H := hG17 _ H
    try dsimp only at H
    rcases Bool.eq_false_or_eq_true x22 with hb28 | hb28
    · replace H := iteT hb28 H
      refine HT_true (congrArg Value.bool hb28) ?_
      refine HT_seq_k ?_
      intro K29 hK29
      refine HT_region ?_
      refine HL_cons rfl ?_
      refine o_assign ?_
      try dsimp only [putL, setL, evL, getL]
      refine HL_cons rfl ?_
      refine o_assign ?_
      try dsimp only [putL, setL, evL, getL]
      refine HL_nil ?_
      refine hK29 _ _ ?_
      refine HT_ret ?_
      exact hQr _ _ [.slice none 0 0, .bool false] ⟨rfl, rfl, trivial⟩ (retH (fun r => impl_ApplyDiff.post sb s F0 r _ _) (show some _ = some r from H) ⟨none, 0, rfl, (hH.nil (K := KI) OI 3)⟩)
    · replace H := iteF hb28 H
      refine HT_false (congrArg Value.bool hb28) ?_
      refine HT_skip ?_
      refine hK16 _ _ ?_
      refine HT_seq_k ?_
      intro K30 hK30
      refine HT_region ?_
      refine HL_cons rfl ?_
      refine o_lit0H (α := Int) (K := KI) (O := OI) hH Try.underlying24 tI3 ?_
      intro A31 s31 hH' hG
      replace hH : Hp sb s F0 s31 [Ck.ol OI 3 A31 0 ([] : List (Int))] := hH'
      clear hH' hG
      try dsimp only [putL, setL, evL, getL]
      refine HL_cons rfl ?_
      refine o_move ?_
      try dsimp only [putL, setL, evL, getL]
      refine HL_cons rfl ?_
      refine o_assign ?_
      try dsimp only [putL, setL, evL, getL]
      refine HL_cons rfl ?_
      refine o_assign ?_
      try dsimp only [putL, setL, evL, getL]
      refine HL_nil ?_
      refine hK30 _ _ ?_
      refine HT_seq_k ?_
      intro K32 hK32
      refine HT_seq_k ?_
      intro K33 hK33
      refine HT_region ?_
      refine HL_cons rfl ?_
      refine o_move ?_
      try dsimp only [putL, setL, evL, getL]
      refine HL_cons rfl ?_
      refine o_len rfl Try.underlying85 ?_
      try dsimp only [putL, setL, evL, getL]
      refine HL_cons rfl ?_
      refine o_move ?_
      try dsimp only [putL, setL, evL, getL]
      refine HL_nil ?_
      refine hK33 _ _ ?_
      refine joinH H fun G34 hG34 H => ?_
      refine HT_toK (fun l' s' => ∃ (x453 : List (Int)) (A453 : Option Addr) (c453 : Nat) (x454 : List (Int)) (A454 : Option Addr) (c454 : Nat), G34 (.go (x453, x454)) = some r ∧ l' = [.slice A0p p0.length c0p, .slice A1p p1.length c1p, undef, undef, getL l' 4, getL l' 5, .slice A453 x453.length c453, .slice A454 x454.length c454, undef, getL l' 9, j10, j11, j12, j13, j14, j15, j16, j17, .bool x22, .slice A31 ([] : List (Int)).length 0, .slice A0p p0.length c0p, .slice A1p p1.length c1p, .int .i64 (p1.length : Int), getL l' 23, getL l' 24, getL l' 25, getL l' 26, getL l' 27, getL l' 28, getL l' 29, getL l' 30, getL l' 31, getL l' 32, getL l' 33, getL l' 34, getL l' 35, getL l' 36, getL l' 37, getL l' 38, getL l' 39, getL l' 40, getL l' 41, getL l' 42, getL l' 43, getL l' 44, getL l' 45, getL l' 46, getL l' 47, getL l' 48, getL l' 49, getL l' 50, getL l' 51, getL l' 52, getL l' 53, getL l' 54, getL l' 55, getL l' 56, getL l' 57, getL l' 58, getL l' 59, undef, undef, undef, undef, undef, undef, undef, undef, undef] ∧ Hp sb s F0 s' [Ck.ol OI 3 A453 c453 x453] ∧ Rd KI sb A454 c454 x454) ?_ ?_
      · intro K34 hK34
        refine HT_block ?_
        refine HT_loopK (fun kf l' s' => ∃ (x592 : List (Int)) (A592 : Option Addr) (c592 : Nat) (x593 : List (Int)) (A593 : Option Addr) (c593 : Nat) (x594 : Int), (impl_ApplyDiff.l1 p1 kf x592 x593 x594).bind G34 = some r ∧ l' = [.slice A0p p0.length c0p, .slice A1p p1.length c1p, undef, undef, getL l' 4, getL l' 5, .slice A592 x592.length c592, .slice A593 x593.length c593, undef, getL l' 9, j10, j11, j12, j13, j14, j15, j16, j17, .bool x22, .slice A31 ([] : List (Int)).length 0, .slice A0p p0.length c0p, .slice A1p p1.length c1p, .int .i64 (p1.length : Int), .int .i64 x594, getL l' 24, getL l' 25, getL l' 26, getL l' 27, getL l' 28, getL l' 29, getL l' 30, getL l' 31, getL l' 32, getL l' 33, getL l' 34, getL l' 35, getL l' 36, getL l' 37, getL l' 38, getL l' 39, getL l' 40, getL l' 41, getL l' 42, getL l' 43, getL l' 44, getL l' 45, getL l' 46, getL l' 47, getL l' 48, getL l' 49, getL l' 50, getL l' 51, getL l' 52, getL l' 53, getL l' 54, getL l' 55, getL l' 56, getL l' 57, getL l' 58, getL l' 59, undef, undef, undef, undef, undef, undef, undef, undef, undef] ∧ Hp sb s F0 s' [Ck.ol OI 3 A592 c592 x592] ∧ Rd KI sb A593 c593 x593) ((((p1.length : Int)) - (0)).toNat + 2) ⟨([] : List (Int)), A31, 0, p0, A0p, c0p, 0, H, rfl, hH, HRp0⟩ ?_
        rintro kf l' s735 ⟨x592, A592, c592, x593, A593, c593, x594, H, hl, hH, D593⟩ K735 hK735
        generalize getL l' 4 = j4, getL l' 5 = j5, getL l' 9 = j9, getL l' 24 = j24, getL l' 25 = j25, getL l' 26 = j26, getL l' 27 = j27, getL l' 28 = j28, getL l' 29 = j29, getL l' 30 = j30, getL l' 31 = j31, getL l' 32 = j32, getL l' 33 = j33, getL l' 34 = j34, getL l' 35 = j35, getL l' 36 = j36, getL l' 37 = j37, getL l' 38 = j38, getL l' 39 = j39, getL l' 40 = j40, getL l' 41 = j41, getL l' 42 = j42, getL l' 43 = j43, getL l' 44 = j44, getL l' 45 = j45, getL l' 46 = j46, getL l' 47 = j47, getL l' 48 = j48, getL l' 49 = j49, getL l' 50 = j50, getL l' 51 = j51, getL l' 52 = j52, getL l' 53 = j53, getL l' 54 = j54, getL l' 55 = j55, getL l' 56 = j56, getL l' 57 = j57, getL l' 58 = j58, getL l' 59 = j59 at hl
        subst hl
        cases kf with
        | zero => simp [impl_ApplyDiff.l1] at H
        | succ kf =>
          rw [impl_ApplyDiff.l1] at H
          refine HT_seq_k ?_
          intro K736 hK736
          refine HT_region ?_
          refine HL_cons rfl ?_
          refine o_bin rfl rfl rfl ?_
          try dsimp only [putL, setL, evL, getL]
          refine HL_nil ?_
          refine hK736 _ _ ?_
          refine HT_seq_k ?_
          intro K737 hK737
          rcases Bool.eq_false_or_eq_true (decide (x594 < (p1.length : Int))) with hb738 | hb738
          · replace H := iteT hb738 H
            refine HT_true (congrArg Value.bool hb738) ?_
            refine HT_skip ?_
            refine hK737 _ _ ?_
            refine joinH H fun G739 hG739 H => ?_
            refine HT_joinK (fun l' s' => ∃ (x805 : List (Int)) (A805 : Option Addr) (c805 : Nat) (x806 : List (Int)) (A806 : Option Addr) (c806 : Nat), G739 (.go (x805, x806)) = some r ∧ l' = [.slice A0p p0.length c0p, .slice A1p p1.length c1p, undef, undef, getL l' 4, getL l' 5, .slice A805 x805.length c805, .slice A806 x806.length c806, undef, getL l' 9, j10, j11, j12, j13, j14, j15, j16, j17, .bool x22, .slice A31 ([] : List (Int)).length 0, .slice A0p p0.length c0p, .slice A1p p1.length c1p, .int .i64 (p1.length : Int), .int .i64 x594, .bool (decide (x594 < (p1.length : Int))), getL l' 25, getL l' 26, getL l' 27, getL l' 28, getL l' 29, getL l' 30, getL l' 31, getL l' 32, getL l' 33, getL l' 34, getL l' 35, getL l' 36, getL l' 37, getL l' 38, getL l' 39, getL l' 40, getL l' 41, getL l' 42, getL l' 43, getL l' 44, getL l' 45, getL l' 46, getL l' 47, getL l' 48, getL l' 49, getL l' 50, getL l' 51, getL l' 52, getL l' 53, getL l' 54, getL l' 55, getL l' 56, getL l' 57, getL l' 58, j59, undef, undef, undef, undef, undef, undef, undef, undef, undef] ∧ Hp sb s F0 s' [Ck.ol OI 3 A805 c805 x805] ∧ Rd KI sb A806 c806 x806) ?_ ?_
            · intro K739 hK739
              refine HT_block ?_
              refine HT_seq_k ?_
              intro K807 hK807
              refine HT_region ?_
              replace H := headE H
              obtain ⟨u808, hu808, H⟩ := H
              obtain ⟨b808, o808, cs808, hr808, hh808, hel808⟩ := Rd.elb HRp1 hu808
              obtain ⟨_, _, rfl, rfl, ⟨A809, c809, rfl, D809⟩⟩ := hr808
              refine HL_cons rfl ?_
              refine hel808 s735 rfl rfl Try.underlying85 tI170 ?_
              try dsimp only [putL, setL, evL, getL]
              refine HL_cons rfl ?_
              refine o_loads' [.int .i64 u808.1, .slice A809 u808.2.length c809] rfl Try.underlying170 rfl tI170 rfl (fun j v hj => (hh808 hH.bs.mono) j v hj) ?_
              try dsimp only [putL, setL, evL, getL]
              refine HL_cons rfl ?_
              refine o_allocH hH tI170 ?_
              intro b810 s810 hH' hG
              replace hH : Hp sb s F0 s810 [Ck.ol OI 3 A592 c592 x592, Ck.ov b810 [.int .i64 0, .slice none 0 0] 170] := hH'
              clear hH' hG
              try dsimp only [putL, setL, evL, getL]
              refine HL_cons rfl ?_
              refine o_stvH (vs := [.int .i64 u808.1, .slice A809 u808.2.length c809]) (us' := [.int .i64 u808.1, .slice A809 u808.2.length c809]) hH 1 rfl rfl rfl rfl rfl tI170 rfl (List.cons_ne_nil _ _) rfl rfl rfl ?_
              intro s811 hH'
              replace hH : Hp sb s F0 s811 [Ck.ol OI 3 A592 c592 x592, Ck.ov b810 [.int .i64 u808.1, .slice A809 u808.2.length c809] 170] := hH'
              clear hH'
              try dsimp only [putL, setL, evL, getL]
              refine HL_nil ?_
              refine hK807 _ _ ?_
              refine joinH H fun G812 hG812 H => ?_
              refine HT_joinK (fun l' s' => ∃ (x840 : List (Int)) (A840 : Option Addr) (c840 : Nat), G812 (.go x840) = some r ∧ l' = [.slice A0p p0.length c0p, .slice A1p p1.length c1p, undef, undef, getL l' 4, getL l' 5, .slice A592 x592.length c592, .slice A840 x840.length c840, undef, .pointer (some ⟨b810, 0, none⟩), j10, j11, j12, j13, j14, j15, j16, j17, .bool x22, .slice A31 ([] : List (Int)).length 0, .slice A0p p0.length c0p, .slice A1p p1.length c1p, .int .i64 (p1.length : Int), .int .i64 x594, .bool (decide (x594 < (p1.length : Int))), .pointer (some ⟨b808, o808, none⟩), .agg #[.int .i64 u808.1, .slice A809 u808.2.length c809], getL l' 27, getL l' 28, getL l' 29, getL l' 30, getL l' 31, getL l' 32, getL l' 33, getL l' 34, getL l' 35, getL l' 36, getL l' 37, getL l' 38, getL l' 39, getL l' 40, getL l' 41, getL l' 42, getL l' 43, getL l' 44, getL l' 45, getL l' 46, getL l' 47, getL l' 48, getL l' 49, getL l' 50, getL l' 51, j52, j53, j54, j55, j56, j57, j58, j59, undef, undef, undef, undef, undef, undef, undef, undef, undef] ∧ Hp sb s F0 s' [Ck.ol OI 3 A592 c592 x592, Ck.ov b810 [.int .i64 u808.1, .slice A809 u808.2.length c809] 170] ∧ Rd KI sb A840 c840 x840) ?_ ?_
              · intro K812 hK812
                refine HT_seq_k ?_
                intro K841 hK841
                refine HT_region ?_
                refine HL_cons rfl ?_
                refine o_faddr' (ft := 3) (off := 0) rfl Try.underlying170 rfl tI3 (by decide) ?_
                try dsimp only [putL, setL, evL, getL]
                refine HL_cons rfl ?_
                refine o_load' rfl Try.underlying3 rfl (hH.hasv 1 rfl rfl) ?_
                try dsimp only [putL, setL, evL, getL]
                refine HL_cons rfl ?_
                refine o_bin rfl rfl rfl ?_
                try dsimp only [putL, setL, evL, getL]
                refine HL_nil ?_
                refine hK841 _ _ ?_
                rcases Bool.eq_false_or_eq_true (u808.1 != 3) with hb842 | hb842
                · replace H := iteT hb842 H
                  refine HT_true (congrArg Value.bool hb842) ?_
                  refine HT_seq_k ?_
                  intro K855 hK855
                  refine joinH H fun G856 hG856 H => ?_
                  refine HT_joinK (fun l' s' => ∃ (x860 : Bool), G856 x860 = some r ∧ l' = [.slice A0p p0.length c0p, .slice A1p p1.length c1p, undef, undef, j4, j5, .slice A592 x592.length c592, .slice A593 x593.length c593, undef, .pointer (some ⟨b810, 0, none⟩), j10, j11, j12, j13, j14, j15, j16, j17, .bool x22, .slice A31 ([] : List (Int)).length 0, .slice A0p p0.length c0p, .slice A1p p1.length c1p, .int .i64 (p1.length : Int), .int .i64 x594, .bool (decide (x594 < (p1.length : Int))), .pointer (some ⟨b808, o808, none⟩), .agg #[.int .i64 u808.1, .slice A809 u808.2.length c809], .pointer (some ⟨b810, 0 + 0, none⟩), .int .i64 u808.1, .bool (u808.1 != 3), getL l' 30, getL l' 31, getL l' 32, getL l' 33, getL l' 34, getL l' 35, getL l' 36, getL l' 37, getL l' 38, getL l' 39, getL l' 40, getL l' 41, getL l' 42, getL l' 43, getL l' 44, getL l' 45, .bool x860, j47, j48, j49, j50, j51, j52, j53, j54, j55, j56, j57, j58, j59, undef, undef, undef, undef, undef, undef, undef, undef, undef] ∧ Hp sb s F0 s' [Ck.ol OI 3 A592 c592 x592, Ck.ov b810 [.int .i64 u808.1, .slice A809 u808.2.length c809] 170]) ?_ ?_
                  · intro K856 hK856
                    refine HX_draw hMix ?_
                    refine HX_lim (R := fun _ => True) (k := 0) (fun s' => Gro s811 s') 18 ?_
                    have hR := Gro.refl s811
                    have hH0 := hH
                    refine HK_readP 0 (v := .slice A593 x593.length c593) rfl (by kernel_rfl) (fun c l s h => hQp c l s h) rfl (fun s' K hK => ?_) rfl rfl (fun _ => hR) ?_
                    · refine o_move ?_
                      exact hK
                    try dsimp only [putL, setL, evL, getL]
                    refine HK_readP 1 (v := .int .i64 (x593.length : Int)) rfl (by kernel_rfl) (fun c l s h => hQp c l s h) rfl (fun s' K hK => ?_) rfl rfl (fun _ => hR) ?_
                    · refine o_len rfl Try.underlying24 ?_
                      exact hK
                    try dsimp only [putL, setL, evL, getL]
                    refine HK_readP 2 (v := .pointer (some ⟨b810, 0 + 1, none⟩)) rfl (by kernel_rfl) (fun c l s h => hQp c l s h) rfl (fun s' K hK => ?_) rfl rfl (fun _ => hR) ?_
                    · refine o_faddr' (ft := 24) (off := 1) rfl Try.underlying170 rfl tI24 (by decide) ?_
                      exact hK
                    try dsimp only [putL, setL, evL, getL]
                    refine HK_read 3 (v := .slice A809 u808.2.length c809) rfl (by kernel_rfl) (fun c l s h => hQp c l s h) rfl (fun s' hR' K hK => ?_) rfl rfl hR ?_
                    · refine o_load' rfl Try.underlying24 rfl (has_gro hR' (hH0.hasv 1 rfl rfl)) ?_
                      exact hK
                    try dsimp only [putL, setL, evL, getL]
                    refine HK_readP 4 (v := .int .i64 (u808.2.length : Int)) rfl (by kernel_rfl) (fun c l s h => hQp c l s h) rfl (fun s' K hK => ?_) rfl rfl (fun _ => hR) ?_
                    · refine o_len rfl Try.underlying24 ?_
                      exact hK
                    try dsimp only [putL, setL, evL, getL]
                    refine HK_readP 5 (v := .bool (decide ((x593.length : Int) < (u808.2.length : Int)))) rfl (by kernel_rfl) (fun c l s h => hQp c l s h) rfl (fun s' K hK => ?_) rfl rfl (fun _ => hR) ?_
                    · refine o_bin rfl rfl rfl ?_
                      exact hK
                    try dsimp only [putL, setL, evL, getL]
                    refine HK_readP 6 (v := .bool (decide ((x593.length : Int) < (u808.2.length : Int)))) rfl (by kernel_rfl) (fun c l s h => hQp c l s h) rfl (fun s' K hK => ?_) rfl rfl (fun _ => hR) ?_
                    · refine o_move ?_
                      exact hK
                    try dsimp only [putL, setL, evL, getL]
                    rcases Bool.eq_false_or_eq_true (decide ((x593.length : Int) < (u808.2.length : Int))) with hb861 | hb861
                    · replace H := iteT hb861 H
                      refine HK_passP 7 rfl (by kernel_rfl) (fun c l s h => hQp c l s h) ?_ (fun _ => hR) ?_
                      · exact wantF (j := 6) (b := false) (t := 36) (c := decide ((x593.length : Int) < (u808.2.length : Int))) rfl rfl rfl rfl hb861
                      try dsimp only [putL, setL, evL, getL]
                      refine HK_passP 8 rfl (by kernel_rfl) (fun c l s h => hQp c l s h) ?_ (fun _ => hR) ?_
                      · exact wantF (j := 6) (b := false) (t := 36) (c := decide ((x593.length : Int) < (u808.2.length : Int))) rfl rfl rfl rfl hb861
                      try dsimp only [putL, setL, evL, getL]
                      refine HK_passP 9 rfl (by kernel_rfl) (fun c l s h => hQp c l s h) ?_ (fun _ => hR) ?_
                      · exact wantF (j := 6) (b := false) (t := 36) (c := decide ((x593.length : Int) < (u808.2.length : Int))) rfl rfl rfl rfl hb861
                      try dsimp only [putL, setL, evL, getL]
                      refine HK_passP 10 rfl (by kernel_rfl) (fun c l s h => hQp c l s h) ?_ (fun _ => hR) ?_
                      · exact wantF (j := 6) (b := false) (t := 36) (c := decide ((x593.length : Int) < (u808.2.length : Int))) rfl rfl rfl rfl hb861
                      try dsimp only [putL, setL, evL, getL]
                      refine HK_passP 11 rfl (by kernel_rfl) (fun c l s h => hQp c l s h) ?_ (fun _ => hR) ?_
                      · exact wantF (j := 6) (b := false) (t := 36) (c := decide ((x593.length : Int) < (u808.2.length : Int))) rfl rfl rfl rfl hb861
                      try dsimp only [putL, setL, evL, getL]
                      refine HK_passP 12 rfl (by kernel_rfl) (fun c l s h => hQp c l s h) ?_ (fun _ => hR) ?_
                      · exact wantF (j := 6) (b := false) (t := 36) (c := decide ((x593.length : Int) < (u808.2.length : Int))) rfl rfl rfl rfl hb861
                      try dsimp only [putL, setL, evL, getL]
                      refine HK_passP 13 rfl (by kernel_rfl) (fun c l s h => hQp c l s h) ?_ (fun _ => hR) ?_
                      · exact wantF (j := 6) (b := false) (t := 36) (c := decide ((x593.length : Int) < (u808.2.length : Int))) rfl rfl rfl rfl hb861
                      try dsimp only [putL, setL, evL, getL]
                      refine HK_passP 14 rfl (by kernel_rfl) (fun c l s h => hQp c l s h) ?_ (fun _ => hR) ?_
                      · exact wantF (j := 6) (b := false) (t := 36) (c := decide ((x593.length : Int) < (u808.2.length : Int))) rfl rfl rfl rfl hb861
                      try dsimp only [putL, setL, evL, getL]
                      refine HK_passP 15 rfl (by kernel_rfl) (fun c l s h => hQp c l s h) ?_ (fun _ => hR) ?_
                      · exact wantF (j := 6) (b := false) (t := 36) (c := decide ((x593.length : Int) < (u808.2.length : Int))) rfl rfl rfl rfl hb861
                      try dsimp only [putL, setL, evL, getL]
                      refine HK_readP 16 (v := .bool true) rfl (by kernel_rfl) (fun c l s h => hQp c l s h) rfl (fun s' K hK => ?_) rfl rfl (fun _ => hR) ?_
                      · refine o_pickT rfl hb861 ?_
                        exact hK
                      try dsimp only [putL, setL, evL, getL]
                      refine HK_done (fun _ => hR) (by kernel_rfl) ?_
                      exact hK856 _ _ ⟨true, H, rfl, hH⟩
                    · replace H := iteF hb861 H
                      refine HK_readP 7 (v := .slice A593 x593.length c593) rfl (by kernel_rfl) (fun c l s h => hQp c l s h) (wantT (j := 6) (b := false) (t := 36) (c := decide ((x593.length : Int) < (u808.2.length : Int))) rfl rfl rfl rfl hb861) (fun s' K hK => ?_) rfl rfl (fun _ => hR) ?_
                      · refine o_move ?_
                        exact hK
                      try dsimp only [putL, setL, evL, getL]
                      refine HK_readP 8 (v := .pointer (some ⟨b810, 0 + 1, none⟩)) rfl (by kernel_rfl) (fun c l s h => hQp c l s h) (wantT (j := 6) (b := false) (t := 36) (c := decide ((x593.length : Int) < (u808.2.length : Int))) rfl rfl rfl rfl hb861) (fun s' K hK => ?_) rfl rfl (fun _ => hR) ?_
                      · refine o_faddr' (ft := 24) (off := 1) rfl Try.underlying170 rfl tI24 (by decide) ?_
                        exact hK
                      try dsimp only [putL, setL, evL, getL]
                      refine HK_read 9 (v := .slice A809 u808.2.length c809) rfl (by kernel_rfl) (fun c l s h => hQp c l s h) (wantT (j := 6) (b := false) (t := 36) (c := decide ((x593.length : Int) < (u808.2.length : Int))) rfl rfl rfl rfl hb861) (fun s' hR' K hK => ?_) rfl rfl hR ?_
                      · refine o_load' rfl Try.underlying24 rfl (has_gro hR' (hH0.hasv 1 rfl rfl)) ?_
                        exact hK
                      try dsimp only [putL, setL, evL, getL]
                      refine HK_readP 10 (v := .int .i64 (u808.2.length : Int)) rfl (by kernel_rfl) (fun c l s h => hQp c l s h) (wantT (j := 6) (b := false) (t := 36) (c := decide ((x593.length : Int) < (u808.2.length : Int))) rfl rfl rfl rfl hb861) (fun s' K hK => ?_) rfl rfl (fun _ => hR) ?_
                      · refine o_len rfl Try.underlying24 ?_
                        exact hK
                      try dsimp only [putL, setL, evL, getL]
                      replace H := headE H
                      obtain ⟨x862, hx862, H⟩ := H
                      refine HK_readP 11 (v := .slice (cutA A593 c593 (Int.toNat 0) (Kd.sz KI)) x862.length (c593 - Int.toNat 0)) rfl (by kernel_rfl) (fun c l s h => hQp c l s h) (wantT (j := 6) (b := false) (t := 36) (c := decide ((x593.length : Int) < (u808.2.length : Int))) rfl rfl rfl rfl hb861) (fun s' K hK => ?_) rfl rfl (fun _ => hR) ?_
                      · refine o_cutA (xs := x593) (kl := .i64) (kh := .i64) (L := 0) (H := (u808.2.length : Int)) rfl rfl rfl Try.underlying24 tI3 D593.1 hx862 ?_
                        exact hK
                      have D862 := D593.cut hx862
                      try dsimp only [putL, setL, evL, getL]
                      refine HK_readP 12 (v := .pointer (some ⟨b810, 0 + 1, none⟩)) rfl (by kernel_rfl) (fun c l s h => hQp c l s h) (wantT (j := 6) (b := false) (t := 36) (c := decide ((x593.length : Int) < (u808.2.length : Int))) rfl rfl rfl rfl hb861) (fun s' K hK => ?_) rfl rfl (fun _ => hR) ?_
                      · refine o_faddr' (ft := 24) (off := 1) rfl Try.underlying170 rfl tI24 (by decide) ?_
                        exact hK
                      try dsimp only [putL, setL, evL, getL]
                      refine HK_read 13 (v := .slice A809 u808.2.length c809) rfl (by kernel_rfl) (fun c l s h => hQp c l s h) (wantT (j := 6) (b := false) (t := 36) (c := decide ((x593.length : Int) < (u808.2.length : Int))) rfl rfl rfl rfl hb861) (fun s' hR' K hK => ?_) rfl rfl hR ?_
                      · refine o_load' rfl Try.underlying24 rfl (has_gro hR' (hH0.hasv 1 rfl rfl)) ?_
                        exact hK
                      try dsimp only [putL, setL, evL, getL]
                      refine HK_more [14] (by kernel_rfl) rfl (fun _ => hR) ⟨⟨_, rfl, Or.inl ⟨(wantT (j := 6) (b := false) (t := 36) (c := decide ((x593.length : Int) < (u808.2.length : Int))) rfl rfl rfl rfl hb861), ?_⟩⟩, trivial⟩
                      replace H := headE H
                      obtain ⟨u863, hu863, H⟩ := H
                      skip
                      refine o_call (args := #[.slice (cutA A593 c593 (Int.toNat 0) (Kd.sz KI)) x862.length (c593 - Int.toNat 0), .slice A809 u808.2.length c809]) Try.func162 rfl rfl rfl (slices_Equal_int_int.ok sb s811 no (cutA A593 c593 (Int.toNat 0) (Kd.sz KI)) (c593 - Int.toNat 0) x862 A809 c809 u808.2 D862 D809 (Hp.own hH.bs) _ hu863) ?_
                      rintro _ s863 ⟨rfl, hD⟩
                      replace hR := hR.trans hD.gro
                      replace hH := hH.back0 hD (Up.refl _ _ _)
                      clear hD
                      dsimp only [addC, setC, rmC, selC, getC] at hH
                      try dsimp only [putL, setL, evL, getL]
                      refine HK_readP 15 (v := .bool (!u863)) rfl (by kernel_rfl) (fun c l s h => hQp c l s h) (wantT (j := 6) (b := false) (t := 36) (c := decide ((x593.length : Int) < (u808.2.length : Int))) rfl rfl rfl rfl hb861) (fun s' K hK => ?_) rfl rfl (fun _ => hR) ?_
                      · refine o_not rfl ?_
                        exact hK
                      try dsimp only [putL, setL, evL, getL]
                      refine HK_readP 16 (v := .bool (!u863)) rfl (by kernel_rfl) (fun c l s h => hQp c l s h) rfl (fun s' K hK => ?_) rfl rfl (fun _ => hR) ?_
                      · refine o_pickF rfl hb861 ?_
                        exact hK
                      try dsimp only [putL, setL, evL, getL]
                      refine HK_done (fun _ => hR) (by kernel_rfl) ?_
                      exact hK856 _ _ ⟨!u863, H, rfl, hH⟩
                  · rintro l' s864 ⟨x860, H, hl, hH⟩
                    generalize getL l' 30 = j30, getL l' 31 = j31, getL l' 32 = j32, getL l' 33 = j33, getL l' 34 = j34, getL l' 35 = j35, getL l' 36 = j36, getL l' 37 = j37, getL l' 38 = j38, getL l' 39 = j39, getL l' 40 = j40, getL l' 41 = j41, getL l' 42 = j42, getL l' 43 = j43, getL l' 44 = j44, getL l' 45 = j45 at hl
                    subst hl
                    replace H := hG856 _ H
                    try dsimp only at H
                    rcases Bool.eq_false_or_eq_true x860 with hb865 | hb865
                    · replace H := iteT hb865 H
                      refine HT_true (congrArg Value.bool hb865) ?_
                      refine HT_seq_k ?_
                      intro K866 hK866
                      refine HT_region ?_
                      refine HL_cons rfl ?_
                      refine o_assign ?_
                      try dsimp only [putL, setL, evL, getL]
                      refine HL_cons rfl ?_
                      refine o_assign ?_
                      try dsimp only [putL, setL, evL, getL]
                      refine HL_nil ?_
                      refine hK866 _ _ ?_
                      refine HT_ret ?_
                      replace H := escH (fun z hz => hG812 _ hz) H
                      replace H := escH (fun z hz => hG739 _ hz) H
                      replace H := escH (fun z hz => hG34 _ hz) H
                      exact hQr _ _ [.slice none 0 0, .bool false] ⟨rfl, rfl, trivial⟩ (retH (fun r => impl_ApplyDiff.post sb s F0 r _ _) (show some _ = some r from H) ⟨none, 0, rfl, (hH.nil (K := KI) OI 3).sel [2] (by decide)⟩)
                    · replace H := iteF hb865 H
                      refine HT_false (congrArg Value.bool hb865) ?_
                      refine HT_skip ?_
                      refine hK855 _ _ ?_
                      refine HT_region ?_
                      refine HL_cons rfl ?_
                      refine o_move ?_
                      try dsimp only [putL, setL, evL, getL]
                      refine HL_cons rfl ?_
                      refine o_faddr' (ft := 24) (off := 1) rfl Try.underlying170 rfl tI24 (by decide) ?_
                      try dsimp only [putL, setL, evL, getL]
                      refine HL_cons rfl ?_
                      refine o_load' rfl Try.underlying24 rfl (hH.hasv 1 rfl rfl) ?_
                      try dsimp only [putL, setL, evL, getL]
                      refine HL_cons rfl ?_
                      refine o_len rfl Try.underlying24 ?_
                      try dsimp only [putL, setL, evL, getL]
                      replace H := headE H
                      obtain ⟨x867, hx867, H⟩ := H
                      refine HL_cons rfl ?_
                      refine o_cutA (xs := x593) (kl := .i64) (kh := .i64) (L := (u808.2.length : Int)) (H := (x593.length : Int)) rfl rfl rfl Try.underlying24 tI3 D593.1 hx867 ?_
                      have D867 := D593.cut hx867
                      try dsimp only [putL, setL, evL, getL]
                      refine HL_cons rfl ?_
                      refine o_assign ?_
                      try dsimp only [putL, setL, evL, getL]
                      refine HL_nil ?_
                      exact hK812 _ _ ⟨x867, (cutA A593 c593 (Int.toNat (u808.2.length : Int)) (Kd.sz KI)), c593 - Int.toNat (u808.2.length : Int), H, rfl, hH, D867⟩
                · replace H := iteF hb842 H
                  refine HT_false (congrArg Value.bool hb842) ?_
                  refine HT_skip ?_
                  exact hK812 _ _ ⟨x593, A593, c593, H, rfl, hH, D593⟩
              · rintro l' s868 ⟨x840, A840, c840, H, hl, hH, D840⟩
                generalize getL l' 4 = j4, getL l' 5 = j5, getL l' 27 = j27, getL l' 28 = j28, getL l' 29 = j29, getL l' 30 = j30, getL l' 31 = j31, getL l' 32 = j32, getL l' 33 = j33, getL l' 34 = j34, getL l' 35 = j35, getL l' 36 = j36, getL l' 37 = j37, getL l' 38 = j38, getL l' 39 = j39, getL l' 40 = j40, getL l' 41 = j41, getL l' 42 = j42, getL l' 43 = j43, getL l' 44 = j44, getL l' 45 = j45, getL l' 46 = j46, getL l' 47 = j47, getL l' 48 = j48, getL l' 49 = j49, getL l' 50 = j50, getL l' 51 = j51 at hl
                subst hl
                replace H := hG812 _ H
                try dsimp only at H
                refine HT_seq_k ?_
                intro K869 hK869
                refine HT_region ?_
                refine HL_cons rfl ?_
                refine o_faddr' (ft := 3) (off := 0) rfl Try.underlying170 rfl tI3 (by decide) ?_
                try dsimp only [putL, setL, evL, getL]
                refine HL_cons rfl ?_
                refine o_load' rfl Try.underlying3 rfl (hH.hasv 1 rfl rfl) ?_
                try dsimp only [putL, setL, evL, getL]
                refine HL_cons rfl ?_
                refine o_bin rfl rfl rfl ?_
                try dsimp only [putL, setL, evL, getL]
                refine HL_nil ?_
                refine hK869 _ _ ?_
                rcases Bool.eq_false_or_eq_true (u808.1 != 2) with hb870 | hb870
                · replace H := iteT hb870 H
                  refine HT_true (congrArg Value.bool hb870) ?_
                  refine HT_region ?_
                  refine HL_cons rfl ?_
                  refine o_move ?_
                  try dsimp only [putL, setL, evL, getL]
                  refine HL_cons rfl ?_
                  refine o_faddr' (ft := 24) (off := 1) rfl Try.underlying170 rfl tI24 (by decide) ?_
                  try dsimp only [putL, setL, evL, getL]
                  refine HL_cons rfl ?_
                  refine o_load' rfl Try.underlying24 rfl (hH.hasv 1 rfl rfl) ?_
                  try dsimp only [putL, setL, evL, getL]
                  replace H := headE H
                  obtain ⟨x871, hx871, H⟩ := H
                  refine HL_cons rfl ?_
                  refine o_appF (K := KI) (n := 17592186044416) (A := A592) (c := c592) (xs := x592) (ys := u808.2) (B := A809) (c2 := c809) hH 0 rfl rfl rfl rfl Try.underlying24 tI3 rfl (by decide) (by decide) (by decide) (Src.flat (D809.mono hH.bs.mono)) hx871 ?_
                  intro A871 c871 s871 hH'
                  replace hH : Hp sb s F0 s871 [Ck.ol OI 3 A871 c871 x871, Ck.ov b810 [.int .i64 u808.1, .slice A809 u808.2.length c809] 170] := hH'
                  clear hH'
                  try dsimp only [putL, setL, evL, getL]
                  refine HL_cons rfl ?_
                  refine o_assign ?_
                  try dsimp only [putL, setL, evL, getL]
                  refine HL_nil ?_
                  exact hK739 _ _ ⟨x871, A871, c871, x840, A840, c840, H, rfl, hH.sel [0] (by decide), D840⟩
                · replace H := iteF hb870 H
                  refine HT_false (congrArg Value.bool hb870) ?_
                  refine HT_skip ?_
                  exact hK739 _ _ ⟨x592, A592, c592, x840, A840, c840, H, rfl, hH.sel [0] (by decide), D840⟩
            · rintro l' s872 ⟨x805, A805, c805, x806, A806, c806, H, hl, hH, D806⟩
              generalize getL l' 4 = j4, getL l' 5 = j5, getL l' 9 = j9, getL l' 25 = j25, getL l' 26 = j26, getL l' 27 = j27, getL l' 28 = j28, getL l' 29 = j29, getL l' 30 = j30, getL l' 31 = j31, getL l' 32 = j32, getL l' 33 = j33, getL l' 34 = j34, getL l' 35 = j35, getL l' 36 = j36, getL l' 37 = j37, getL l' 38 = j38, getL l' 39 = j39, getL l' 40 = j40, getL l' 41 = j41, getL l' 42 = j42, getL l' 43 = j43, getL l' 44 = j44, getL l' 45 = j45, getL l' 46 = j46, getL l' 47 = j47, getL l' 48 = j48, getL l' 49 = j49, getL l' 50 = j50, getL l' 51 = j51, getL l' 52 = j52, getL l' 53 = j53, getL l' 54 = j54, getL l' 55 = j55, getL l' 56 = j56, getL l' 57 = j57, getL l' 58 = j58 at hl
              subst hl
              replace H := hG739 _ H
              try dsimp only at H
              refine HT_region ?_
              refine HL_cons rfl ?_
              refine o_bin rfl rfl rfl ?_
              try dsimp only [putL, setL, evL, getL]
              refine HL_cons rfl ?_
              refine o_move ?_
              try dsimp only [putL, setL, evL, getL]
              refine HL_nil ?_
              exact hK735 _ _ ⟨kf, Nat.lt_succ_self kf, x805, A805, c805, x806, A806, c806, IntKind.i64.wrap (x594 + 1), H, rfl, hH, D806⟩
          · replace H := iteF hb738 H
            refine HT_false (congrArg Value.bool hb738) ?_
            refine HT_exit ?_
            exact hK34 _ _ ⟨x592, A592, c592, x593, A593, c593, H, rfl, hH, D593⟩
      · rintro l' s873 ⟨x453, A453, c453, x454, A454, c454, H, hl, hH, D454⟩
        generalize getL l' 4 = j4, getL l' 5 = j5, getL l' 9 = j9, getL l' 23 = j23, getL l' 24 = j24, getL l' 25 = j25, getL l' 26 = j26, getL l' 27 = j27, getL l' 28 = j28, getL l' 29 = j29, getL l' 30 = j30, getL l' 31 = j31, getL l' 32 = j32, getL l' 33 = j33, getL l' 34 = j34, getL l' 35 = j35, getL l' 36 = j36, getL l' 37 = j37, getL l' 38 = j38, getL l' 39 = j39, getL l' 40 = j40, getL l' 41 = j41, getL l' 42 = j42, getL l' 43 = j43, getL l' 44 = j44, getL l' 45 = j45, getL l' 46 = j46, getL l' 47 = j47, getL l' 48 = j48, getL l' 49 = j49, getL l' 50 = j50, getL l' 51 = j51, getL l' 52 = j52, getL l' 53 = j53, getL l' 54 = j54, getL l' 55 = j55, getL l' 56 = j56, getL l' 57 = j57, getL l' 58 = j58, getL l' 59 = j59 at hl
        subst hl
        replace H := hG34 _ H
        try dsimp only at H
        refine hK32 _ _ ?_
        refine HT_seq_k ?_
        intro K882 hK882
        refine joinH H fun G883 hG883 H => ?_
        refine HT_joinK (fun l' s' => ∃ (x885 : Bool), G883 x885 = some r ∧ l' = [.slice A0p p0.length c0p, .slice A1p p1.length c1p, undef, undef, j4, j5, .slice A453 x453.length c453, .slice A454 x454.length c454, undef, j9, j10, j11, j12, j13, j14, j15, j16, j17, .bool x22, .slice A31 ([] : List (Int)).length 0, .slice A0p p0.length c0p, .slice A1p p1.length c1p, .int .i64 (p1.length : Int), j23, j24, j25, j26, j27, j28, j29, j30, j31, j32, j33, j34, j35, j36, j37, j38, j39, j40, j41, j42, j43, j44, j45, j46, j47, j48, j49, j50, j51, j52, j53, j54, j55, j56, j57, j58, j59, getL l' 60, getL l' 61, getL l' 62, getL l' 63, getL l' 64, getL l' 65, getL l' 66, .bool x885, undef] ∧ Hp sb s F0 s' [Ck.ol OI 3 A453 c453 x453]) ?_ ?_
        · intro K883 hK883
          refine HT_region ?_
          refine HL_cons rfl ?_
          refine o_move ?_
          try dsimp only [putL, setL, evL, getL]
          refine HL_cons rfl ?_
          refine o_len rfl Try.underlying24 ?_
          try dsimp only [putL, setL, evL, getL]
          refine HL_cons rfl ?_
          refine o_bin rfl rfl rfl ?_
          try dsimp only [putL, setL, evL, getL]
          refine HL_cons rfl ?_
          refine o_move ?_
          try dsimp only [putL, setL, evL, getL]
          rcases Bool.eq_false_or_eq_true (decide ((x454.length : Int) > 0)) with hb886 | hb886
          · replace H := iteT hb886 H
            refine HL_skip ?_ ?_
            · exact wantF (j := 3) (b := false) (t := 63) (c := decide ((x454.length : Int) > 0)) rfl rfl rfl rfl hb886
            try dsimp only [putL, setL, evL, getL]
            refine HL_skip ?_ ?_
            · exact wantF (j := 3) (b := false) (t := 63) (c := decide ((x454.length : Int) > 0)) rfl rfl rfl rfl hb886
            try dsimp only [putL, setL, evL, getL]
            refine HL_skip ?_ ?_
            · exact wantF (j := 3) (b := false) (t := 63) (c := decide ((x454.length : Int) > 0)) rfl rfl rfl rfl hb886
            try dsimp only [putL, setL, evL, getL]
            refine HL_cons rfl ?_
            refine o_pickT rfl hb886 ?_
            try dsimp only [putL, setL, evL, getL]
            refine HL_nil ?_
            exact hK883 _ _ ⟨true, H, rfl, hH⟩
          · replace H := iteF hb886 H
            refine HL_want ?_ ?_
            · exact wantT (j := 3) (b := false) (t := 63) (c := decide ((x454.length : Int) > 0)) rfl rfl rfl rfl hb886
            refine o_move ?_
            try dsimp only [putL, setL, evL, getL]
            refine HL_want ?_ ?_
            · exact wantT (j := 3) (b := false) (t := 63) (c := decide ((x454.length : Int) > 0)) rfl rfl rfl rfl hb886
            refine o_len rfl Try.underlying24 ?_
            try dsimp only [putL, setL, evL, getL]
            refine HL_want ?_ ?_
            · exact wantT (j := 3) (b := false) (t := 63) (c := decide ((x454.length : Int) > 0)) rfl rfl rfl rfl hb886
            refine o_bin rfl rfl rfl ?_
            try dsimp only [putL, setL, evL, getL]
            refine HL_cons rfl ?_
            refine o_pickF rfl hb886 ?_
            try dsimp only [putL, setL, evL, getL]
            refine HL_nil ?_
            exact hK883 _ _ ⟨decide ((x453.length : Int) > 60), H, rfl, hH⟩
        · rintro l' s887 ⟨x885, H, hl, hH⟩
          generalize getL l' 60 = j60, getL l' 61 = j61, getL l' 62 = j62, getL l' 63 = j63, getL l' 64 = j64, getL l' 65 = j65, getL l' 66 = j66 at hl
          subst hl
          replace H := hG883 _ H
          try dsimp only at H
          rcases Bool.eq_false_or_eq_true x885 with hb888 | hb888
          · replace H := iteT hb888 H
            refine HT_true (congrArg Value.bool hb888) ?_
            refine HT_seq_k ?_
            intro K889 hK889
            refine HT_region ?_
            refine HL_cons rfl ?_
            refine o_assign ?_
            try dsimp only [putL, setL, evL, getL]
            refine HL_cons rfl ?_
            refine o_assign ?_
            try dsimp only [putL, setL, evL, getL]
            refine HL_nil ?_
            refine hK889 _ _ ?_
            refine HT_ret ?_
            exact hQr _ _ [.slice none 0 0, .bool false] ⟨rfl, rfl, trivial⟩ (retH (fun r => impl_ApplyDiff.post sb s F0 r _ _) (show some _ = some r from H) ⟨none, 0, rfl, (hH.nil (K := KI) OI 3).sel [1] (by decide)⟩)
          · replace H := iteF hb888 H
            refine HT_false (congrArg Value.bool hb888) ?_
            refine HT_skip ?_
            refine hK882 _ _ ?_
            refine HT_seq_k ?_
            intro K890 hK890
            refine HT_region ?_
            refine HL_cons rfl ?_
            refine o_move ?_
            try dsimp only [putL, setL, evL, getL]
            refine HL_cons rfl ?_
            refine o_assign ?_
            try dsimp only [putL, setL, evL, getL]
            refine HL_cons rfl ?_
            refine o_assign ?_
            try dsimp only [putL, setL, evL, getL]
            refine HL_nil ?_
            refine hK890 _ _ ?_
            refine HT_ret ?_
            exact hQr _ _ [.slice A453 x453.length c453, .bool true] ⟨rfl, rfl, trivial⟩ (retH (fun r => impl_ApplyDiff.post sb s F0 r _ _) (show some _ = some r from H) ⟨A453, c453, rfl, hH⟩)
def slices_Clone_int_int.f (p0 : List (Int)) : Option (List (Int)) := app? 17592186044416 [] p0
def slices_Clone_int_int.post (sb s : St) (F0 : Fp) (r : List (Int)) : Value → St → Prop := fun v s' => ∃ (A0 : Option Addr) (c0 : Nat), v = .slice A0 r.length c0 ∧ Hp sb s F0 s' [Ck.ol OI 3 A0 c0 r]
set_option maxRecDepth 100000 in
set_option maxHeartbeats 4000000 in
theorem slices_Clone_int_int.ok (sb s : St) (F0 : Fp) (A0p : Option Addr) (c0p : Nat) (p0 : List (Int)) (HRp0 : Rd KI sb A0p c0p p0) (hH : Hp sb s F0 s []) (r : List (Int)) (H : slices_Clone_int_int.f p0 = some r) : GCall Try.prog 141 #[.slice A0p p0.length c0p] s (slices_Clone_int_int.post sb s F0 r) := by
  refine GCall_ofk [.tmp 2] [.slice A0p p0.length c0p, undef, undef, undef, undef, undef, undef, undef] Try.func141 rfl rfl rfl ?_
  intro w Q hQr hQn hQp
  unfold slices_Clone_int_int.f at H
  refine HT_seq_k ?_
  intro K1 hK1
  refine HT_region ?_
  refine HL_cons rfl ?_
  refine o_assign ?_
  refine HL_nil ?_
  refine hK1 _ _ ?_
  refine HT_seq_k ?_
  intro K2 hK2
  refine HT_seq_k ?_
  intro K3 hK3
  refine HT_region ?_
  refine HL_cons rfl ?_
  refine o_move ?_
  dsimp only [putL, setL, evL, getL]
  refine HL_cons rfl ?_
  refine o_eqN rfl rfl Try.underlying24 ?_
  dsimp only [putL, setL, evL, getL]
  refine HL_nil ?_
  refine hK3 _ _ ?_
  cases A0p with
  | none =>
    have hp : p0 = [] := by
      by_cases h : p0 = []
      · exact h
      · obtain ⟨b, o, hA, _⟩ := HRp0.2.2 h
        cases hA
    subst hp
    obtain ⟨_, rfl⟩ := app?_some H
    refine HT_true rfl ?_
    refine HT_seq_k ?_
    intro K4 hK4
    refine HT_region ?_
    refine HL_cons rfl ?_
    refine o_assign ?_
    dsimp only [putL, setL, evL, getL]
    refine HL_nil ?_
    refine hK4 _ _ ?_
    refine HT_ret ?_
    exact hQr _ _ [.slice none 0 0] ⟨rfl, trivial⟩ ⟨none, 0, rfl, hH.nil (K := KI) OI 3⟩
  | some a =>
    refine HT_false rfl ?_
    refine HT_skip ?_
    refine hK2 _ _ ?_
    refine HT_seq_k ?_
    intro K4 hK4
    refine HT_region ?_
    refine HL_cons rfl ?_
    refine o_lit0H (α := Int) (K := KI) (O := OI) hH Try.underlying24 tI3 ?_
    intro A1 s1 hH hG
    dsimp only [putL, setL, evL, getL]
    refine HL_cons rfl ?_
    refine o_move ?_
    dsimp only [putL, setL, evL, getL]
    refine HL_cons rfl ?_
    refine o_appF (n := 17592186044416) (A := A1) (c := 0) (xs := ([] : List (Int))) (ys := p0) (B := some a) (c2 := c0p) hH 0 rfl rfl rfl rfl Try.underlying24 tI3 rfl (by decide) (by decide) (by decide) (Src.flat (HRp0.mono hH.bs.mono)) H ?_
    intro A2 c2 s2 hH
    dsimp only [putL, setL, evL, getL]
    refine HL_cons rfl ?_
    refine o_assign ?_
    dsimp only [putL, setL, evL, getL]
    refine HL_nil ?_
    refine hK4 _ _ ?_
    refine HT_ret ?_
    exact hQr _ _ [.slice A2 r.length c2] ⟨rfl, trivial⟩ ⟨A2, c2, rfl, hH⟩
def impl_TurnDiff.l1 (p0 : List ((Int) × (List (Int)))) : Nat → (List ((Int) × (List (Int)))) → Int → Option (List ((Int) × (List (Int))))
  | 0, _, _ => none
  | kf + 1, x222, x223 => if (decide (x223 < (p0.length : Int))) = true then ((rd? p0 x223).bind fun u307 => (if (u307.1 == 2) = true then (some 3) else (if (u307.1 == 3) = true then (some 2) else (some u307.1))).bind fun (o : Int) => match o with | x318 => ((slices_Clone_int_int.f u307.2).bind fun u325 => (app? 4398046511104 x222 [(x318, u325)]).bind fun x328 => impl_TurnDiff.l1 p0 kf x328 (IntKind.i64.wrap (x223 + 1)))) else (some x222)
def impl_TurnDiff.f (p0 : List ((Int) × (List (Int)))) : Option ((List ((Int) × (List (Int)))) × Bool) := (impl_areEdits.f p0).bind fun u4 => if (!u4) = true then (some ([], false)) else ((impl_TurnDiff.l1 p0 ((((p0.length : Int)) - (0)).toNat + 2) ([] : List ((Int) × (List (Int)))) 0).bind fun (o : (List ((Int) × (List (Int))))) => match o with | x170 => (some (x170, true)))
def impl_TurnDiff.post (sb s : St) (F0 : Fp) (r : (List ((Int) × (List (Int)))) × Bool) : Value → St → Prop := fun v s' => ∃ (A0 : Option Addr) (c0 : Nat), v = .tuple #[.slice A0 r.1.length c0, .bool r.2] ∧ Hp sb s F0 s' [Ck.ol OS170 170 A0 c0 r.1]
set_option maxRecDepth 100000 in
set_option maxHeartbeats 4000000 in
theorem impl_TurnDiff.ok (sb s : St) (F0 : Fp) (A0p : Option Addr) (c0p : Nat) (p0 : List ((Int) × (List (Int)))) (HRp0 : Rd KS170 sb A0p c0p p0) (hH : Hp sb s F0 s []) (r : (List ((Int) × (List (Int)))) × Bool) (H : impl_TurnDiff.f p0 = some r) : GCall Try.prog 73 #[.slice A0p p0.length c0p] s (impl_TurnDiff.post sb s F0 r) := by
  refine GCall_ofk [.tmp 2, .tmp 3] [.slice A0p p0.length c0p, undef, undef, undef, undef, undef, undef, undef, undef, undef, undef, undef, undef, undef, undef, undef, undef, undef, undef, undef, undef, undef, undef, undef, undef, undef, undef, undef, undef, undef, undef, undef, undef, undef, undef, undef] Try.func73 rfl rfl rfl ?_
  intro w Q hQr hQn hQp
  replace H := topE H
  unfold impl_TurnDiff.f at H
  refine HT_seq_k ?_
  intro K1 hK1
  refine HT_region ?_
  refine HL_cons rfl ?_
  refine o_assign ?_
  try dsimp only [putL, setL, evL, getL]
  refine HL_cons rfl ?_
  refine o_assign ?_
  try dsimp only [putL, setL, evL, getL]
  refine HL_nil ?_
  refine hK1 _ _ ?_
  refine HT_seq_k ?_
  intro K2 hK2
  refine HT_seq_k ?_
  intro K3 hK3
  refine HT_region ?_
  refine HL_cons rfl ?_
  refine o_move ?_
  try dsimp only [putL, setL, evL, getL]
  replace H := headE H
  obtain ⟨u4, hu4, H⟩ := H
  refine HL_cons rfl ?_
  refine o_call (args := #[.slice A0p p0.length c0p]) Try.func161 rfl rfl rfl (impl_areEdits.ok sb s no A0p c0p p0 HRp0 (Hp.own hH.bs) _ hu4) ?_
  rintro _ s4 ⟨rfl, hD⟩
  replace hH := hH.back0 hD (Up.refl _ _ _)
  clear hD
  dsimp only [addC, setC, rmC, selC, getC] at hH
  try dsimp only [putL, setL, evL, getL]
  refine HL_cons rfl ?_
  refine o_not rfl ?_
  try dsimp only [putL, setL, evL, getL]
  refine HL_nil ?_
  refine hK3 _ _ ?_
  rcases Bool.eq_false_or_eq_true (!u4) with hb5 | hb5
  · replace H := iteT hb5 H
    refine HT_true (congrArg Value.bool hb5) ?_
    refine HT_seq_k ?_
    intro K6 hK6
    refine HT_region ?_
    refine HL_cons rfl ?_
    refine o_assign ?_
    try dsimp only [putL, setL, evL, getL]
    refine HL_cons rfl ?_
    refine o_assign ?_
    try dsimp only [putL, setL, evL, getL]
    refine HL_nil ?_
    refine hK6 _ _ ?_
    refine HT_ret ?_
    exact hQr _ _ [.slice none 0 0, .bool false] ⟨rfl, rfl, trivial⟩ (retH (fun r => impl_TurnDiff.post sb s F0 r _ _) (show some _ = some r from H) ⟨none, 0, rfl, (hH.nil (K := KS170) OS170 170)⟩)
  · replace H := iteF hb5 H
    refine HT_false (congrArg Value.bool hb5) ?_
    refine HT_skip ?_
    refine hK2 _ _ ?_
    refine HT_seq_k ?_
    intro K7 hK7
    refine HT_region ?_
    refine HL_cons rfl ?_
    refine o_lit0H (α := (Int) × (List (Int))) (K := KS170) (O := OS170) hH Try.underlying85 tI170 ?_
    intro A8 s8 hH' hG
    replace hH : Hp sb s F0 s8 [Ck.ol OS170 170 A8 0 ([] : List ((Int) × (List (Int))))] := hH'
    clear hH' hG
    try dsimp only [putL, setL, evL, getL]
    refine HL_cons rfl ?_
    refine o_assign ?_
    try dsimp only [putL, setL, evL, getL]
    refine HL_nil ?_
    refine hK7 _ _ ?_
    refine HT_seq_k ?_
    intro K9 hK9
    refine HT_seq_k ?_
    intro K10 hK10
    refine HT_region ?_
    refine HL_cons rfl ?_
    refine o_move ?_
    try dsimp only [putL, setL, evL, getL]
    refine HL_cons rfl ?_
    refine o_len rfl Try.underlying85 ?_
    try dsimp only [putL, setL, evL, getL]
    refine HL_cons rfl ?_
    refine o_move ?_
    try dsimp only [putL, setL, evL, getL]
    refine HL_nil ?_
    refine hK10 _ _ ?_
    refine joinH H fun G11 hG11 H => ?_
    refine HT_toK (fun l' s' => ∃ (x170 : List ((Int) × (List (Int)))) (A170 : Option Addr) (c170 : Nat), G11 x170 = some r ∧ l' = [.slice A0p p0.length c0p, undef, .slice none 0 0, .bool false, .slice A170 x170.length c170, undef, getL l' 6, getL l' 7, .slice A0p p0.length c0p, .bool u4, .bool (!u4), .slice A8 ([] : List ((Int) × (List (Int)))).length 0, .slice A0p p0.length c0p, .int .i64 (p0.length : Int), getL l' 14, getL l' 15, getL l' 16, getL l' 17, getL l' 18, getL l' 19, getL l' 20, getL l' 21, getL l' 22, getL l' 23, getL l' 24, getL l' 25, getL l' 26, getL l' 27, getL l' 28, getL l' 29, getL l' 30, getL l' 31, getL l' 32, getL l' 33, getL l' 34, undef] ∧ Hp sb s F0 s' [Ck.ol OS170 170 A170 c170 x170]) ?_ ?_
    · intro K11 hK11
      refine HT_block ?_
      refine HT_loopK (fun kf l' s' => ∃ (x222 : List ((Int) × (List (Int)))) (A222 : Option Addr) (c222 : Nat) (x223 : Int), (impl_TurnDiff.l1 p0 kf x222 x223).bind G11 = some r ∧ l' = [.slice A0p p0.length c0p, undef, .slice none 0 0, .bool false, .slice A222 x222.length c222, undef, getL l' 6, getL l' 7, .slice A0p p0.length c0p, .bool u4, .bool (!u4), .slice A8 ([] : List ((Int) × (List (Int)))).length 0, .slice A0p p0.length c0p, .int .i64 (p0.length : Int), .int .i64 x223, getL l' 15, getL l' 16, getL l' 17, getL l' 18, getL l' 19, getL l' 20, getL l' 21, getL l' 22, getL l' 23, getL l' 24, getL l' 25, getL l' 26, getL l' 27, getL l' 28, getL l' 29, getL l' 30, getL l' 31, getL l' 32, getL l' 33, getL l' 34, undef] ∧ Hp sb s F0 s' [Ck.ol OS170 170 A222 c222 x222]) ((((p0.length : Int)) - (0)).toNat + 2) ⟨([] : List ((Int) × (List (Int)))), A8, 0, 0, H, rfl, hH⟩ ?_
      rintro kf l' s277 ⟨x222, A222, c222, x223, H, hl, hH⟩ K277 hK277
      generalize getL l' 6 = j6, getL l' 7 = j7, getL l' 15 = j15, getL l' 16 = j16, getL l' 17 = j17, getL l' 18 = j18, getL l' 19 = j19, getL l' 20 = j20, getL l' 21 = j21, getL l' 22 = j22, getL l' 23 = j23, getL l' 24 = j24, getL l' 25 = j25, getL l' 26 = j26, getL l' 27 = j27, getL l' 28 = j28, getL l' 29 = j29, getL l' 30 = j30, getL l' 31 = j31, getL l' 32 = j32, getL l' 33 = j33, getL l' 34 = j34 at hl
      subst hl
      cases kf with
      | zero => simp [impl_TurnDiff.l1] at H
      | succ kf =>
        rw [impl_TurnDiff.l1] at H
        refine HT_seq_k ?_
        intro K278 hK278
        refine HT_region ?_
        refine HL_cons rfl ?_
        refine o_bin rfl rfl rfl ?_
        try dsimp only [putL, setL, evL, getL]
        refine HL_nil ?_
        refine hK278 _ _ ?_
        refine HT_seq_k ?_
        intro K279 hK279
        rcases Bool.eq_false_or_eq_true (decide (x223 < (p0.length : Int))) with hb280 | hb280
        · replace H := iteT hb280 H
          refine HT_true (congrArg Value.bool hb280) ?_
          refine HT_skip ?_
          refine hK279 _ _ ?_
          refine HT_seq_k ?_
          intro K305 hK305
          refine HT_block ?_
          refine HT_seq_k ?_
          intro K306 hK306
          refine HT_region ?_
          replace H := headE H
          obtain ⟨u307, hu307, H⟩ := H
          obtain ⟨b307, o307, cs307, hr307, hh307, hel307⟩ := Rd.elb HRp0 hu307
          obtain ⟨_, _, rfl, rfl, ⟨A308, c308, rfl, D308⟩⟩ := hr307
          refine HL_cons rfl ?_
          refine hel307 s277 rfl rfl Try.underlying85 tI170 ?_
          try dsimp only [putL, setL, evL, getL]
          refine HL_cons rfl ?_
          refine o_loads' [.int .i64 u307.1, .slice A308 u307.2.length c308] rfl Try.underlying170 rfl tI170 rfl (fun j v hj => (hh307 hH.bs.mono) j v hj) ?_
          try dsimp only [putL, setL, evL, getL]
          refine HL_cons rfl ?_
          refine o_allocH hH tI170 ?_
          intro b309 s309 hH' hG
          replace hH : Hp sb s F0 s309 [Ck.ol OS170 170 A222 c222 x222, Ck.ov b309 [.int .i64 0, .slice none 0 0] 170] := hH'
          clear hH' hG
          try dsimp only [putL, setL, evL, getL]
          refine HL_cons rfl ?_
          refine o_stvH (vs := [.int .i64 u307.1, .slice A308 u307.2.length c308]) (us' := [.int .i64 u307.1, .slice A308 u307.2.length c308]) hH 1 rfl rfl rfl rfl rfl tI170 rfl (List.cons_ne_nil _ _) rfl rfl rfl ?_
          intro s310 hH'
          replace hH : Hp sb s F0 s310 [Ck.ol OS170 170 A222 c222 x222, Ck.ov b309 [.int .i64 u307.1, .slice A308 u307.2.length c308] 170] := hH'
          clear hH'
          try dsimp only [putL, setL, evL, getL]
          refine HL_nil ?_
          refine hK306 _ _ ?_
          refine HT_seq_k ?_
          intro K311 hK311
          refine HT_region ?_
          refine HL_cons rfl ?_
          refine o_faddr' (ft := 3) (off := 0) rfl Try.underlying170 rfl tI3 (by decide) ?_
          try dsimp only [putL, setL, evL, getL]
          refine HL_cons rfl ?_
          refine o_load' rfl Try.underlying3 rfl (hH.hasv 1 rfl rfl) ?_
          try dsimp only [putL, setL, evL, getL]
          refine HL_cons rfl ?_
          refine o_assign ?_
          try dsimp only [putL, setL, evL, getL]
          refine HL_nil ?_
          refine hK311 _ _ ?_
          refine joinH H fun G312 hG312 H => ?_
          refine HT_joinK (fun l' s' => ∃ (x318 : Int), G312 x318 = some r ∧ l' = [.slice A0p p0.length c0p, undef, .slice none 0 0, .bool false, .slice A222 x222.length c222, undef, .pointer (some ⟨b309, 0, none⟩), .int .i64 x318, .slice A0p p0.length c0p, .bool u4, .bool (!u4), .slice A8 ([] : List ((Int) × (List (Int)))).length 0, .slice A0p p0.length c0p, .int .i64 (p0.length : Int), .int .i64 x223, .bool (decide (x223 < (p0.length : Int))), .pointer (some ⟨b307, o307, none⟩), .agg #[.int .i64 u307.1, .slice A308 u307.2.length c308], .pointer (some ⟨b309, 0 + 0, none⟩), .int .i64 u307.1, getL l' 20, getL l' 21, getL l' 22, getL l' 23, getL l' 24, getL l' 25, j26, j27, j28, j29, j30, j31, j32, j33, j34, undef] ∧ Hp sb s F0 s' [Ck.ol OS170 170 A222 c222 x222, Ck.ov b309 [.int .i64 u307.1, .slice A308 u307.2.length c308] 170]) ?_ ?_
          · intro K312 hK312
            refine HT_seq_k ?_
            intro K319 hK319
            refine HT_region ?_
            refine HL_cons rfl ?_
            refine o_faddr' (ft := 3) (off := 0) rfl Try.underlying170 rfl tI3 (by decide) ?_
            try dsimp only [putL, setL, evL, getL]
            refine HL_cons rfl ?_
            refine o_load' rfl Try.underlying3 rfl (hH.hasv 1 rfl rfl) ?_
            try dsimp only [putL, setL, evL, getL]
            refine HL_nil ?_
            refine hK319 _ _ ?_
            refine HT_block ?_
            refine HT_seq_k ?_
            intro K320 hK320
            refine HT_region ?_
            refine HL_cons rfl ?_
            refine o_bin rfl rfl rfl ?_
            try dsimp only [putL, setL, evL, getL]
            refine HL_cons rfl ?_
            refine o_assign ?_
            try dsimp only [putL, setL, evL, getL]
            refine HL_nil ?_
            refine hK320 _ _ ?_
            rcases Bool.eq_false_or_eq_true (u307.1 == 2) with hb321 | hb321
            · replace H := iteT hb321 H
              refine HT_true (congrArg Value.bool hb321) ?_
              refine HT_region ?_
              refine HL_cons rfl ?_
              refine o_assign ?_
              try dsimp only [putL, setL, evL, getL]
              refine HL_nil ?_
              exact hK312 _ _ ⟨3, H, rfl, hH⟩
            · replace H := iteF hb321 H
              refine HT_false (congrArg Value.bool hb321) ?_
              refine HT_seq_k ?_
              intro K322 hK322
              refine HT_region ?_
              refine HL_cons rfl ?_
              refine o_bin rfl rfl rfl ?_
              try dsimp only [putL, setL, evL, getL]
              refine HL_cons rfl ?_
              refine o_assign ?_
              try dsimp only [putL, setL, evL, getL]
              refine HL_nil ?_
              refine hK322 _ _ ?_
              rcases Bool.eq_false_or_eq_true (u307.1 == 3) with hb323 | hb323
              · replace H := iteT hb323 H
                refine HT_true (congrArg Value.bool hb323) ?_
                refine HT_region ?_
                refine HL_cons rfl ?_
                refine o_assign ?_
                try dsimp only [putL, setL, evL, getL]
                refine HL_nil ?_
                exact hK312 _ _ ⟨2, H, rfl, hH⟩
              · replace H := iteF hb323 H
                refine HT_false (congrArg Value.bool hb323) ?_
                refine HT_skip ?_
                exact hK312 _ _ ⟨u307.1, H, rfl, hH⟩
          · rintro l' s324 ⟨x318, H, hl, hH⟩
            generalize getL l' 20 = j20, getL l' 21 = j21, getL l' 22 = j22, getL l' 23 = j23, getL l' 24 = j24, getL l' 25 = j25 at hl
            subst hl
            replace H := hG312 _ H
            try dsimp only at H
            refine HT_region ?_
            refine HL_cons rfl ?_
            refine o_move ?_
            try dsimp only [putL, setL, evL, getL]
            refine HL_cons rfl ?_
            refine o_move ?_
            try dsimp only [putL, setL, evL, getL]
            refine HL_cons rfl ?_
            refine o_faddr' (ft := 24) (off := 1) rfl Try.underlying170 rfl tI24 (by decide) ?_
            try dsimp only [putL, setL, evL, getL]
            refine HL_cons rfl ?_
            refine o_load' rfl Try.underlying24 rfl (hH.hasv 1 rfl rfl) ?_
            try dsimp only [putL, setL, evL, getL]
            replace H := headE H
            obtain ⟨u325, hu325, H⟩ := H
            refine HL_cons rfl ?_
            refine o_call (args := #[.slice A308 u307.2.length c308]) Try.func141 rfl rfl rfl (slices_Clone_int_int.ok sb s324 no A308 c308 u307.2 D308 (Hp.own hH.bs) _ hu325) ?_
            rintro _ s325 ⟨A326, c326, rfl, hD⟩
            replace hH := hH.back0 hD (Up.refl _ _ _)
            clear hD
            dsimp only [addC, setC, rmC, selC, getC] at hH
            try dsimp only [putL, setL, evL, getL]
            refine HL_cons rfl ?_
            refine o_build (pl := [(0, 1), (1, 1)]) (cs := #[.int .i64 x318, .slice A326 u325.length c326]) Try.underlying170 tI170 (by kernel_rfl) (by kernel_rfl) rfl ?_
            try dsimp only [putL, setL, evL, getL]
            replace hH := hH.conv [2] (by decide) (d := Ck.el OS170 [.int .i64 x318, .slice A326 u325.length c326] (x318, u325)) (Ent.pair (v1 := [.int .i64 x318]) (v2 := [.slice A326 u325.length c326]) (x1 := x318) (x2 := u325) (Ent.flat rfl) Ent.sl)
            dsimp only [addC, setC, rmC, selC, getC] at hH
            refine HL_cons rfl ?_
            refine o_litD (K := KS170) (O := OS170) (ca := #[.int .i64 x318, .slice A326 u325.length c326]) [[.int .i64 x318, .slice A326 u325.length c326]] [(x318, u325)] hH [3] (by decide) rfl Try.underlying85 tI170 rfl (by decide) rfl rfl rfl rfl (by kernel_rfl) rfl ?_
            intro A327 s327 hH' hG
            replace hH : Hp sb s F0 s327 [Ck.ol OS170 170 A222 c222 x222, Ck.ov b309 [.int .i64 u307.1, .slice A308 u307.2.length c308] 170, Ck.emp, Ck.emp, Ck.ol OS170 170 A327 1 [(x318, u325)]] := hH'
            clear hH' hG
            try dsimp only [putL, setL, evL, getL]
            replace H := headE H
            obtain ⟨x328, hx328, H⟩ := H
            refine HL_cons rfl ?_
            refine o_appD (K := KS170) (n := 4398046511104) (A := A222) (c := c222) (xs := x222) (ys := [(x318, u325)]) (B := A327) (c2 := 1) hH 0 4 (by decide) rfl rfl rfl rfl rfl Try.underlying85 tI170 rfl (by decide) (by decide) (by decide) hx328 ?_
            intro A328 c328 s328 hH'
            replace hH : Hp sb s F0 s328 [Ck.ol OS170 170 A328 c328 x328, Ck.ov b309 [.int .i64 u307.1, .slice A308 u307.2.length c308] 170, Ck.emp, Ck.emp, Ck.emp] := hH'
            clear hH'
            try dsimp only [putL, setL, evL, getL]
            refine HL_cons rfl ?_
            refine o_assign ?_
            try dsimp only [putL, setL, evL, getL]
            refine HL_nil ?_
            refine hK305 _ _ ?_
            refine HT_region ?_
            refine HL_cons rfl ?_
            refine o_bin rfl rfl rfl ?_
            try dsimp only [putL, setL, evL, getL]
            refine HL_cons rfl ?_
            refine o_move ?_
            try dsimp only [putL, setL, evL, getL]
            refine HL_nil ?_
            exact hK277 _ _ ⟨kf, Nat.lt_succ_self kf, x328, A328, c328, IntKind.i64.wrap (x223 + 1), H, rfl, hH.sel [0] (by decide)⟩
        · replace H := iteF hb280 H
          refine HT_false (congrArg Value.bool hb280) ?_
          refine HT_exit ?_
          exact hK11 _ _ ⟨x222, A222, c222, H, rfl, hH⟩
    · rintro l' s329 ⟨x170, A170, c170, H, hl, hH⟩
      generalize getL l' 6 = j6, getL l' 7 = j7, getL l' 14 = j14, getL l' 15 = j15, getL l' 16 = j16, getL l' 17 = j17, getL l' 18 = j18, getL l' 19 = j19, getL l' 20 = j20, getL l' 21 = j21, getL l' 22 = j22, getL l' 23 = j23, getL l' 24 = j24, getL l' 25 = j25, getL l' 26 = j26, getL l' 27 = j27, getL l' 28 = j28, getL l' 29 = j29, getL l' 30 = j30, getL l' 31 = j31, getL l' 32 = j32, getL l' 33 = j33, getL l' 34 = j34 at hl
      subst hl
      replace H := hG11 _ H
      try dsimp only at H
      refine hK9 _ _ ?_
      refine HT_seq_k ?_
      intro K330 hK330
      refine HT_region ?_
      refine HL_cons rfl ?_
      refine o_move ?_
      try dsimp only [putL, setL, evL, getL]
      refine HL_cons rfl ?_
      refine o_assign ?_
      try dsimp only [putL, setL, evL, getL]
      refine HL_cons rfl ?_
      refine o_assign ?_
      try dsimp only [putL, setL, evL, getL]
      refine HL_nil ?_
      refine hK330 _ _ ?_
      refine HT_ret ?_
      exact hQr _ _ [.slice A170 x170.length c170, .bool true] ⟨rfl, rfl, trivial⟩ (retH (fun r => impl_TurnDiff.post sb s F0 r _ _) (show some _ = some r from H) ⟨A170, c170, rfl, hH⟩)
def impl_firstRow.l1 (p0 : Int) : Nat → (List (Int)) → Int → Option (List (Int))
  | 0, _, _ => none
  | kf + 1, x41, x42 => if (decide (x42 < (IntKind.i64.wrap (p0 + 1)))) = true then ((app? 17592186044416 x41 [x42]).bind fun x59 => impl_firstRow.l1 p0 kf x59 (IntKind.i64.wrap (x42 + 1))) else (some x41)
def impl_firstRow.f (p0 : Int) : Option (List (Int)) := (impl_firstRow.l1 p0 (((IntKind.i64.wrap (p0 + 1)) - (0)).toNat + 2) ([] : List (Int)) 0).bind fun (o : (List (Int))) => match o with | x33 => (some x33)
def impl_firstRow.post (sb s : St) (F0 : Fp) (r : (List (Int))) : Value → St → Prop := fun v s' => ∃ (A0 : Option Addr) (c0 : Nat), v = .slice A0 r.length c0 ∧ Hp sb s F0 s' [Ck.ol OI 3 A0 c0 r]
set_option maxRecDepth 100000 in
set_option maxHeartbeats 4000000 in
theorem impl_firstRow.ok (sb s : St) (F0 : Fp) (p0 : Int) (hH : Hp sb s F0 s []) (r : (List (Int))) (H : impl_firstRow.f p0 = some r) : GCall Try.prog 106 #[.int .i64 p0] s (impl_firstRow.post sb s F0 r) := by
  refine GCall_ofk [.tmp 2] [.int .i64 p0, undef, undef, undef, undef, undef, undef, undef, undef, undef, undef, undef, undef, undef, undef, undef, undef] Try.func106 rfl rfl rfl ?_
  intro w Q hQr hQn hQp
  replace H := topE H
  unfold impl_firstRow.f at H
  refine HT_seq_k ?_
  intro K1 hK1
  refine HT_region ?_
  refine HL_cons rfl ?_
  refine o_assign ?_
  try dsimp only [putL, setL, evL, getL]
  refine HL_nil ?_
  refine hK1 _ _ ?_
  refine HT_seq_k ?_
  intro K2 hK2
  refine HT_region ?_
  refine HL_cons rfl ?_
  refine o_lit0H (α := Int) (K := KI) (O := OI) hH Try.underlying24 tI3 ?_
  intro A3 s3 hH' hG
  replace hH : Hp sb s F0 s3 [Ck.ol OI 3 A3 0 ([] : List (Int))] := hH'
  clear hH' hG
  try dsimp only [putL, setL, evL, getL]
  refine HL_cons rfl ?_
  refine o_assign ?_
  try dsimp only [putL, setL, evL, getL]
  refine HL_nil ?_
  refine hK2 _ _ ?_
  refine HT_seq_k ?_
  intro K4 hK4
  refine HT_seq_k ?_
  intro K5 hK5
  refine HT_region ?_
  refine HL_cons rfl ?_
  refine o_move ?_
  try dsimp only [putL, setL, evL, getL]
  refine HL_cons rfl ?_
  refine o_bin rfl rfl rfl ?_
  try dsimp only [putL, setL, evL, getL]
  refine HL_cons rfl ?_
  refine o_move ?_
  try dsimp only [putL, setL, evL, getL]
  refine HL_nil ?_
  refine hK5 _ _ ?_
  refine joinH H fun G6 hG6 H => ?_
  refine HT_toK (fun l' s' => ∃ (x33 : List (Int)) (A33 : Option Addr) (c33 : Nat), G6 x33 = some r ∧ l' = [.int .i64 p0, undef, .slice none 0 0, .slice A33 x33.length c33, getL l' 4, .slice A3 ([] : List (Int)).length 0, .int .i64 p0, .int .i64 (IntKind.i64.wrap (p0 + 1)), getL l' 8, getL l' 9, getL l' 10, getL l' 11, getL l' 12, getL l' 13, getL l' 14, getL l' 15, undef] ∧ Hp sb s F0 s' [Ck.ol OI 3 A33 c33 x33]) ?_ ?_
  · intro K6 hK6
    refine HT_block ?_
    refine HT_loopK (fun kf l' s' => ∃ (x41 : List (Int)) (A41 : Option Addr) (c41 : Nat) (x42 : Int), (impl_firstRow.l1 p0 kf x41 x42).bind G6 = some r ∧ l' = [.int .i64 p0, undef, .slice none 0 0, .slice A41 x41.length c41, getL l' 4, .slice A3 ([] : List (Int)).length 0, .int .i64 p0, .int .i64 (IntKind.i64.wrap (p0 + 1)), .int .i64 x42, getL l' 9, getL l' 10, getL l' 11, getL l' 12, getL l' 13, getL l' 14, getL l' 15, undef] ∧ Hp sb s F0 s' [Ck.ol OI 3 A41 c41 x41]) (((IntKind.i64.wrap (p0 + 1)) - (0)).toNat + 2) ⟨([] : List (Int)), A3, 0, 0, H, rfl, hH⟩ ?_
    rintro kf l' s52 ⟨x41, A41, c41, x42, H, hl, hH⟩ K52 hK52
    generalize getL l' 4 = j4, getL l' 9 = j9, getL l' 10 = j10, getL l' 11 = j11, getL l' 12 = j12, getL l' 13 = j13, getL l' 14 = j14, getL l' 15 = j15 at hl
    subst hl
    cases kf with
    | zero => simp [impl_firstRow.l1] at H
    | succ kf =>
      rw [impl_firstRow.l1] at H
      refine HT_seq_k ?_
      intro K53 hK53
      refine HT_region ?_
      refine HL_cons rfl ?_
      refine o_bin rfl rfl rfl ?_
      try dsimp only [putL, setL, evL, getL]
      refine HL_nil ?_
      refine hK53 _ _ ?_
      refine HT_seq_k ?_
      intro K54 hK54
      rcases Bool.eq_false_or_eq_true (decide (x42 < (IntKind.i64.wrap (p0 + 1)))) with hb55 | hb55
      · replace H := iteT hb55 H
        refine HT_true (congrArg Value.bool hb55) ?_
        refine HT_skip ?_
        refine hK54 _ _ ?_
        refine HT_seq_k ?_
        intro K56 hK56
        refine HT_block ?_
        refine HT_seq_k ?_
        intro K57 hK57
        refine HT_region ?_
        refine HL_cons rfl ?_
        refine o_move ?_
        try dsimp only [putL, setL, evL, getL]
        refine HL_cons rfl ?_
        refine o_assign ?_
        try dsimp only [putL, setL, evL, getL]
        refine HL_nil ?_
        refine hK57 _ _ ?_
        refine HT_region ?_
        refine HL_cons rfl ?_
        refine o_move ?_
        try dsimp only [putL, setL, evL, getL]
        refine HL_cons rfl ?_
        refine o_move ?_
        try dsimp only [putL, setL, evL, getL]
        refine HL_cons rfl ?_
        refine o_litF (K := KI) (O := OI) (ca := #[.int .i64 x42]) [[.int .i64 x42]] [x42] hH Try.underlying24 tI3 rfl (by decide) rfl rfl (by kernel_rfl) rfl ⟨rfl, Ent.own (Ent.flat rfl), trivial⟩ ?_
        intro A58 s58 hH' hG
        replace hH : Hp sb s F0 s58 [Ck.ol OI 3 A41 c41 x41, Ck.ol OI 3 A58 1 [x42]] := hH'
        clear hH' hG
        try dsimp only [putL, setL, evL, getL]
        replace H := headE H
        obtain ⟨x59, hx59, H⟩ := H
        refine HL_cons rfl ?_
        refine o_appF (K := KI) (n := 17592186044416) (A := A41) (c := c41) (xs := x41) (ys := [x42]) (B := A58) (c2 := 1) hH 0 rfl rfl rfl rfl Try.underlying24 tI3 rfl (by decide) (by decide) (by decide) (Src.flat (hH.rd 1 rfl)) hx59 ?_
        intro A59 c59 s59 hH'
        replace hH : Hp sb s F0 s59 [Ck.ol OI 3 A59 c59 x59, Ck.ol OI 3 A58 1 [x42]] := hH'
        clear hH'
        try dsimp only [putL, setL, evL, getL]
        refine HL_cons rfl ?_
        refine o_assign ?_
        try dsimp only [putL, setL, evL, getL]
        refine HL_nil ?_
        refine hK56 _ _ ?_
        refine HT_region ?_
        refine HL_cons rfl ?_
        refine o_bin rfl rfl rfl ?_
        try dsimp only [putL, setL, evL, getL]
        refine HL_cons rfl ?_
        refine o_move ?_
        try dsimp only [putL, setL, evL, getL]
        refine HL_nil ?_
        exact hK52 _ _ ⟨kf, Nat.lt_succ_self kf, x59, A59, c59, IntKind.i64.wrap (x42 + 1), H, rfl, hH.sel [0] (by decide)⟩
      · replace H := iteF hb55 H
        refine HT_false (congrArg Value.bool hb55) ?_
        refine HT_exit ?_
        exact hK6 _ _ ⟨x41, A41, c41, H, rfl, hH⟩
  · rintro l' s60 ⟨x33, A33, c33, H, hl, hH⟩
    generalize getL l' 4 = j4, getL l' 8 = j8, getL l' 9 = j9, getL l' 10 = j10, getL l' 11 = j11, getL l' 12 = j12, getL l' 13 = j13, getL l' 14 = j14, getL l' 15 = j15 at hl
    subst hl
    replace H := hG6 _ H
    try dsimp only at H
    refine hK4 _ _ ?_
    refine HT_seq_k ?_
    intro K61 hK61
    refine HT_region ?_
    refine HL_cons rfl ?_
    refine o_move ?_
    try dsimp only [putL, setL, evL, getL]
    refine HL_cons rfl ?_
    refine o_assign ?_
    try dsimp only [putL, setL, evL, getL]
    refine HL_nil ?_
    refine hK61 _ _ ?_
    refine HT_ret ?_
    exact hQr _ _ [.slice A33 x33.length c33] ⟨rfl, trivial⟩ (retH (fun r => impl_firstRow.post sb s F0 r _ _) (show some _ = some r from H) ⟨A33, c33, rfl, hH⟩)
def impl_nextRow.l1 (p0 : List (Int)) (p1 : Int) (p2 : List (Int)) : Nat → (List (Int)) → Int → Option (List (Int))
  | 0, _, _ => none
  | kf + 1, x154, x155 => if (decide (x155 < (p2.length : Int))) = true then ((rd? p2 x155).bind fun u215 => (rd? p0 x155).bind fun u217 => (if (u215 != p1) = true then (some (IntKind.i64.wrap (u217 + 1))) else (some u217)).bind fun (o : Int) => match o with | x221 => ((rd? p0 (IntKind.i64.wrap (x155 + 1))).bind fun u225 => (rd? x154 x155).bind fun u226 => (app? 17592186044416 x154 [min x221 (min (IntKind.i64.wrap (u225 + 1)) (IntKind.i64.wrap (u226 + 1)))]).bind fun x228 => impl_nextRow.l1 p0 p1 p2 kf x228 (IntKind.i64.wrap (x155 + 1)))) else (some x154)
def impl_nextRow.f (p0 : List (Int)) (p1 : Int) (p2 : List (Int)) : Option (List (Int)) := (rd? p0 0).bind fun u3 => (impl_nextRow.l1 p0 p1 p2 ((((p2.length : Int)) - (0)).toNat + 2) [IntKind.i64.wrap (u3 + 1)] 0).bind fun (o : (List (Int))) => match o with | x118 => (some x118)
def impl_nextRow.post (sb s : St) (F0 : Fp) (r : (List (Int))) : Value → St → Prop := fun v s' => ∃ (A0 : Option Addr) (c0 : Nat), v = .slice A0 r.length c0 ∧ Hp sb s F0 s' [Ck.ol OI 3 A0 c0 r]
set_option maxRecDepth 100000 in
set_option maxHeartbeats 4000000 in
theorem impl_nextRow.ok (sb s : St) (F0 : Fp) (A0p : Option Addr) (c0p : Nat) (p0 : List (Int)) (p1 : Int) (A2p : Option Addr) (c2p : Nat) (p2 : List (Int)) (HRp0 : Rd KI sb A0p c0p p0) (HRp2 : Rd KI sb A2p c2p p2) (hH : Hp sb s F0 s []) (r : (List (Int))) (H : impl_nextRow.f p0 p1 p2 = some r) : GCall Try.prog 107 #[.slice A0p p0.length c0p, .int .i64 p1, .slice A2p p2.length c2p] s (impl_nextRow.post sb s F0 r) := by
  refine GCall_ofk [.tmp 6] [.slice A0p p0.length c0p, .int .i64 p1, .slice A2p p2.length c2p, undef, undef, undef, undef, undef, undef, undef, undef, undef, undef, undef, undef, undef, undef, undef, undef, undef, undef, undef, undef, undef, undef, undef, undef, undef, undef, undef, undef, undef, undef, undef, undef, undef, undef, undef, undef, undef, undef, undef, undef, undef, undef, undef, undef, undef, undef, undef] Try.func107 rfl rfl rfl ?_
  intro w Q hQr hQn hQp
  replace H := topE H
  unfold impl_nextRow.f at H
  refine HT_seq_k ?_
  intro K1 hK1
  refine HT_region ?_
  refine HL_cons rfl ?_
  refine o_assign ?_
  try dsimp only [putL, setL, evL, getL]
  refine HL_nil ?_
  refine hK1 _ _ ?_
  refine HT_seq_k ?_
  intro K2 hK2
  refine HT_region ?_
  refine HL_cons rfl ?_
  refine o_move ?_
  try dsimp only [putL, setL, evL, getL]
  replace H := headE H
  obtain ⟨u3, hu3, H⟩ := H
  obtain ⟨b3, o3, cs3, hr3, hh3, hel3⟩ := Rd.elb HRp0 hu3
  obtain rfl := hr3
  refine HL_cons rfl ?_
  refine hel3 s rfl rfl Try.underlying24 tI3 ?_
  try dsimp only [putL, setL, evL, getL]
  refine HL_cons rfl ?_
  refine o_load' rfl Try.underlying3 rfl ((hh3 hH.bs.mono) 0 _ rfl) ?_
  try dsimp only [putL, setL, evL, getL]
  refine HL_cons rfl ?_
  refine o_bin rfl rfl rfl ?_
  try dsimp only [putL, setL, evL, getL]
  refine HL_cons rfl ?_
  refine o_litF (K := KI) (O := OI) (ca := #[.int .i64 (IntKind.i64.wrap (u3 + 1))]) [[.int .i64 (IntKind.i64.wrap (u3 + 1))]] [IntKind.i64.wrap (u3 + 1)] hH Try.underlying24 tI3 rfl (by decide) rfl rfl (by kernel_rfl) rfl ⟨rfl, Ent.own (Ent.flat rfl), trivial⟩ ?_
  intro A4 s4 hH' hG
  replace hH : Hp sb s F0 s4 [Ck.ol OI 3 A4 1 [IntKind.i64.wrap (u3 + 1)]] := hH'
  clear hH' hG
  try dsimp only [putL, setL, evL, getL]
  refine HL_cons rfl ?_
  refine o_assign ?_
  try dsimp only [putL, setL, evL, getL]
  refine HL_nil ?_
  refine hK2 _ _ ?_
  refine HT_seq_k ?_
  intro K5 hK5
  refine HT_seq_k ?_
  intro K6 hK6
  refine HT_region ?_
  refine HL_cons rfl ?_
  refine o_move ?_
  try dsimp only [putL, setL, evL, getL]
  refine HL_cons rfl ?_
  refine o_len rfl Try.underlying24 ?_
  try dsimp only [putL, setL, evL, getL]
  refine HL_cons rfl ?_
  refine o_move ?_
  try dsimp only [putL, setL, evL, getL]
  refine HL_nil ?_
  refine hK6 _ _ ?_
  refine joinH H fun G7 hG7 H => ?_
  refine HT_toK (fun l' s' => ∃ (x118 : List (Int)) (A118 : Option Addr) (c118 : Nat), G7 x118 = some r ∧ l' = [.slice A0p p0.length c0p, .int .i64 p1, .slice A2p p2.length c2p, undef, undef, undef, .slice none 0 0, .slice A118 x118.length c118, getL l' 8, getL l' 9, getL l' 10, .slice A0p p0.length c0p, .pointer (some ⟨b3, o3, none⟩), .int .i64 u3, .int .i64 (IntKind.i64.wrap (u3 + 1)), .slice A4 [IntKind.i64.wrap (u3 + 1)].length 1, .slice A2p p2.length c2p, .int .i64 (p2.length : Int), getL l' 18, getL l' 19, getL l' 20, getL l' 21, getL l' 22, getL l' 23, getL l' 24, getL l' 25, getL l' 26, getL l' 27, getL l' 28, getL l' 29, getL l' 30, getL l' 31, getL l' 32, getL l' 33, getL l' 34, getL l' 35, getL l' 36, getL l' 37, getL l' 38, getL l' 39, getL l' 40, getL l' 41, getL l' 42, getL l' 43, getL l' 44, getL l' 45, getL l' 46, getL l' 47, getL l' 48, undef] ∧ Hp sb s F0 s' [Ck.ol OI 3 A118 c118 x118]) ?_ ?_
  · intro K7 hK7
    refine HT_block ?_
    refine HT_loopK (fun kf l' s' => ∃ (x154 : List (Int)) (A154 : Option Addr) (c154 : Nat) (x155 : Int), (impl_nextRow.l1 p0 p1 p2 kf x154 x155).bind G7 = some r ∧ l' = [.slice A0p p0.length c0p, .int .i64 p1, .slice A2p p2.length c2p, undef, undef, undef, .slice none 0 0, .slice A154 x154.length c154, getL l' 8, getL l' 9, getL l' 10, .slice A0p p0.length c0p, .pointer (some ⟨b3, o3, none⟩), .int .i64 u3, .int .i64 (IntKind.i64.wrap (u3 + 1)), .slice A4 [IntKind.i64.wrap (u3 + 1)].length 1, .slice A2p p2.length c2p, .int .i64 (p2.length : Int), .int .i64 x155, getL l' 19, getL l' 20, getL l' 21, getL l' 22, getL l' 23, getL l' 24, getL l' 25, getL l' 26, getL l' 27, getL l' 28, getL l' 29, getL l' 30, getL l' 31, getL l' 32, getL l' 33, getL l' 34, getL l' 35, getL l' 36, getL l' 37, getL l' 38, getL l' 39, getL l' 40, getL l' 41, getL l' 42, getL l' 43, getL l' 44, getL l' 45, getL l' 46, getL l' 47, getL l' 48, undef] ∧ Hp sb s F0 s' [Ck.ol OI 3 A154 c154 x154]) ((((p2.length : Int)) - (0)).toNat + 2) ⟨[IntKind.i64.wrap (u3 + 1)], A4, 1, 0, H, rfl, hH⟩ ?_
    rintro kf l' s193 ⟨x154, A154, c154, x155, H, hl, hH⟩ K193 hK193
    generalize getL l' 8 = j8, getL l' 9 = j9, getL l' 10 = j10, getL l' 19 = j19, getL l' 20 = j20, getL l' 21 = j21, getL l' 22 = j22, getL l' 23 = j23, getL l' 24 = j24, getL l' 25 = j25, getL l' 26 = j26, getL l' 27 = j27, getL l' 28 = j28, getL l' 29 = j29, getL l' 30 = j30, getL l' 31 = j31, getL l' 32 = j32, getL l' 33 = j33, getL l' 34 = j34, getL l' 35 = j35, getL l' 36 = j36, getL l' 37 = j37, getL l' 38 = j38, getL l' 39 = j39, getL l' 40 = j40, getL l' 41 = j41, getL l' 42 = j42, getL l' 43 = j43, getL l' 44 = j44, getL l' 45 = j45, getL l' 46 = j46, getL l' 47 = j47, getL l' 48 = j48 at hl
    subst hl
    cases kf with
    | zero => simp [impl_nextRow.l1] at H
    | succ kf =>
      rw [impl_nextRow.l1] at H
      refine HT_seq_k ?_
      intro K194 hK194
      refine HT_region ?_
      refine HL_cons rfl ?_
      refine o_bin rfl rfl rfl ?_
      try dsimp only [putL, setL, evL, getL]
      refine HL_nil ?_
      refine hK194 _ _ ?_
      refine HT_seq_k ?_
      intro K195 hK195
      rcases Bool.eq_false_or_eq_true (decide (x155 < (p2.length : Int))) with hb196 | hb196
      · replace H := iteT hb196 H
        refine HT_true (congrArg Value.bool hb196) ?_
        refine HT_skip ?_
        refine hK195 _ _ ?_
        refine HT_seq_k ?_
        intro K213 hK213
        refine HT_block ?_
        refine HT_seq_k ?_
        intro K214 hK214
        refine HT_region ?_
        refine HL_cons rfl ?_
        refine o_move ?_
        try dsimp only [putL, setL, evL, getL]
        replace H := headE H
        obtain ⟨u215, hu215, H⟩ := H
        obtain ⟨b215, o215, cs215, hr215, hh215, hel215⟩ := Rd.elb HRp2 hu215
        obtain rfl := hr215
        refine HL_cons rfl ?_
        refine hel215 s193 rfl rfl Try.underlying24 tI3 ?_
        try dsimp only [putL, setL, evL, getL]
        refine HL_cons rfl ?_
        refine o_load' rfl Try.underlying3 rfl ((hh215 hH.bs.mono) 0 _ rfl) ?_
        try dsimp only [putL, setL, evL, getL]
        refine HL_cons rfl ?_
        refine o_assign ?_
        try dsimp only [putL, setL, evL, getL]
        refine HL_cons rfl ?_
        refine o_assign ?_
        try dsimp only [putL, setL, evL, getL]
        refine HL_nil ?_
        refine hK214 _ _ ?_
        refine HT_seq_k ?_
        intro K216 hK216
        refine HT_region ?_
        refine HL_cons rfl ?_
        refine o_move ?_
        try dsimp only [putL, setL, evL, getL]
        refine HL_cons rfl ?_
        refine o_move ?_
        try dsimp only [putL, setL, evL, getL]
        replace H := headE H
        obtain ⟨u217, hu217, H⟩ := H
        obtain ⟨b217, o217, cs217, hr217, hh217, hel217⟩ := Rd.elb HRp0 hu217
        obtain rfl := hr217
        refine HL_cons rfl ?_
        refine hel217 s193 rfl rfl Try.underlying24 tI3 ?_
        try dsimp only [putL, setL, evL, getL]
        refine HL_cons rfl ?_
        refine o_load' rfl Try.underlying3 rfl ((hh217 hH.bs.mono) 0 _ rfl) ?_
        try dsimp only [putL, setL, evL, getL]
        refine HL_cons rfl ?_
        refine o_assign ?_
        try dsimp only [putL, setL, evL, getL]
        refine HL_nil ?_
        refine hK216 _ _ ?_
        refine joinH H fun G218 hG218 H => ?_
        refine HT_joinK (fun l' s' => ∃ (x221 : Int), G218 x221 = some r ∧ l' = [.slice A0p p0.length c0p, .int .i64 p1, .slice A2p p2.length c2p, undef, undef, undef, .slice none 0 0, .slice A154 x154.length c154, .int .i64 x155, .int .i64 u215, .int .i64 x221, .slice A0p p0.length c0p, .pointer (some ⟨b3, o3, none⟩), .int .i64 u3, .int .i64 (IntKind.i64.wrap (u3 + 1)), .slice A4 [IntKind.i64.wrap (u3 + 1)].length 1, .slice A2p p2.length c2p, .int .i64 (p2.length : Int), .int .i64 x155, .bool (decide (x155 < (p2.length : Int))), .int .i64 x155, .pointer (some ⟨b215, o215, none⟩), .int .i64 u215, .slice A0p p0.length c0p, .int .i64 x155, .pointer (some ⟨b217, o217, none⟩), .int .i64 u217, getL l' 27, getL l' 28, getL l' 29, getL l' 30, getL l' 31, j32, j33, j34, j35, j36, j37, j38, j39, j40, j41, j42, j43, j44, j45, j46, j47, j48, undef] ∧ Hp sb s F0 s' [Ck.ol OI 3 A154 c154 x154]) ?_ ?_
        · intro K218 hK218
          refine HT_seq_k ?_
          intro K222 hK222
          refine HT_region ?_
          refine HL_cons rfl ?_
          refine o_move ?_
          try dsimp only [putL, setL, evL, getL]
          refine HL_cons rfl ?_
          refine o_move ?_
          try dsimp only [putL, setL, evL, getL]
          refine HL_cons rfl ?_
          refine o_bin rfl rfl rfl ?_
          try dsimp only [putL, setL, evL, getL]
          refine HL_nil ?_
          refine hK222 _ _ ?_
          rcases Bool.eq_false_or_eq_true (u215 != p1) with hb223 | hb223
          · replace H := iteT hb223 H
            refine HT_true (congrArg Value.bool hb223) ?_
            refine HT_region ?_
            refine HL_cons rfl ?_
            refine o_move ?_
            try dsimp only [putL, setL, evL, getL]
            refine HL_cons rfl ?_
            refine o_bin rfl rfl rfl ?_
            try dsimp only [putL, setL, evL, getL]
            refine HL_cons rfl ?_
            refine o_assign ?_
            try dsimp only [putL, setL, evL, getL]
            refine HL_nil ?_
            exact hK218 _ _ ⟨IntKind.i64.wrap (u217 + 1), H, rfl, hH⟩
          · replace H := iteF hb223 H
            refine HT_false (congrArg Value.bool hb223) ?_
            refine HT_skip ?_
            exact hK218 _ _ ⟨u217, H, rfl, hH⟩
        · rintro l' s224 ⟨x221, H, hl, hH⟩
          generalize getL l' 27 = j27, getL l' 28 = j28, getL l' 29 = j29, getL l' 30 = j30, getL l' 31 = j31 at hl
          subst hl
          replace H := hG218 _ H
          try dsimp only at H
          refine HX_draw hMix ?_
          refine HX_lim (R := fun _ => True) (k := 0) (fun s' => Gro s224 s') 15 ?_
          have hR := Gro.refl s224
          have hH0 := hH
          refine HK_readP 0 (v := .slice A154 x154.length c154) rfl (by kernel_rfl) (fun c l s h => hQp c l s h) rfl (fun s' K hK => ?_) rfl rfl (fun _ => hR) ?_
          · refine o_move ?_
            exact hK
          try dsimp only [putL, setL, evL, getL]
          refine HK_readP 1 (v := .int .i64 x221) rfl (by kernel_rfl) (fun c l s h => hQp c l s h) rfl (fun s' K hK => ?_) rfl rfl (fun _ => hR) ?_
          · refine o_move ?_
            exact hK
          try dsimp only [putL, setL, evL, getL]
          refine HK_readP 2 (v := .slice A0p p0.length c0p) rfl (by kernel_rfl) (fun c l s h => hQp c l s h) rfl (fun s' K hK => ?_) rfl rfl (fun _ => hR) ?_
          · refine o_move ?_
            exact hK
          try dsimp only [putL, setL, evL, getL]
          refine HK_readP 3 (v := .int .i64 x155) rfl (by kernel_rfl) (fun c l s h => hQp c l s h) rfl (fun s' K hK => ?_) rfl rfl (fun _ => hR) ?_
          · refine o_move ?_
            exact hK
          try dsimp only [putL, setL, evL, getL]
          refine HK_readP 4 (v := .int .i64 (IntKind.i64.wrap (x155 + 1))) rfl (by kernel_rfl) (fun c l s h => hQp c l s h) rfl (fun s' K hK => ?_) rfl rfl (fun _ => hR) ?_
          · refine o_bin rfl rfl rfl ?_
            exact hK
          try dsimp only [putL, setL, evL, getL]
          replace H := headE H
          obtain ⟨u225, hu225, H⟩ := H
          obtain ⟨b225, o225, cs225, hr225, hh225, hel225⟩ := Rd.elb HRp0 hu225
          obtain rfl := hr225
          refine HK_readP 5 (v := .pointer (some ⟨b225, o225, none⟩)) rfl (by kernel_rfl) (fun c l s h => hQp c l s h) rfl (fun s' K hK => ?_) rfl rfl (fun _ => hR) ?_
          · refine hel225 s' rfl rfl Try.underlying24 tI3 ?_
            exact hK
          try dsimp only [putL, setL, evL, getL]
          refine HK_read 6 (v := .int .i64 u225) rfl (by kernel_rfl) (fun c l s h => hQp c l s h) rfl (fun s' hR' K hK => ?_) rfl rfl hR ?_
          · refine o_load' rfl Try.underlying3 rfl ((hh225 (hH0.bs.mono.trans hR'.mono)) 0 _ rfl) ?_
            exact hK
          try dsimp only [putL, setL, evL, getL]
          refine HK_readP 7 (v := .int .i64 (IntKind.i64.wrap (u225 + 1))) rfl (by kernel_rfl) (fun c l s h => hQp c l s h) rfl (fun s' K hK => ?_) rfl rfl (fun _ => hR) ?_
          · refine o_bin rfl rfl rfl ?_
            exact hK
          try dsimp only [putL, setL, evL, getL]
          refine HK_readP 8 (v := .slice A154 x154.length c154) rfl (by kernel_rfl) (fun c l s h => hQp c l s h) rfl (fun s' K hK => ?_) rfl rfl (fun _ => hR) ?_
          · refine o_move ?_
            exact hK
          try dsimp only [putL, setL, evL, getL]
          refine HK_readP 9 (v := .int .i64 x155) rfl (by kernel_rfl) (fun c l s h => hQp c l s h) rfl (fun s' K hK => ?_) rfl rfl (fun _ => hR) ?_
          · refine o_move ?_
            exact hK
          try dsimp only [putL, setL, evL, getL]
          replace H := headE H
          obtain ⟨u226, hu226, H⟩ := H
          obtain ⟨b226, o226, cs226, hA226, hr226, hh226, hel226⟩ := hH0.elo 0 rfl hu226
          obtain rfl := hr226
          refine HK_readP 10 (v := .pointer (some ⟨b226, o226 + Int.toNat x155 * Kd.sz KI, none⟩)) rfl (by kernel_rfl) (fun c l s h => hQp c l s h) rfl (fun s' K hK => ?_) rfl rfl (fun _ => hR) ?_
          · refine hel226 s' rfl rfl Try.underlying24 tI3 ?_
            exact hK
          try dsimp only [putL, setL, evL, getL]
          refine HK_read 11 (v := .int .i64 u226) rfl (by kernel_rfl) (fun c l s h => hQp c l s h) rfl (fun s' hR' K hK => ?_) rfl rfl hR ?_
          · refine o_load' rfl Try.underlying3 rfl (has_gro hR' (hh226 0 _ rfl)) ?_
            exact hK
          try dsimp only [putL, setL, evL, getL]
          refine HK_readP 12 (v := .int .i64 (IntKind.i64.wrap (u226 + 1))) rfl (by kernel_rfl) (fun c l s h => hQp c l s h) rfl (fun s' K hK => ?_) rfl rfl (fun _ => hR) ?_
          · refine o_bin rfl rfl rfl ?_
            exact hK
          try dsimp only [putL, setL, evL, getL]
          refine HK_readP 13 (v := .int .i64 (min x221 (min (IntKind.i64.wrap (u225 + 1)) (IntKind.i64.wrap (u226 + 1))))) rfl (by kernel_rfl) (fun c l s h => hQp c l s h) rfl (fun s' K hK => ?_) rfl rfl (fun _ => hR) ?_
          · refine o_min3 rfl rfl rfl ?_
            exact hK
          try dsimp only [putL, setL, evL, getL]
          refine HK_more [14] (by kernel_rfl) rfl (fun _ => hR) ⟨⟨_, rfl, Or.inl ⟨rfl, ?_⟩⟩, trivial⟩
          skip
          refine o_litF (K := KI) (O := OI) (ca := #[.int .i64 (min x221 (min (IntKind.i64.wrap (u225 + 1)) (IntKind.i64.wrap (u226 + 1))))]) [[.int .i64 (min x221 (min (IntKind.i64.wrap (u225 + 1)) (IntKind.i64.wrap (u226 + 1))))]] [min x221 (min (IntKind.i64.wrap (u225 + 1)) (IntKind.i64.wrap (u226 + 1)))] hH Try.underlying24 tI3 rfl (by decide) rfl rfl (by kernel_rfl) rfl ⟨rfl, Ent.own (Ent.flat rfl), trivial⟩ ?_
          intro A227 s227 hH' hG
          replace hR := hR.trans hG
          replace hH : Hp sb s F0 s227 [Ck.ol OI 3 A154 c154 x154, Ck.ol OI 3 A227 1 [min x221 (min (IntKind.i64.wrap (u225 + 1)) (IntKind.i64.wrap (u226 + 1)))]] := hH'
          clear hH' hG
          try dsimp only [putL, setL, evL, getL]
          refine HK_more [15] (by kernel_rfl) rfl (fun _ => hR) ⟨⟨_, rfl, Or.inl ⟨rfl, ?_⟩⟩, trivial⟩
          replace H := headE H
          obtain ⟨x228, hx228, H⟩ := H
          skip
          refine o_appF (K := KI) (n := 17592186044416) (A := A154) (c := c154) (xs := x154) (ys := [min x221 (min (IntKind.i64.wrap (u225 + 1)) (IntKind.i64.wrap (u226 + 1)))]) (B := A227) (c2 := 1) hH 0 rfl rfl rfl rfl Try.underlying24 tI3 rfl (by decide) (by decide) (by decide) (Src.flat (hH.rd 1 rfl)) hx228 ?_
          intro A228 c228 s228 hH'
          replace hH : Hp sb s F0 s228 [Ck.ol OI 3 A228 c228 x228, Ck.ol OI 3 A227 1 [min x221 (min (IntKind.i64.wrap (u225 + 1)) (IntKind.i64.wrap (u226 + 1)))]] := hH'
          clear hH'
          try dsimp only [putL, setL, evL, getL]
          refine HK_free (by kernel_rfl) ?_
          refine HX_lim (R := fun _ => True) (k := 0) (fun s' => Gro s228 s') 18 ?_
          have hR := Gro.refl s228
          have hH0 := hH
          refine HK_more [16] (by kernel_rfl) rfl (fun _ => hR) ⟨⟨_, rfl, Or.inl ⟨rfl, ?_⟩⟩, trivial⟩
          skip
          refine o_assign ?_
          try dsimp only [putL, setL, evL, getL]
          refine HK_done (fun _ => hR) (by kernel_rfl) ?_
          refine hK213 _ _ ?_
          refine HT_region ?_
          refine HL_cons rfl ?_
          refine o_bin rfl rfl rfl ?_
          try dsimp only [putL, setL, evL, getL]
          refine HL_cons rfl ?_
          refine o_move ?_
          try dsimp only [putL, setL, evL, getL]
          refine HL_nil ?_
          exact hK193 _ _ ⟨kf, Nat.lt_succ_self kf, x228, A228, c228, IntKind.i64.wrap (x155 + 1), H, rfl, hH.sel [0] (by decide)⟩
      · replace H := iteF hb196 H
        refine HT_false (congrArg Value.bool hb196) ?_
        refine HT_exit ?_
        exact hK7 _ _ ⟨x154, A154, c154, H, rfl, hH⟩
  · rintro l' s229 ⟨x118, A118, c118, H, hl, hH⟩
    generalize getL l' 8 = j8, getL l' 9 = j9, getL l' 10 = j10, getL l' 18 = j18, getL l' 19 = j19, getL l' 20 = j20, getL l' 21 = j21, getL l' 22 = j22, getL l' 23 = j23, getL l' 24 = j24, getL l' 25 = j25, getL l' 26 = j26, getL l' 27 = j27, getL l' 28 = j28, getL l' 29 = j29, getL l' 30 = j30, getL l' 31 = j31, getL l' 32 = j32, getL l' 33 = j33, getL l' 34 = j34, getL l' 35 = j35, getL l' 36 = j36, getL l' 37 = j37, getL l' 38 = j38, getL l' 39 = j39, getL l' 40 = j40, getL l' 41 = j41, getL l' 42 = j42, getL l' 43 = j43, getL l' 44 = j44, getL l' 45 = j45, getL l' 46 = j46, getL l' 47 = j47, getL l' 48 = j48 at hl
    subst hl
    replace H := hG7 _ H
    try dsimp only at H
    refine hK5 _ _ ?_
    refine HT_seq_k ?_
    intro K230 hK230
    refine HT_region ?_
    refine HL_cons rfl ?_
    refine o_move ?_
    try dsimp only [putL, setL, evL, getL]
    refine HL_cons rfl ?_
    refine o_assign ?_
    try dsimp only [putL, setL, evL, getL]
    refine HL_nil ?_
    refine hK230 _ _ ?_
    refine HT_ret ?_
    exact hQr _ _ [.slice A118 x118.length c118] ⟨rfl, trivial⟩ (retH (fun r => impl_nextRow.post sb s F0 r _ _) (show some _ = some r from H) ⟨A118, c118, rfl, hH⟩)
def impl_distances.l1 (p0 : List (Int)) (p1 : List (Int)) : Nat → (List (Int)) → Int → Option (List (Int))
  | 0, _, _ => none
  | kf + 1, x46, x47 => if (decide (x47 < (p0.length : Int))) = true then ((rd? p0 x47).bind fun u64 => (impl_nextRow.f x46 u64 p1).bind fun u65 => impl_distances.l1 p0 p1 kf u65 (IntKind.i64.wrap (x47 + 1))) else (some x46)
def impl_distances.f (p0 : List (Int)) (p1 : List (Int)) : Option (List (Int)) := (impl_firstRow.f (p1.length : Int)).bind fun u3 => (impl_distances.l1 p0 p1 ((((p0.length : Int)) - (0)).toNat + 2) u3 0).bind fun (o : (List (Int))) => match o with | x37 => (some x37)
def impl_distances.post (sb s : St) (F0 : Fp) (r : (List (Int))) : Value → St → Prop := fun v s' => ∃ (A0 : Option Addr) (c0 : Nat), v = .slice A0 r.length c0 ∧ Hp sb s F0 s' [Ck.ol OI 3 A0 c0 r]
set_option maxRecDepth 100000 in
set_option maxHeartbeats 4000000 in
theorem impl_distances.ok (sb s : St) (F0 : Fp) (A0p : Option Addr) (c0p : Nat) (p0 : List (Int)) (A1p : Option Addr) (c1p : Nat) (p1 : List (Int)) (HRp0 : Rd KI sb A0p c0p p0) (HRp1 : Rd KI sb A1p c1p p1) (hH : Hp sb s F0 s []) (r : (List (Int))) (H : impl_distances.f p0 p1 = some r) : GCall Try.prog 100 #[.slice A0p p0.length c0p, .slice A1p p1.length c1p] s (impl_distances.post sb s F0 r) := by
  refine GCall_ofk [.tmp 4] [.slice A0p p0.length c0p, .slice A1p p1.length c1p, undef, undef, undef, undef, undef, undef, undef, undef, undef, undef, undef, undef, undef, undef, undef, undef, undef, undef, undef, undef, undef] Try.func100 rfl rfl rfl ?_
  intro w Q hQr hQn hQp
  replace H := topE H
  unfold impl_distances.f at H
  refine HT_seq_k ?_
  intro K1 hK1
  refine HT_region ?_
  refine HL_cons rfl ?_
  refine o_assign ?_
  try dsimp only [putL, setL, evL, getL]
  refine HL_nil ?_
  refine hK1 _ _ ?_
  refine HT_seq_k ?_
  intro K2 hK2
  refine HT_region ?_
  refine HL_cons rfl ?_
  refine o_move ?_
  try dsimp only [putL, setL, evL, getL]
  refine HL_cons rfl ?_
  refine o_len rfl Try.underlying24 ?_
  try dsimp only [putL, setL, evL, getL]
  replace H := headE H
  obtain ⟨u3, hu3, H⟩ := H
  refine HL_cons rfl ?_
  refine o_call (args := #[.int .i64 (p1.length : Int)]) Try.func106 rfl rfl rfl (impl_firstRow.ok sb s no (p1.length : Int) (Hp.own hH.bs) _ hu3) ?_
  rintro _ s3 ⟨A4, c4, rfl, hD⟩
  replace hH := hH.back0 hD (Up.refl _ _ _)
  clear hD
  dsimp only [addC, setC, rmC, selC, getC] at hH
  try dsimp only [putL, setL, evL, getL]
  refine HL_cons rfl ?_
  refine o_assign ?_
  try dsimp only [putL, setL, evL, getL]
  refine HL_nil ?_
  refine hK2 _ _ ?_
  refine HT_seq_k ?_
  intro K5 hK5
  refine HT_seq_k ?_
  intro K6 hK6
  refine HT_region ?_
  refine HL_cons rfl ?_
  refine o_move ?_
  try dsimp only [putL, setL, evL, getL]
  refine HL_cons rfl ?_
  refine o_len rfl Try.underlying24 ?_
  try dsimp only [putL, setL, evL, getL]
  refine HL_cons rfl ?_
  refine o_move ?_
  try dsimp only [putL, setL, evL, getL]
  refine HL_nil ?_
  refine hK6 _ _ ?_
  refine joinH H fun G7 hG7 H => ?_
  refine HT_toK (fun l' s' => ∃ (x37 : List (Int)) (A37 : Option Addr) (c37 : Nat), G7 x37 = some r ∧ l' = [.slice A0p p0.length c0p, .slice A1p p1.length c1p, undef, undef, .slice none 0 0, .slice A37 x37.length c37, undef, getL l' 7, .slice A1p p1.length c1p, .int .i64 (p1.length : Int), .slice A4 u3.length c4, .slice A0p p0.length c0p, .int .i64 (p0.length : Int), getL l' 13, getL l' 14, getL l' 15, getL l' 16, getL l' 17, getL l' 18, getL l' 19, getL l' 20, getL l' 21, undef] ∧ Hp sb s F0 s' [Ck.ol OI 3 A37 c37 x37]) ?_ ?_
  · intro K7 hK7
    refine HT_block ?_
    refine HT_loopK (fun kf l' s' => ∃ (x46 : List (Int)) (A46 : Option Addr) (c46 : Nat) (x47 : Int), (impl_distances.l1 p0 p1 kf x46 x47).bind G7 = some r ∧ l' = [.slice A0p p0.length c0p, .slice A1p p1.length c1p, undef, undef, .slice none 0 0, .slice A46 x46.length c46, undef, getL l' 7, .slice A1p p1.length c1p, .int .i64 (p1.length : Int), .slice A4 u3.length c4, .slice A0p p0.length c0p, .int .i64 (p0.length : Int), .int .i64 x47, getL l' 14, getL l' 15, getL l' 16, getL l' 17, getL l' 18, getL l' 19, getL l' 20, getL l' 21, undef] ∧ Hp sb s F0 s' [Ck.ol OI 3 A46 c46 x46]) ((((p0.length : Int)) - (0)).toNat + 2) ⟨u3, A4, c4, 0, H, rfl, hH⟩ ?_
    rintro kf l' s58 ⟨x46, A46, c46, x47, H, hl, hH⟩ K58 hK58
    generalize getL l' 7 = j7, getL l' 14 = j14, getL l' 15 = j15, getL l' 16 = j16, getL l' 17 = j17, getL l' 18 = j18, getL l' 19 = j19, getL l' 20 = j20, getL l' 21 = j21 at hl
    subst hl
    cases kf with
    | zero => simp [impl_distances.l1] at H
    | succ kf =>
      rw [impl_distances.l1] at H
      refine HT_seq_k ?_
      intro K59 hK59
      refine HT_region ?_
      refine HL_cons rfl ?_
      refine o_bin rfl rfl rfl ?_
      try dsimp only [putL, setL, evL, getL]
      refine HL_nil ?_
      refine hK59 _ _ ?_
      refine HT_seq_k ?_
      intro K60 hK60
      rcases Bool.eq_false_or_eq_true (decide (x47 < (p0.length : Int))) with hb61 | hb61
      · replace H := iteT hb61 H
        refine HT_true (congrArg Value.bool hb61) ?_
        refine HT_skip ?_
        refine hK60 _ _ ?_
        refine HT_seq_k ?_
        intro K62 hK62
        refine HT_block ?_
        refine HT_seq_k ?_
        intro K63 hK63
        refine HT_region ?_
        replace H := headE H
        obtain ⟨u64, hu64, H⟩ := H
        obtain ⟨b64, o64, cs64, hr64, hh64, hel64⟩ := Rd.elb HRp0 hu64
        obtain rfl := hr64
        refine HL_cons rfl ?_
        refine hel64 s58 rfl rfl Try.underlying24 tI3 ?_
        try dsimp only [putL, setL, evL, getL]
        refine HL_cons rfl ?_
        refine o_load' rfl Try.underlying3 rfl ((hh64 hH.bs.mono) 0 _ rfl) ?_
        try dsimp only [putL, setL, evL, getL]
        refine HL_cons rfl ?_
        refine o_assign ?_
        try dsimp only [putL, setL, evL, getL]
        refine HL_nil ?_
        refine hK63 _ _ ?_
        refine HT_region ?_
        refine HL_cons rfl ?_
        refine o_move ?_
        try dsimp only [putL, setL, evL, getL]
        refine HL_cons rfl ?_
        refine o_move ?_
        try dsimp only [putL, setL, evL, getL]
        refine HL_cons rfl ?_
        refine o_move ?_
        try dsimp only [putL, setL, evL, getL]
        replace H := headE H
        obtain ⟨u65, hu65, H⟩ := H
        refine HL_cons rfl ?_
        refine o_call (args := #[.slice A46 x46.length c46, .int .i64 u64, .slice A1p p1.length c1p]) Try.func107 rfl rfl rfl (impl_nextRow.ok s58 s58 no A46 c46 x46 u64 A1p c1p p1 (hH.rd 0 rfl) (HRp1.mono hH.bs.mono) (Hp.own (Bs.refl s58)) _ hu65) ?_
        rintro _ s65 ⟨A66, c66, rfl, hD⟩
        replace hH := hH.back0T hD
        clear hD
        dsimp only [addC, setC, rmC, selC, getC] at hH
        try dsimp only [putL, setL, evL, getL]
        refine HL_cons rfl ?_
        refine o_assign ?_
        try dsimp only [putL, setL, evL, getL]
        refine HL_nil ?_
        refine hK62 _ _ ?_
        refine HT_region ?_
        refine HL_cons rfl ?_
        refine o_bin rfl rfl rfl ?_
        try dsimp only [putL, setL, evL, getL]
        refine HL_cons rfl ?_
        refine o_move ?_
        try dsimp only [putL, setL, evL, getL]
        refine HL_nil ?_
        exact hK58 _ _ ⟨kf, Nat.lt_succ_self kf, u65, A66, c66, IntKind.i64.wrap (x47 + 1), H, rfl, hH.sel [1] (by decide)⟩
      · replace H := iteF hb61 H
        refine HT_false (congrArg Value.bool hb61) ?_
        refine HT_exit ?_
        exact hK7 _ _ ⟨x46, A46, c46, H, rfl, hH⟩
  · rintro l' s67 ⟨x37, A37, c37, H, hl, hH⟩
    generalize getL l' 7 = j7, getL l' 13 = j13, getL l' 14 = j14, getL l' 15 = j15, getL l' 16 = j16, getL l' 17 = j17, getL l' 18 = j18, getL l' 19 = j19, getL l' 20 = j20, getL l' 21 = j21 at hl
    subst hl
    replace H := hG7 _ H
    try dsimp only at H
    refine hK5 _ _ ?_
    refine HT_seq_k ?_
    intro K68 hK68
    refine HT_region ?_
    refine HL_cons rfl ?_
    refine o_move ?_
    try dsimp only [putL, setL, evL, getL]
    refine HL_cons rfl ?_
    refine o_assign ?_
    try dsimp only [putL, setL, evL, getL]
    refine HL_nil ?_
    refine hK68 _ _ ?_
    refine HT_ret ?_
    exact hQr _ _ [.slice A37 x37.length c37] ⟨rfl, trivial⟩ (retH (fun r => impl_distances.post sb s F0 r _ _) (show some _ = some r from H) ⟨A37, c37, rfl, hH⟩)
def impl_DistanceOf.f (p0 : List (Int)) (p1 : List (Int)) : Option (Int × Bool) := (impl_areShort.f [p0, p1]).bind fun u5 => if (!u5) = true then (some (0, false)) else ((impl_distances.f p0 p1).bind fun u9 => (rd? u9 (p1.length : Int)).bind fun u11 => some (u11, true))
def impl_DistanceOf.post (sb s : St) (F0 : Fp) (r : Int × Bool) : Value → St → Prop := fun v s' => v = .tuple #[.int .i64 r.1, .bool r.2] ∧ Hp sb s F0 s' []
set_option maxRecDepth 100000 in
set_option maxHeartbeats 4000000 in
theorem impl_DistanceOf.ok (sb s : St) (F0 : Fp) (A0p : Option Addr) (c0p : Nat) (p0 : List (Int)) (A1p : Option Addr) (c1p : Nat) (p1 : List (Int)) (HRp0 : Rd KI sb A0p c0p p0) (HRp1 : Rd KI sb A1p c1p p1) (hH : Hp sb s F0 s []) (r : Int × Bool) (H : impl_DistanceOf.f p0 p1 = some r) : GCall Try.prog 16 #[.slice A0p p0.length c0p, .slice A1p p1.length c1p] s (impl_DistanceOf.post sb s F0 r) := by
  refine GCall_ofk [.tmp 4, .tmp 5] [.slice A0p p0.length c0p, .slice A1p p1.length c1p, undef, undef, undef, undef, undef, undef, undef, undef, undef, undef, undef, undef, undef, undef, undef, undef] Try.func16 rfl rfl rfl ?_
  intro w Q hQr hQn hQp
  replace H := topE H
  unfold impl_DistanceOf.f at H
  refine HT_seq_k ?_
  intro K1 hK1
  refine HT_region ?_
  refine HL_cons rfl ?_
  refine o_assign ?_
  try dsimp only [putL, setL, evL, getL]
  refine HL_cons rfl ?_
  refine o_assign ?_
  try dsimp only [putL, setL, evL, getL]
  refine HL_nil ?_
  refine hK1 _ _ ?_
  refine HT_seq_k ?_
  intro K2 hK2
  refine HT_seq_k ?_
  intro K3 hK3
  refine HT_region ?_
  refine HL_cons rfl ?_
  refine o_move ?_
  try dsimp only [putL, setL, evL, getL]
  refine HL_cons rfl ?_
  refine o_move ?_
  try dsimp only [putL, setL, evL, getL]
  refine HL_cons rfl ?_
  refine o_litF (K := (Kd.sl KI)) (O := (Ow.lent (Kd.sl KI))) (ca := #[.slice A0p p0.length c0p, .slice A1p p1.length c1p]) [[.slice A0p p0.length c0p], [.slice A1p p1.length c1p]] [p0, p1] hH Try.underlying105 tI24 rfl (by decide) rfl rfl (by kernel_rfl) rfl ⟨rfl, Ent.own (Ent.lent ⟨_, _, rfl, HRp0⟩), rfl, Ent.own (Ent.lent ⟨_, _, rfl, HRp1⟩), trivial⟩ ?_
  intro A4 s4 hH' hG
  replace hH : Hp sb s F0 s4 [Ck.ol (Ow.lent (Kd.sl KI)) 24 A4 2 [p0, p1]] := hH'
  clear hH' hG
  try dsimp only [putL, setL, evL, getL]
  replace H := headE H
  obtain ⟨u5, hu5, H⟩ := H
  refine HL_cons rfl ?_
  refine o_call (args := #[.slice A4 [p0, p1].length 2]) Try.func99 rfl rfl rfl (impl_areShort.ok s4 s4 no A4 2 [p0, p1] (hH.rd 0 rfl) (Hp.own (Bs.refl s4)) _ hu5) ?_
  rintro _ s5 ⟨rfl, hD⟩
  replace hH := hH.back0T hD
  clear hD
  dsimp only [addC, setC, rmC, selC, getC] at hH
  try dsimp only [putL, setL, evL, getL]
  refine HL_cons rfl ?_
  refine o_not rfl ?_
  try dsimp only [putL, setL, evL, getL]
  refine HL_nil ?_
  refine hK3 _ _ ?_
  rcases Bool.eq_false_or_eq_true (!u5) with hb6 | hb6
  · replace H := iteT hb6 H
    refine HT_true (congrArg Value.bool hb6) ?_
    refine HT_seq_k ?_
    intro K7 hK7
    refine HT_region ?_
    refine HL_cons rfl ?_
    refine o_assign ?_
    try dsimp only [putL, setL, evL, getL]
    refine HL_cons rfl ?_
    refine o_assign ?_
    try dsimp only [putL, setL, evL, getL]
    refine HL_nil ?_
    refine hK7 _ _ ?_
    refine HT_ret ?_
    exact hQr _ _ [.int .i64 0, .bool false] ⟨rfl, rfl, trivial⟩ (retH (fun r => impl_DistanceOf.post sb s F0 r _ _) (show some _ = some r from H) ⟨rfl, hH.sel [] (by decide)⟩)
  · replace H := iteF hb6 H
    refine HT_false (congrArg Value.bool hb6) ?_
    refine HT_skip ?_
    refine hK2 _ _ ?_
    refine HT_seq_k ?_
    intro K8 hK8
    refine HT_region ?_
    refine HL_cons rfl ?_
    refine o_move ?_
    try dsimp only [putL, setL, evL, getL]
    refine HL_cons rfl ?_
    refine o_move ?_
    try dsimp only [putL, setL, evL, getL]
    replace H := headE H
    obtain ⟨u9, hu9, H⟩ := H
    refine HL_cons rfl ?_
    refine o_call (args := #[.slice A0p p0.length c0p, .slice A1p p1.length c1p]) Try.func100 rfl rfl rfl (impl_distances.ok sb s5 no A0p c0p p0 A1p c1p p1 HRp0 HRp1 (Hp.own hH.bs) _ hu9) ?_
    rintro _ s9 ⟨A10, c10, rfl, hD⟩
    replace hH := hH.back0 hD (Up.refl _ _ _)
    clear hD
    dsimp only [addC, setC, rmC, selC, getC] at hH
    try dsimp only [putL, setL, evL, getL]
    refine HL_cons rfl ?_
    refine o_move ?_
    try dsimp only [putL, setL, evL, getL]
    refine HL_cons rfl ?_
    refine o_len rfl Try.underlying24 ?_
    try dsimp only [putL, setL, evL, getL]
    replace H := headE H
    obtain ⟨u11, hu11, H⟩ := H
    obtain ⟨b11, o11, cs11, hA11, hr11, hh11, hel11⟩ := hH.elo 1 rfl hu11
    obtain rfl := hr11
    refine HL_cons rfl ?_
    refine hel11 s9 rfl rfl Try.underlying24 tI3 ?_
    try dsimp only [putL, setL, evL, getL]
    refine HL_cons rfl ?_
    refine o_load' rfl Try.underlying3 rfl (hh11 0 _ rfl) ?_
    try dsimp only [putL, setL, evL, getL]
    refine HL_cons rfl ?_
    refine o_assign ?_
    try dsimp only [putL, setL, evL, getL]
    refine HL_cons rfl ?_
    refine o_assign ?_
    try dsimp only [putL, setL, evL, getL]
    refine HL_nil ?_
    refine hK8 _ _ ?_
    refine HT_ret ?_
    exact hQr _ _ [.int .i64 u11, .bool true] ⟨rfl, rfl, trivial⟩ (retH (fun r => impl_DistanceOf.post sb s F0 r _ _) (show some _ = some r from H) ⟨rfl, hH.sel [] (by decide)⟩)
def spec_l1Cur_edits.f (p0_0 : List (Int)) (p0_1 : Int) (p0_2 : Int) : Option ((List (Int)) × (List ((Int) × (List (Int)))) × Int × Int) := (spec_l1Cur_near.f p0_0 p0_1 p0_2).bind fun u3 => (spec_DiffOf.f u3.1 u3.2.1).bind fun u7 => ((if (decide ((u7.1.length : Int) > 0)) = true then ((spec_l1Cur_one.f p0_0 u3.2.2.1 u3.2.2.2 4).bind fun u49 => some (u49.1, u49.2.1, u49.2.2)) else (some (false, u3.2.2.1, u3.2.2.2))).bind fun (o : Bool × Int × Int) => match o with | (x45, x46, x47) => (if x45 = true then ((spec_l1Cur_pick.f p0_0 x46 x47 (u7.1.length : Int)).bind fun u53 => (spec_l1Cur_pick.f p0_0 u53.2.1 u53.2.2 3).bind fun u55 => if (u55.1 == 0) = true then ((spec_l1Cur_pick.f p0_0 u55.2.1 u55.2.2 5).bind fun u58 => (rd? u7.1 u53.1).bind fun u59 => (st? u7.1 u53.1 (u58.1, u59.2)).bind fun x61 => some (x61, u58.2.1, u58.2.2)) else (if (u55.1 == 1) = true then ((cut? u7.1 0 u53.1).bind fun x64 => some (x64, u55.2.1, u55.2.2)) else ((rd? u7.1 u53.1).bind fun u65 => (st? u7.1 u53.1 (u65.1, [])).bind fun x70 => some (x70, u55.2.1, u55.2.2)))) else (some (u7.1, x46, x47)))).bind fun (o : (List ((Int) × (List (Int)))) × Int × Int) => match o with | (x39, x40, x41) => (some (u3.1, x39, x40, x41))
def spec_l1Cur_edits.post (sb s : St) (F0 : Fp) (bp0 : Nat) (A0_0p : Option Addr) (c0_0p : Nat) (p0_0 : List (Int)) (r : (List (Int)) × (List ((Int) × (List (Int)))) × Int × Int) : Value → St → Prop := fun v s' => ∃ (A0 : Option Addr) (c0 : Nat) (A1 : Option Addr) (c1 : Nat), v = .tuple #[.slice A0 r.1.length c0, .slice A1 r.2.1.length c1] ∧ Hp sb s F0 s' [Ck.ol OI 3 A0 c0 r.1, Ck.ol OS170 170 A1 c1 r.2.1, Ck.ov bp0 [.slice A0_0p p0_0.length c0_0p, .int .i64 r.2.2.1, .int .u64 r.2.2.2] 113]
set_option maxRecDepth 100000 in
set_option maxHeartbeats 4000000 in
theorem spec_l1Cur_edits.ok (sb s : St) (F0 : Fp) (bp0 : Nat) (A0_0p : Option Addr) (c0_0p : Nat) (p0_0 : List (Int)) (p0_1 : Int) (p0_2 : Int) (HRp0_0 : Rd (Kd.int .u8) sb A0_0p c0_0p p0_0) (hH : Hp sb s F0 s [Ck.ov bp0 [.slice A0_0p p0_0.length c0_0p, .int .i64 p0_1, .int .u64 p0_2] 113]) (r : (List (Int)) × (List ((Int) × (List (Int)))) × Int × Int) (H : spec_l1Cur_edits.f p0_0 p0_1 p0_2 = some r) : GCall Try.prog 163 #[.pointer (some ⟨bp0, 0, none⟩)] s (spec_l1Cur_edits.post sb s F0 bp0 A0_0p c0_0p p0_0 r) := by
  refine GCall_ofk [.tmp 2, .tmp 3] [.pointer (some ⟨bp0, 0, none⟩), undef, undef, undef, undef, undef, undef, undef, undef, undef, undef, undef, undef, undef, undef, undef, undef, undef, undef, undef, undef, undef, undef, undef, undef, undef, undef, undef, undef, undef, undef, undef, undef, undef, undef, undef, undef, undef, undef, undef, undef, undef, undef, undef, undef, undef, undef, undef, undef, undef, undef, undef] Try.func163 rfl rfl rfl ?_
  intro w Q hQr hQn hQp
  replace H := topE H
  unfold spec_l1Cur_edits.f at H
  refine HT_seq_k ?_
  intro K1 hK1
  refine HT_region ?_
  refine HL_cons rfl ?_
  refine o_assign ?_
  try dsimp only [putL, setL, evL, getL]
  refine HL_cons rfl ?_
  refine o_assign ?_
  try dsimp only [putL, setL, evL, getL]
  refine HL_nil ?_
  refine hK1 _ _ ?_
  refine HT_seq_k ?_
  intro K2 hK2
  refine HT_region ?_
  refine HL_cons rfl ?_
  refine o_move ?_
  try dsimp only [putL, setL, evL, getL]
  replace H := headE H
  obtain ⟨u3, hu3, H⟩ := H
  obtain ⟨F1, hA, hB⟩ := hH.take [0] (by decide)
  dsimp only [addC, setC, rmC, selC, getC] at hA
  refine HL_cons rfl ?_
  refine o_call (args := #[.pointer (some ⟨bp0, 0, none⟩)]) Try.func98 rfl rfl rfl (spec_l1Cur_near.ok sb s F1 bp0 A0_0p c0_0p p0_0 p0_1 p0_2 HRp0_0 hA _ hu3) ?_
  rintro _ s3 ⟨A4, c4, A5, c5, rfl, hD⟩
  replace hH := hB _ _ _ (Up.refl _ _ _) hD
  clear hD hA hB
  dsimp only [addC, setC, rmC, selC, getC] at hH
  try dsimp only [putL, setL, evL, getL]
  refine HL_cons rfl ?_
  refine o_move ?_
  try dsimp only [putL, setL, evL, getL]
  refine HL_cons rfl ?_
  refine o_extract rfl rfl ?_
  try dsimp only [putL, setL, evL, getL]
  refine HL_cons rfl ?_
  refine o_extract rfl rfl ?_
  try dsimp only [putL, setL, evL, getL]
  refine HL_cons rfl ?_
  refine o_assign ?_
  try dsimp only [putL, setL, evL, getL]
  refine HL_cons rfl ?_
  refine o_assign ?_
  try dsimp only [putL, setL, evL, getL]
  refine HL_nil ?_
  refine hK2 _ _ ?_
  refine HT_seq_k ?_
  intro K6 hK6
  refine HT_region ?_
  refine HL_cons rfl ?_
  refine o_move ?_
  try dsimp only [putL, setL, evL, getL]
  refine HL_cons rfl ?_
  refine o_move ?_
  try dsimp only [putL, setL, evL, getL]
  replace H := headE H
  obtain ⟨u7, hu7, H⟩ := H
  refine HL_cons rfl ?_
  refine o_call (args := #[.slice A4 u3.1.length c4, .slice A5 u3.2.1.length c5]) Try.func68 rfl rfl rfl (spec_DiffOf.ok s3 s3 no A4 c4 u3.1 A5 c5 u3.2.1 (hH.rd 1 rfl) (hH.rd 2 rfl) (Hp.own (Bs.refl s3)) _ hu7) ?_
  rintro _ s7 ⟨A8, c8, rfl, hD⟩
  replace hH := hH.back0T hD
  clear hD
  dsimp only [addC, setC, rmC, selC, getC] at hH
  try dsimp only [putL, setL, evL, getL]
  refine HL_cons rfl ?_
  refine o_move ?_
  try dsimp only [putL, setL, evL, getL]
  refine HL_cons rfl ?_
  refine o_extract rfl rfl ?_
  try dsimp only [putL, setL, evL, getL]
  refine HL_cons rfl ?_
  refine o_extract rfl rfl ?_
  try dsimp only [putL, setL, evL, getL]
  refine HL_cons rfl ?_
  refine o_assign ?_
  try dsimp only [putL, setL, evL, getL]
  refine HL_cons rfl ?_
  refine o_assign ?_
  try dsimp only [putL, setL, evL, getL]
  refine HL_nil ?_
  refine hK6 _ _ ?_
  refine joinH H fun G9 hG9 H => ?_
  refine HT_joinK (fun l' s' => ∃ (x39 : List ((Int) × (List (Int)))) (A39 : Option Addr) (c39 : Nat) (x40 : Int) (x41 : Int), G9 (x39, x40, x41) = some r ∧ l' = [.pointer (some ⟨bp0, 0, none⟩), undef, .slice none 0 0, .slice none 0 0, .slice A4 u3.1.length c4, .slice A5 u3.2.1.length c5, .slice A39 x39.length c39, .bool u7.2, getL l' 8, .tuple #[.slice A4 u3.1.length c4, .slice A5 u3.2.1.length c5], .pointer (some ⟨bp0, 0, none⟩), .tuple #[.slice A4 u3.1.length c4, .slice A5 u3.2.1.length c5], .slice A4 u3.1.length c4, .slice A5 u3.2.1.length c5, .tuple #[.slice A8 u7.1.length c8, .bool u7.2], .slice A4 u3.1.length c4, .slice A5 u3.2.1.length c5, .tuple #[.slice A8 u7.1.length c8, .bool u7.2], .slice A8 u7.1.length c8, .bool u7.2, getL l' 20, getL l' 21, getL l' 22, getL l' 23, getL l' 24, getL l' 25, getL l' 26, getL l' 27, getL l' 28, getL l' 29, getL l' 30, getL l' 31, getL l' 32, getL l' 33, getL l' 34, getL l' 35, getL l' 36, getL l' 37, getL l' 38, getL l' 39, getL l' 40, getL l' 41, getL l' 42, getL l' 43, getL l' 44, getL l' 45, getL l' 46, getL l' 47, getL l' 48, getL l' 49, undef, undef] ∧ Hp sb s F0 s' [Ck.ol OS170 170 A39 c39 x39, Ck.ol OI 3 A4 c4 u3.1, Ck.ov bp0 [.slice A0_0p p0_0.length c0_0p, .int .i64 x40, .int .u64 x41] 113]) ?_ ?_
  · intro K9 hK9
    refine joinH H fun G42 hG42 H => ?_
    refine HT_joinK (fun l' s' => ∃ (x45 : Bool) (x46 : Int) (x47 : Int), G42 (x45, x46, x47) = some r ∧ l' = [.pointer (some ⟨bp0, 0, none⟩), undef, .slice none 0 0, .slice none 0 0, .slice A4 u3.1.length c4, .slice A5 u3.2.1.length c5, .slice A8 u7.1.length c8, .bool u7.2, undef, .tuple #[.slice A4 u3.1.length c4, .slice A5 u3.2.1.length c5], .pointer (some ⟨bp0, 0, none⟩), .tuple #[.slice A4 u3.1.length c4, .slice A5 u3.2.1.length c5], .slice A4 u3.1.length c4, .slice A5 u3.2.1.length c5, .tuple #[.slice A8 u7.1.length c8, .bool u7.2], .slice A4 u3.1.length c4, .slice A5 u3.2.1.length c5, .tuple #[.slice A8 u7.1.length c8, .bool u7.2], .slice A8 u7.1.length c8, .bool u7.2, getL l' 20, getL l' 21, getL l' 22, getL l' 23, getL l' 24, getL l' 25, .bool x45, undef, undef, undef, undef, undef, undef, undef, undef, undef, undef, undef, undef, undef, undef, undef, undef, undef, undef, undef, undef, undef, undef, undef, undef, undef] ∧ Hp sb s F0 s' [Ck.ol OI 3 A4 c4 u3.1, Ck.ol OS170 170 A8 c8 u7.1, Ck.ov bp0 [.slice A0_0p p0_0.length c0_0p, .int .i64 x46, .int .u64 x47] 113]) ?_ ?_
    · intro K42 hK42
      refine HT_region ?_
      refine HL_cons rfl ?_
      refine o_move ?_
      try dsimp only [putL, setL, evL, getL]
      refine HL_cons rfl ?_
      refine o_len rfl Try.underlying85 ?_
      try dsimp only [putL, setL, evL, getL]
      refine HL_cons rfl ?_
      refine o_bin rfl rfl rfl ?_
      try dsimp only [putL, setL, evL, getL]
      refine HL_cons rfl ?_
      refine o_move ?_
      try dsimp only [putL, setL, evL, getL]
      rcases Bool.eq_false_or_eq_true (decide ((u7.1.length : Int) > 0)) with hb48 | hb48
      · replace H := iteT hb48 H
        refine HL_want ?_ ?_
        · exact wantT (j := 3) (b := true) (t := 23) (c := decide ((u7.1.length : Int) > 0)) rfl rfl rfl rfl hb48
        refine o_move ?_
        try dsimp only [putL, setL, evL, getL]
        replace H := headE H
        obtain ⟨u49, hu49, H⟩ := H
        obtain ⟨F1, hA, hB⟩ := hH.take [3] (by decide)
        dsimp only [addC, setC, rmC, selC, getC] at hA
        refine HL_want ?_ ?_
        · exact wantT (j := 3) (b := true) (t := 23) (c := decide ((u7.1.length : Int) > 0)) rfl rfl rfl rfl hb48
        refine o_call (args := #[.pointer (some ⟨bp0, 0, none⟩), .int .i64 4]) Try.func113 rfl rfl rfl (spec_l1Cur_one.ok sb s7 F1 bp0 A0_0p c0_0p p0_0 u3.2.2.1 u3.2.2.2 4 HRp0_0 hA _ hu49) ?_
        rintro _ s49 ⟨rfl, hD⟩
        replace hH := hB _ _ _ (Up.refl _ _ _) hD
        clear hD hA hB
        dsimp only [addC, setC, rmC, selC, getC] at hH
        try dsimp only [putL, setL, evL, getL]
        refine HL_cons rfl ?_
        refine o_pickT rfl hb48 ?_
        try dsimp only [putL, setL, evL, getL]
        refine HL_nil ?_
        exact hK42 _ _ ⟨u49.1, u49.2.1, u49.2.2, H, rfl, hH.sel [1, 4, 5] (by decide)⟩
      · replace H := iteF hb48 H
        refine HL_skip ?_ ?_
        · exact wantF (j := 3) (b := true) (t := 23) (c := decide ((u7.1.length : Int) > 0)) rfl rfl rfl rfl hb48
        try dsimp only [putL, setL, evL, getL]
        refine HL_skip ?_ ?_
        · exact wantF (j := 3) (b := true) (t := 23) (c := decide ((u7.1.length : Int) > 0)) rfl rfl rfl rfl hb48
        try dsimp only [putL, setL, evL, getL]
        refine HL_cons rfl ?_
        refine o_pickF rfl hb48 ?_
        try dsimp only [putL, setL, evL, getL]
        refine HL_nil ?_
        exact hK42 _ _ ⟨false, u3.2.2.1, u3.2.2.2, H, rfl, hH.sel [1, 4, 3] (by decide)⟩
    · rintro l' s50 ⟨x45, x46, x47, H, hl, hH⟩
      generalize getL l' 20 = j20, getL l' 21 = j21, getL l' 22 = j22, getL l' 23 = j23, getL l' 24 = j24, getL l' 25 = j25 at hl
      subst hl
      replace H := hG42 _ H
      try dsimp only at H
      rcases Bool.eq_false_or_eq_true x45 with hb51 | hb51
      · replace H := iteT hb51 H
        refine HT_true (congrArg Value.bool hb51) ?_
        refine HT_seq_k ?_
        intro K52 hK52
        refine HT_region ?_
        refine HL_cons rfl ?_
        refine o_move ?_
        try dsimp only [putL, setL, evL, getL]
        refine HL_cons rfl ?_
        refine o_move ?_
        try dsimp only [putL, setL, evL, getL]
        refine HL_cons rfl ?_
        refine o_len rfl Try.underlying85 ?_
        try dsimp only [putL, setL, evL, getL]
        replace H := headE H
        obtain ⟨u53, hu53, H⟩ := H
        obtain ⟨F1, hA, hB⟩ := hH.take [2] (by decide)
        dsimp only [addC, setC, rmC, selC, getC] at hA
        refine HL_cons rfl ?_
        refine o_call (args := #[.pointer (some ⟨bp0, 0, none⟩), .int .i64 (u7.1.length : Int)]) Try.func112 rfl rfl rfl (spec_l1Cur_pick.ok sb s50 F1 bp0 A0_0p c0_0p p0_0 x46 x47 (u7.1.length : Int) HRp0_0 hA _ hu53) ?_
        rintro _ s53 ⟨rfl, hD⟩
        replace hH := hB _ _ _ (Up.refl _ _ _) hD
        clear hD hA hB
        dsimp only [addC, setC, rmC, selC, getC] at hH
        try dsimp only [putL, setL, evL, getL]
        refine HL_cons rfl ?_
        refine o_assign ?_
        try dsimp only [putL, setL, evL, getL]
        refine HL_nil ?_
        refine hK52 _ _ ?_
        refine HT_seq_k ?_
        intro K54 hK54
        refine HT_region ?_
        refine HL_cons rfl ?_
        refine o_move ?_
        try dsimp only [putL, setL, evL, getL]
        replace H := headE H
        obtain ⟨u55, hu55, H⟩ := H
        obtain ⟨F1, hA, hB⟩ := hH.take [3] (by decide)
        dsimp only [addC, setC, rmC, selC, getC] at hA
        refine HL_cons rfl ?_
        refine o_call (args := #[.pointer (some ⟨bp0, 0, none⟩), .int .i64 3]) Try.func112 rfl rfl rfl (spec_l1Cur_pick.ok sb s53 F1 bp0 A0_0p c0_0p p0_0 u53.2.1 u53.2.2 3 HRp0_0 hA _ hu55) ?_
        rintro _ s55 ⟨rfl, hD⟩
        replace hH := hB _ _ _ (Up.refl _ _ _) hD
        clear hD hA hB
        dsimp only [addC, setC, rmC, selC, getC] at hH
        try dsimp only [putL, setL, evL, getL]
        refine HL_nil ?_
        refine hK54 _ _ ?_
        refine HT_block ?_
        refine HT_seq_k ?_
        intro K56 hK56
        refine HT_region ?_
        refine HL_cons rfl ?_
        refine o_bin rfl rfl rfl ?_
        try dsimp only [putL, setL, evL, getL]
        refine HL_cons rfl ?_
        refine o_assign ?_
        try dsimp only [putL, setL, evL, getL]
        refine HL_nil ?_
        refine hK56 _ _ ?_
        rcases Bool.eq_false_or_eq_true (u55.1 == 0) with hb57 | hb57
        · replace H := iteT hb57 H
          refine HT_true (congrArg Value.bool hb57) ?_
          refine HT_region ?_
          refine HL_cons rfl ?_
          refine o_move ?_
          try dsimp only [putL, setL, evL, getL]
          refine HL_cons rfl ?_
          refine o_move ?_
          try dsimp only [putL, setL, evL, getL]
          refine HL_cons rfl ?_
          refine o_move ?_
          try dsimp only [putL, setL, evL, getL]
          replace H := headE H
          obtain ⟨u58, hu58, H⟩ := H
          obtain ⟨F1, hA, hB⟩ := hH.take [4] (by decide)
          dsimp only [addC, setC, rmC, selC, getC] at hA
          refine HL_cons rfl ?_
          refine o_call (args := #[.pointer (some ⟨bp0, 0, none⟩), .int .i64 5]) Try.func112 rfl rfl rfl (spec_l1Cur_pick.ok sb s55 F1 bp0 A0_0p c0_0p p0_0 u55.2.1 u55.2.2 5 HRp0_0 hA _ hu58) ?_
          rintro _ s58 ⟨rfl, hD⟩
          replace hH := hB _ _ _ (Up.refl _ _ _) hD
          clear hD hA hB
          dsimp only [addC, setC, rmC, selC, getC] at hH
          try dsimp only [putL, setL, evL, getL]
          replace H := headE H
          obtain ⟨u59, hu59, H⟩ := H
          obtain ⟨b59, o59, cs59, hA59, hr59, hh59, hel59⟩ := hH.elo 1 rfl hu59
          obtain ⟨_, _, rfl, rfl, ⟨A60, c60, rfl, D60⟩⟩ := hr59
          refine HL_cons rfl ?_
          refine hel59 s58 rfl rfl Try.underlying85 tI170 ?_
          try dsimp only [putL, setL, evL, getL]
          refine HL_cons rfl ?_
          refine o_faddr' (ft := 3) (off := 0) rfl Try.underlying170 rfl tI3 (by decide) ?_
          try dsimp only [putL, setL, evL, getL]
          replace H := headE H
          obtain ⟨x61, hx61, H⟩ := H
          refine HL_cons rfl ?_
          refine o_setf (u := u59) (u' := (u58.1, u59.2)) (off := 0) hH 1 rfl rfl rfl rfl tI3 hA59 hu59 (Fup.left Fup.int) hx61 ?_
          intro s61 hH'
          have hl61 := st?_len hx61
          replace hH : Hp sb s F0 s61 [Ck.ol OI 3 A4 c4 u3.1, Ck.ol OS170 170 A8 c8 x61, Ck.emp, Ck.emp, Ck.emp, Ck.ov bp0 [.slice A0_0p p0_0.length c0_0p, .int .i64 u58.2.1, .int .u64 u58.2.2] 113] := hH'
          clear hH'
          try dsimp only [putL, setL, evL, getL]
          refine HL_nil ?_
          exact hK9 _ _ ⟨x61, A8, c8, u58.2.1, u58.2.2, H, (by first | (rw [hl61]; first | done | rfl) | rfl), hH.sel [1, 0, 5] (by decide)⟩
        · replace H := iteF hb57 H
          refine HT_false (congrArg Value.bool hb57) ?_
          refine HT_seq_k ?_
          intro K62 hK62
          refine HT_region ?_
          refine HL_cons rfl ?_
          refine o_bin rfl rfl rfl ?_
          try dsimp only [putL, setL, evL, getL]
          refine HL_cons rfl ?_
          refine o_assign ?_
          try dsimp only [putL, setL, evL, getL]
          refine HL_nil ?_
          refine hK62 _ _ ?_
          rcases Bool.eq_false_or_eq_true (u55.1 == 1) with hb63 | hb63
          · replace H := iteT hb63 H
            refine HT_true (congrArg Value.bool hb63) ?_
            refine HT_region ?_
            refine HL_cons rfl ?_
            refine o_move ?_
            try dsimp only [putL, setL, evL, getL]
            refine HL_cons rfl ?_
            refine o_move ?_
            try dsimp only [putL, setL, evL, getL]
            replace H := headE H
            obtain ⟨x64, hx64, H⟩ := H
            refine HL_cons rfl ?_
            refine o_cutA (xs := u7.1) (kl := .i64) (kh := .i64) (L := 0) (H := u53.1) rfl rfl rfl Try.underlying85 tI170 (hH.rd 1 rfl).1 hx64 ?_
            have D64 := @Der.cut _ _ OS170 170 A8 c8 _ _ _ _ hx64
            try dsimp only [putL, setL, evL, getL]
            refine HL_cons rfl ?_
            refine o_assign ?_
            try dsimp only [putL, setL, evL, getL]
            refine HL_nil ?_
            exact hK9 _ _ ⟨x64, (cutA A8 c8 (Int.toNat 0) (Kd.sz KS170)), c8 - Int.toNat 0, u55.2.1, u55.2.2, H, rfl, (hH.cut 1 rfl rfl hx64).sel [1, 0, 4] (by decide)⟩
          · replace H := iteF hb63 H
            refine HT_false (congrArg Value.bool hb63) ?_
            refine HT_region ?_
            refine HL_cons rfl ?_
            refine o_move ?_
            try dsimp only [putL, setL, evL, getL]
            refine HL_cons rfl ?_
            refine o_move ?_
            try dsimp only [putL, setL, evL, getL]
            replace H := headE H
            obtain ⟨u65, hu65, H⟩ := H
            obtain ⟨b65, o65, vs65, hA65, -, hH⟩ := hH.open 1 rfl rfl hu65
            dsimp only [addC, setC, rmC, selC, getC] at hH
            obtain ⟨v66, v67, rfl, hH⟩ := hH.el_pair 5 rfl rfl
            dsimp only [addC, setC, rmC, selC, getC] at hH
            obtain rfl := hH.el_rep 5 rfl
            replace hH := hH.drop 5 rfl
            dsimp only [addC, setC, rmC, selC, getC] at hH
            obtain ⟨A68, c68, rfl, hH⟩ := hH.el_sl 6 rfl rfl
            dsimp only [addC, setC, rmC, selC, getC] at hH
            replace hH : Hp sb s F0 s55 [Ck.ol OI 3 A4 c4 u3.1, Ck.oh OS170 170 A8 c8 u7.1 (Int.toNat u53.1) [.int .i64 u65.1, .slice A68 u65.2.length c68], Ck.emp, Ck.emp, Ck.ov bp0 [.slice A0_0p p0_0.length c0_0p, .int .i64 u55.2.1, .int .u64 u55.2.2] 113, Ck.emp, Ck.ol OI 3 A68 c68 u65.2] := hH
            refine HL_cons rfl ?_
            refine iaddr_of (K := KS170) hA65 hu65 s55 rfl rfl Try.underlying85 tI170 ?_
            try dsimp only [putL, setL, evL, getL]
            refine HL_cons rfl ?_
            refine o_faddr' (ft := 24) (off := 1) rfl Try.underlying170 rfl tI24 (by decide) ?_
            try dsimp only [putL, setL, evL, getL]
            refine HL_cons rfl ?_
            refine o_seth (off := 1) (vs' := [.int .i64 u65.1, .slice none 0 0]) hH 1 rfl rfl rfl rfl rfl tI24 hA65 rfl rfl ?_
            intro s69 hH'
            replace hH : Hp sb s F0 s69 [Ck.ol OI 3 A4 c4 u3.1, Ck.oh OS170 170 A8 c8 u7.1 (Int.toNat u53.1) [.int .i64 u65.1, .slice none 0 0], Ck.emp, Ck.emp, Ck.ov bp0 [.slice A0_0p p0_0.length c0_0p, .int .i64 u55.2.1, .int .u64 u55.2.2] 113, Ck.emp, Ck.ol OI 3 A68 c68 u65.2] := hH'
            clear hH'
            try dsimp only [putL, setL, evL, getL]
            refine HL_nil ?_
            replace hH := hH.conv [] (by decide) (d := Ck.el OS170 [.int .i64 u65.1, .slice none 0 0] (u65.1, [])) (Ent.pair (v1 := [.int .i64 u65.1]) (v2 := [.slice none 0 0]) (x1 := u65.1) (x2 := []) (Ent.flat rfl) Ent.nil)
            dsimp only [addC, setC, rmC, selC, getC] at hH
            replace H := headE H
            obtain ⟨x70, hx70, H⟩ := H
            replace hH := hH.close (i := u53.1) 1 7 (by decide) rfl rfl rfl hx70
            dsimp only [addC, setC, rmC, selC, getC] at hH
            have hl70 := st?_len hx70
            replace hH : Hp sb s F0 s69 [Ck.ol OI 3 A4 c4 u3.1, Ck.ol OS170 170 A8 c8 x70, Ck.emp, Ck.emp, Ck.ov bp0 [.slice A0_0p p0_0.length c0_0p, .int .i64 u55.2.1, .int .u64 u55.2.2] 113, Ck.emp, Ck.ol OI 3 A68 c68 u65.2, Ck.emp] := hH
            exact hK9 _ _ ⟨x70, A8, c8, u55.2.1, u55.2.2, H, (by first | (rw [hl70]; first | done | rfl) | rfl), hH.sel [1, 0, 4] (by decide)⟩
      · replace H := iteF hb51 H
        refine HT_false (congrArg Value.bool hb51) ?_
        refine HT_skip ?_
        exact hK9 _ _ ⟨u7.1, A8, c8, x46, x47, H, rfl, hH.sel [1, 0, 2] (by decide)⟩
  · rintro l' s71 ⟨x39, A39, c39, x40, x41, H, hl, hH⟩
    generalize getL l' 8 = j8, getL l' 20 = j20, getL l' 21 = j21, getL l' 22 = j22, getL l' 23 = j23, getL l' 24 = j24, getL l' 25 = j25, getL l' 26 = j26, getL l' 27 = j27, getL l' 28 = j28, getL l' 29 = j29, getL l' 30 = j30, getL l' 31 = j31, getL l' 32 = j32, getL l' 33 = j33, getL l' 34 = j34, getL l' 35 = j35, getL l' 36 = j36, getL l' 37 = j37, getL l' 38 = j38, getL l' 39 = j39, getL l' 40 = j40, getL l' 41 = j41, getL l' 42 = j42, getL l' 43 = j43, getL l' 44 = j44, getL l' 45 = j45, getL l' 46 = j46, getL l' 47 = j47, getL l' 48 = j48, getL l' 49 = j49 at hl
    subst hl
    replace H := hG9 _ H
    try dsimp only at H
    refine HT_seq_k ?_
    intro K72 hK72
    refine HT_region ?_
    refine HL_cons rfl ?_
    refine o_move ?_
    try dsimp only [putL, setL, evL, getL]
    refine HL_cons rfl ?_
    refine o_move ?_
    try dsimp only [putL, setL, evL, getL]
    refine HL_cons rfl ?_
    refine o_assign ?_
    try dsimp only [putL, setL, evL, getL]
    refine HL_cons rfl ?_
    refine o_assign ?_
    try dsimp only [putL, setL, evL, getL]
    refine HL_nil ?_
    refine hK72 _ _ ?_
    refine HT_ret ?_
    exact hQr _ _ [.slice A4 u3.1.length c4, .slice A39 x39.length c39] ⟨rfl, rfl, trivial⟩ (retH (fun r => spec_l1Cur_edits.post sb s F0 bp0 A0_0p c0_0p p0_0 r _ _) (show some _ = some r from H) ⟨A4, c4, A39, c39, rfl, hH.sel [1, 0, 2] (by decide)⟩)
def spec_DrawApplyDiff.f (p0 : List (Int)) : Option ((List (Int)) × (List ((Int) × (List (Int))))) := (spec_l1Cur_edits.f p0 0 0).bind fun u5 => some (u5.1, u5.2.1)
def spec_DrawApplyDiff.post (sb s : St) (F0 : Fp) (r : (List (Int)) × (List ((Int) × (List (Int))))) : Value → St → Prop := fun v s' => ∃ (A0 : Option Addr) (c0 : Nat) (A1 : Option Addr) (c1 : Nat), v = .tuple #[.slice A0 r.1.length c0, .slice A1 r.2.length c1] ∧ Hp sb s F0 s' [Ck.ol OI 3 A0 c0 r.1, Ck.ol OS170 170 A1 c1 r.2]
set_option maxRecDepth 100000 in
set_option maxHeartbeats 4000000 in
theorem spec_DrawApplyDiff.ok (sb s : St) (F0 : Fp) (A0p : Option Addr) (c0p : Nat) (p0 : List (Int)) (HRp0 : Rd (Kd.int .u8) sb A0p c0p p0) (hH : Hp sb s F0 s []) (r : (List (Int)) × (List ((Int) × (List (Int))))) (H : spec_DrawApplyDiff.f p0 = some r) : GCall Try.prog 74 #[.slice A0p p0.length c0p] s (spec_DrawApplyDiff.post sb s F0 r) := by
  refine GCall_ofk [.tmp 2, .tmp 3] [.slice A0p p0.length c0p, undef, undef, undef, undef, undef, undef, undef, undef, undef, undef, undef] Try.func74 rfl rfl rfl ?_
  intro w Q hQr hQn hQp
  replace H := topE H
  unfold spec_DrawApplyDiff.f at H
  refine HT_seq_k ?_
  intro K1 hK1
  refine HT_region ?_
  refine HL_cons rfl ?_
  refine o_assign ?_
  try dsimp only [putL, setL, evL, getL]
  refine HL_cons rfl ?_
  refine o_assign ?_
  try dsimp only [putL, setL, evL, getL]
  refine HL_nil ?_
  refine hK1 _ _ ?_
  refine HT_seq_k ?_
  intro K2 hK2
  refine HT_region ?_
  refine HL_cons rfl ?_
  refine o_move ?_
  try dsimp only [putL, setL, evL, getL]
  refine HL_cons rfl ?_
  refine o_build (pl := [(0, 1), (1, 1), (2, 1)]) (cs := #[.slice A0p p0.length c0p, .int .i64 0, .int .u64 0]) Try.underlying113 tI113 (by kernel_rfl) (by kernel_rfl) rfl ?_
  try dsimp only [putL, setL, evL, getL]
  refine HL_cons rfl ?_
  refine o_boxH hH rfl ?_
  intro b3 s3 hH' hG
  replace hH : Hp sb s F0 s3 [Ck.ov b3 [.slice A0p p0.length c0p, .int .i64 0, .int .u64 0] 113] := hH'
  clear hH' hG
  try dsimp only [putL, setL, evL, getL]
  refine HL_cons rfl ?_
  refine o_assign ?_
  try dsimp only [putL, setL, evL, getL]
  refine HL_nil ?_
  refine hK2 _ _ ?_
  refine HT_seq_k ?_
  intro K4 hK4
  refine HT_region ?_
  refine HL_cons rfl ?_
  refine o_move ?_
  try dsimp only [putL, setL, evL, getL]
  replace H := headE H
  obtain ⟨u5, hu5, H⟩ := H
  obtain ⟨F1, hA, hB⟩ := hH.take [0] (by decide)
  dsimp only [addC, setC, rmC, selC, getC] at hA
  refine HL_cons rfl ?_
  refine o_call (args := #[.pointer (some ⟨b3, 0, none⟩)]) Try.func163 rfl rfl rfl (spec_l1Cur_edits.ok sb s3 F1 b3 A0p c0p p0 0 0 HRp0 hA _ hu5) ?_
  rintro _ s5 ⟨A6, c6, A7, c7, rfl, hD⟩
  replace hH := hB _ _ _ (Up.refl _ _ _) hD
  clear hD hA hB
  dsimp only [addC, setC, rmC, selC, getC] at hH
  try dsimp only [putL, setL, evL, getL]
  refine HL_cons rfl ?_
  refine o_extract rfl rfl ?_
  try dsimp only [putL, setL, evL, getL]
  refine HL_cons rfl ?_
  refine o_extract rfl rfl ?_
  try dsimp only [putL, setL, evL, getL]
  refine HL_cons rfl ?_
  refine o_assign ?_
  try dsimp only [putL, setL, evL, getL]
  refine HL_cons rfl ?_
  refine o_assign ?_
  try dsimp only [putL, setL, evL, getL]
  refine HL_nil ?_
  refine hK4 _ _ ?_
  refine HT_ret ?_
  exact hQr _ _ [.slice A6 u5.1.length c6, .slice A7 u5.2.1.length c7] ⟨rfl, rfl, trivial⟩ (retH (fun r => spec_DrawApplyDiff.post sb s F0 r _ _) (show some _ = some r from H) ⟨A6, c6, A7, c7, rfl, hH.sel [1, 2] (by decide)⟩)
def spec_l15Edits.l1 (p0 : List ((Int) × (List (Int)))) : Nat → Int → Option (Lo Unit Bool)
  | 0, _ => none
  | kf + 1, x172 => if (decide (x172 < (p0.length : Int))) = true then ((rd? p0 x172).bind fun u240 => ((spec_l1In.f u240.1 1 3).bind fun u250 => if (!u250) = true then (some true) else (if ((u240.2.length : Int) == 0) = true then (some true) else ((spec_l15List.f u240.2).bind fun u253 => some (!u253)))).bind fun (o : Bool) => match o with | x249 => (if x249 = true then ((some false).bind fun z => some (Lo.ret z)) else (spec_l15Edits.l1 p0 kf (IntKind.i64.wrap (x172 + 1))))) else (some (Lo.go ()))
def spec_l15Edits.f (p0 : List ((Int) × (List (Int)))) : Option Bool := (spec_l15Edits.l1 p0 ((((p0.length : Int)) - (0)).toNat + 2) 0).bind fun (o : Lo Unit Bool) => match o with | .go () => (some (decide ((p0.length : Int) ≤ 120))) | .ret z => some z
def spec_l15Edits.post (sb s : St) (F0 : Fp) (r : Bool) : Value → St → Prop := fun v s' => v = .bool r ∧ Hp sb s F0 s' []
set_option maxRecDepth 100000 in
set_option maxHeartbeats 4000000 in
theorem spec_l15Edits.ok (sb s : St) (F0 : Fp) (A0p : Option Addr) (c0p : Nat) (p0 : List ((Int) × (List (Int)))) (HRp0 : Rd KS170 sb A0p c0p p0) (hH : Hp sb s F0 s []) (r : Bool) (H : spec_l15Edits.f p0 = some r) : GCall Try.prog 164 #[.slice A0p p0.length c0p] s (spec_l15Edits.post sb s F0 r) := by
  refine GCall_ofk [.tmp 2] [.slice A0p p0.length c0p, undef, undef, undef, undef, undef, undef, undef, undef, undef, undef, undef, undef, undef, undef, undef, undef, undef, undef, undef, undef, undef, undef, undef, undef, undef, undef, undef, undef, undef, undef] Try.func164 rfl rfl rfl ?_
  intro w Q hQr hQn hQp
  replace H := topE H
  unfold spec_l15Edits.f at H
  refine HT_seq_k ?_
  intro K1 hK1
  refine HT_region ?_
  refine HL_cons rfl ?_
  refine o_assign ?_
  try dsimp only [putL, setL, evL, getL]
  refine HL_nil ?_
  refine hK1 _ _ ?_
  refine HT_seq_k ?_
  intro K2 hK2
  refine HT_seq_k ?_
  intro K3 hK3
  refine HT_region ?_
  refine HL_cons rfl ?_
  refine o_move ?_
  try dsimp only [putL, setL, evL, getL]
  refine HL_cons rfl ?_
  refine o_len rfl Try.underlying85 ?_
  try dsimp only [putL, setL, evL, getL]
  refine HL_cons rfl ?_
  refine o_move ?_
  try dsimp only [putL, setL, evL, getL]
  refine HL_nil ?_
  refine hK3 _ _ ?_
  refine joinH H fun G4 hG4 H => ?_
  refine HT_toK (fun l' s' => G4 (.go ()) = some r ∧ l' = [.slice A0p p0.length c0p, undef, getL l' 2, undef, getL l' 4, .slice A0p p0.length c0p, .int .i64 (p0.length : Int), getL l' 7, getL l' 8, getL l' 9, getL l' 10, getL l' 11, getL l' 12, getL l' 13, getL l' 14, getL l' 15, getL l' 16, getL l' 17, getL l' 18, getL l' 19, getL l' 20, getL l' 21, getL l' 22, getL l' 23, getL l' 24, getL l' 25, getL l' 26, getL l' 27, undef, undef, undef] ∧ Hp sb s F0 s' []) ?_ ?_
  · intro K4 hK4
    refine HT_block ?_
    refine HT_loopK (fun kf l' s' => ∃ (x172 : Int), (spec_l15Edits.l1 p0 kf x172).bind G4 = some r ∧ l' = [.slice A0p p0.length c0p, undef, getL l' 2, undef, getL l' 4, .slice A0p p0.length c0p, .int .i64 (p0.length : Int), .int .i64 x172, getL l' 8, getL l' 9, getL l' 10, getL l' 11, getL l' 12, getL l' 13, getL l' 14, getL l' 15, getL l' 16, getL l' 17, getL l' 18, getL l' 19, getL l' 20, getL l' 21, getL l' 22, getL l' 23, getL l' 24, getL l' 25, getL l' 26, getL l' 27, undef, undef, undef] ∧ Hp sb s F0 s' []) ((((p0.length : Int)) - (0)).toNat + 2) ⟨0, H, rfl, hH⟩ ?_
    rintro kf l' s215 ⟨x172, H, hl, hH⟩ K215 hK215
    generalize getL l' 2 = j2, getL l' 4 = j4, getL l' 8 = j8, getL l' 9 = j9, getL l' 10 = j10, getL l' 11 = j11, getL l' 12 = j12, getL l' 13 = j13, getL l' 14 = j14, getL l' 15 = j15, getL l' 16 = j16, getL l' 17 = j17, getL l' 18 = j18, getL l' 19 = j19, getL l' 20 = j20, getL l' 21 = j21, getL l' 22 = j22, getL l' 23 = j23, getL l' 24 = j24, getL l' 25 = j25, getL l' 26 = j26, getL l' 27 = j27 at hl
    subst hl
    cases kf with
    | zero => simp [spec_l15Edits.l1] at H
    | succ kf =>
      rw [spec_l15Edits.l1] at H
      refine HT_seq_k ?_
      intro K216 hK216
      refine HT_region ?_
      refine HL_cons rfl ?_
      refine o_bin rfl rfl rfl ?_
      try dsimp only [putL, setL, evL, getL]
      refine HL_nil ?_
      refine hK216 _ _ ?_
      refine HT_seq_k ?_
      intro K217 hK217
      rcases Bool.eq_false_or_eq_true (decide (x172 < (p0.length : Int))) with hb218 | hb218
      · replace H := iteT hb218 H
        refine HT_true (congrArg Value.bool hb218) ?_
        refine HT_skip ?_
        refine hK217 _ _ ?_
        refine HT_seq_k ?_
        intro K238 hK238
        refine HT_block ?_
        refine HT_seq_k ?_
        intro K239 hK239
        refine HT_region ?_
        replace H := headE H
        obtain ⟨u240, hu240, H⟩ := H
        obtain ⟨b240, o240, cs240, hr240, hh240, hel240⟩ := Rd.elb HRp0 hu240
        obtain ⟨_, _, rfl, rfl, ⟨A241, c241, rfl, D241⟩⟩ := hr240
        refine HL_cons rfl ?_
        refine hel240 s215 rfl rfl Try.underlying85 tI170 ?_
        try dsimp only [putL, setL, evL, getL]
        refine HL_cons rfl ?_
        refine o_loads' [.int .i64 u240.1, .slice A241 u240.2.length c241] rfl Try.underlying170 rfl tI170 rfl (fun j v hj => (hh240 hH.bs.mono) j v hj) ?_
        try dsimp only [putL, setL, evL, getL]
        refine HL_cons rfl ?_
        refine o_allocH hH tI170 ?_
        intro b242 s242 hH' hG
        replace hH : Hp sb s F0 s242 [Ck.ov b242 [.int .i64 0, .slice none 0 0] 170] := hH'
        clear hH' hG
        try dsimp only [putL, setL, evL, getL]
        refine HL_cons rfl ?_
        refine o_stvH (vs := [.int .i64 u240.1, .slice A241 u240.2.length c241]) (us' := [.int .i64 u240.1, .slice A241 u240.2.length c241]) hH 0 rfl rfl rfl rfl rfl tI170 rfl (List.cons_ne_nil _ _) rfl rfl rfl ?_
        intro s243 hH'
        replace hH : Hp sb s F0 s243 [Ck.ov b242 [.int .i64 u240.1, .slice A241 u240.2.length c241] 170] := hH'
        clear hH'
        try dsimp only [putL, setL, evL, getL]
        refine HL_nil ?_
        refine hK239 _ _ ?_
        refine joinH H fun G244 hG244 H => ?_
        refine HT_joinK (fun l' s' => ∃ (x249 : Bool), G244 x249 = some r ∧ l' = [.slice A0p p0.length c0p, undef, j2, undef, .pointer (some ⟨b242, 0, none⟩), .slice A0p p0.length c0p, .int .i64 (p0.length : Int), .int .i64 x172, .bool (decide (x172 < (p0.length : Int))), .pointer (some ⟨b240, o240, none⟩), .agg #[.int .i64 u240.1, .slice A241 u240.2.length c241], getL l' 11, getL l' 12, getL l' 13, getL l' 14, getL l' 15, getL l' 16, getL l' 17, getL l' 18, getL l' 19, getL l' 20, getL l' 21, getL l' 22, getL l' 23, getL l' 24, getL l' 25, .bool x249, j27, undef, undef, undef] ∧ Hp sb s F0 s' []) ?_ ?_
        · intro K244 hK244
          refine HT_region ?_
          refine HL_cons rfl ?_
          refine o_faddr' (ft := 3) (off := 0) rfl Try.underlying170 rfl tI3 (by decide) ?_
          try dsimp only [putL, setL, evL, getL]
          refine HL_cons rfl ?_
          refine o_load' rfl Try.underlying3 rfl (hH.hasv 0 rfl rfl) ?_
          try dsimp only [putL, setL, evL, getL]
          replace H := headE H
          obtain ⟨u250, hu250, H⟩ := H
          refine HL_cons rfl ?_
          refine o_call (args := #[.int .i64 u240.1, .int .i64 1, .int .i64 3]) Try.func108 rfl rfl rfl (spec_l1In.ok sb s243 no u240.1 1 3 (Hp.own hH.bs) _ hu250) ?_
          rintro _ s250 ⟨rfl, hD⟩
          replace hH := hH.back0 hD (Up.refl _ _ _)
          clear hD
          dsimp only [addC, setC, rmC, selC, getC] at hH
          try dsimp only [putL, setL, evL, getL]
          refine HL_cons rfl ?_
          refine o_not rfl ?_
          try dsimp only [putL, setL, evL, getL]
          refine HL_cons rfl ?_
          refine o_move ?_
          try dsimp only [putL, setL, evL, getL]
          rcases Bool.eq_false_or_eq_true (!u250) with hb251 | hb251
          · replace H := iteT hb251 H
            refine HL_skip ?_ ?_
            · exact wantF (j := 4) (b := false) (t := 15) (c := !u250) rfl rfl rfl rfl hb251
            try dsimp only [putL, setL, evL, getL]
            refine HL_skip ?_ ?_
            · exact wantF (j := 4) (b := false) (t := 15) (c := !u250) rfl rfl rfl rfl hb251
            try dsimp only [putL, setL, evL, getL]
            refine HL_skip ?_ ?_
            · exact wantF (j := 4) (b := false) (t := 15) (c := !u250) rfl rfl rfl rfl hb251
            try dsimp only [putL, setL, evL, getL]
            refine HL_skip ?_ ?_
            · exact wantF (j := 4) (b := false) (t := 15) (c := !u250) rfl rfl rfl rfl hb251
            try dsimp only [putL, setL, evL, getL]
            refine HL_cons rfl ?_
            refine o_pickT rfl hb251 ?_
            try dsimp only [putL, setL, evL, getL]
            refine HL_cons rfl ?_
            refine o_move ?_
            try dsimp only [putL, setL, evL, getL]
            refine HL_skip ?_ ?_
            · exact wantF (j := 10) (b := false) (t := 21) (c := true) rfl rfl rfl rfl rfl
            try dsimp only [putL, setL, evL, getL]
            refine HL_skip ?_ ?_
            · exact wantF (j := 10) (b := false) (t := 21) (c := true) rfl rfl rfl rfl rfl
            try dsimp only [putL, setL, evL, getL]
            refine HL_skip ?_ ?_
            · exact wantF (j := 10) (b := false) (t := 21) (c := true) rfl rfl rfl rfl rfl
            try dsimp only [putL, setL, evL, getL]
            refine HL_skip ?_ ?_
            · exact wantF (j := 10) (b := false) (t := 21) (c := true) rfl rfl rfl rfl rfl
            try dsimp only [putL, setL, evL, getL]
            refine HL_cons rfl ?_
            refine o_pickT rfl rfl ?_
            try dsimp only [putL, setL, evL, getL]
            refine HL_nil ?_
            exact hK244 _ _ ⟨true, H, rfl, hH.sel [] (by decide)⟩
          · replace H := iteF hb251 H
            refine HL_want ?_ ?_
            · exact wantT (j := 4) (b := false) (t := 15) (c := !u250) rfl rfl rfl rfl hb251
            refine o_faddr' (ft := 24) (off := 1) rfl Try.underlying170 rfl tI24 (by decide) ?_
            try dsimp only [putL, setL, evL, getL]
            refine HL_want ?_ ?_
            · exact wantT (j := 4) (b := false) (t := 15) (c := !u250) rfl rfl rfl rfl hb251
            refine o_load' rfl Try.underlying24 rfl (hH.hasv 0 rfl rfl) ?_
            try dsimp only [putL, setL, evL, getL]
            refine HL_want ?_ ?_
            · exact wantT (j := 4) (b := false) (t := 15) (c := !u250) rfl rfl rfl rfl hb251
            refine o_len rfl Try.underlying24 ?_
            try dsimp only [putL, setL, evL, getL]
            refine HL_want ?_ ?_
            · exact wantT (j := 4) (b := false) (t := 15) (c := !u250) rfl rfl rfl rfl hb251
            refine o_bin rfl rfl rfl ?_
            try dsimp only [putL, setL, evL, getL]
            refine HL_cons rfl ?_
            refine o_pickF rfl hb251 ?_
            try dsimp only [putL, setL, evL, getL]
            refine HL_cons rfl ?_
            refine o_move ?_
            try dsimp only [putL, setL, evL, getL]
            rcases Bool.eq_false_or_eq_true ((u240.2.length : Int) == 0) with hb252 | hb252
            · replace H := iteT hb252 H
              refine HL_skip ?_ ?_
              · exact wantF (j := 10) (b := false) (t := 21) (c := (u240.2.length : Int) == 0) rfl rfl rfl rfl hb252
              try dsimp only [putL, setL, evL, getL]
              refine HL_skip ?_ ?_
              · exact wantF (j := 10) (b := false) (t := 21) (c := (u240.2.length : Int) == 0) rfl rfl rfl rfl hb252
              try dsimp only [putL, setL, evL, getL]
              refine HL_skip ?_ ?_
              · exact wantF (j := 10) (b := false) (t := 21) (c := (u240.2.length : Int) == 0) rfl rfl rfl rfl hb252
              try dsimp only [putL, setL, evL, getL]
              refine HL_skip ?_ ?_
              · exact wantF (j := 10) (b := false) (t := 21) (c := (u240.2.length : Int) == 0) rfl rfl rfl rfl hb252
              try dsimp only [putL, setL, evL, getL]
              refine HL_cons rfl ?_
              refine o_pickT rfl hb252 ?_
              try dsimp only [putL, setL, evL, getL]
              refine HL_nil ?_
              exact hK244 _ _ ⟨true, H, rfl, hH.sel [] (by decide)⟩
            · replace H := iteF hb252 H
              refine HL_want ?_ ?_
              · exact wantT (j := 10) (b := false) (t := 21) (c := (u240.2.length : Int) == 0) rfl rfl rfl rfl hb252
              refine o_faddr' (ft := 24) (off := 1) rfl Try.underlying170 rfl tI24 (by decide) ?_
              try dsimp only [putL, setL, evL, getL]
              refine HL_want ?_ ?_
              · exact wantT (j := 10) (b := false) (t := 21) (c := (u240.2.length : Int) == 0) rfl rfl rfl rfl hb252
              refine o_load' rfl Try.underlying24 rfl (hH.hasv 0 rfl rfl) ?_
              try dsimp only [putL, setL, evL, getL]
              replace H := headE H
              obtain ⟨u253, hu253, H⟩ := H
              refine HL_want ?_ ?_
              · exact wantT (j := 10) (b := false) (t := 21) (c := (u240.2.length : Int) == 0) rfl rfl rfl rfl hb252
              refine o_call (args := #[.slice A241 u240.2.length c241]) Try.func101 rfl rfl rfl (spec_l15List.ok sb s250 no A241 c241 u240.2 D241 (Hp.own hH.bs) _ hu253) ?_
              rintro _ s253 ⟨rfl, hD⟩
              replace hH := hH.back0 hD (Up.refl _ _ _)
              clear hD
              dsimp only [addC, setC, rmC, selC, getC] at hH
              try dsimp only [putL, setL, evL, getL]
              refine HL_want ?_ ?_
              · exact wantT (j := 10) (b := false) (t := 21) (c := (u240.2.length : Int) == 0) rfl rfl rfl rfl hb252
              refine o_not rfl ?_
              try dsimp only [putL, setL, evL, getL]
              refine HL_cons rfl ?_
              refine o_pickF rfl hb252 ?_
              try dsimp only [putL, setL, evL, getL]
              refine HL_nil ?_
              exact hK244 _ _ ⟨!u253, H, rfl, hH.sel [] (by decide)⟩
        · rintro l' s254 ⟨x249, H, hl, hH⟩
          generalize getL l' 11 = j11, getL l' 12 = j12, getL l' 13 = j13, getL l' 14 = j14, getL l' 15 = j15, getL l' 16 = j16, getL l' 17 = j17, getL l' 18 = j18, getL l' 19 = j19, getL l' 20 = j20, getL l' 21 = j21, getL l' 22 = j22, getL l' 23 = j23, getL l' 24 = j24, getL l' 25 = j25 at hl
          subst hl
          replace H := hG244 _ H
          try dsimp only at H
          rcases Bool.eq_false_or_eq_true x249 with hb255 | hb255
          · replace H := iteT hb255 H
            refine HT_true (congrArg Value.bool hb255) ?_
            refine HT_seq_k ?_
            intro K256 hK256
            refine HT_region ?_
            refine HL_cons rfl ?_
            refine o_assign ?_
            try dsimp only [putL, setL, evL, getL]
            refine HL_nil ?_
            refine hK256 _ _ ?_
            refine HT_ret ?_
            replace H := escH (fun z hz => hG4 _ hz) H
            exact hQr _ _ [.bool false] ⟨rfl, trivial⟩ (retH (fun r => spec_l15Edits.post sb s F0 r _ _) (show some _ = some r from H) ⟨rfl, hH⟩)
          · replace H := iteF hb255 H
            refine HT_false (congrArg Value.bool hb255) ?_
            refine HT_skip ?_
            refine hK238 _ _ ?_
            refine HT_region ?_
            refine HL_cons rfl ?_
            refine o_bin rfl rfl rfl ?_
            try dsimp only [putL, setL, evL, getL]
            refine HL_cons rfl ?_
            refine o_move ?_
            try dsimp only [putL, setL, evL, getL]
            refine HL_nil ?_
            exact hK215 _ _ ⟨kf, Nat.lt_succ_self kf, IntKind.i64.wrap (x172 + 1), H, rfl, hH⟩
      · replace H := iteF hb218 H
        refine HT_false (congrArg Value.bool hb218) ?_
        refine HT_exit ?_
        exact hK4 _ _ ⟨H, rfl, hH⟩
  · rintro l' s257 ⟨H, hl, hH⟩
    generalize getL l' 2 = j2, getL l' 4 = j4, getL l' 7 = j7, getL l' 8 = j8, getL l' 9 = j9, getL l' 10 = j10, getL l' 11 = j11, getL l' 12 = j12, getL l' 13 = j13, getL l' 14 = j14, getL l' 15 = j15, getL l' 16 = j16, getL l' 17 = j17, getL l' 18 = j18, getL l' 19 = j19, getL l' 20 = j20, getL l' 21 = j21, getL l' 22 = j22, getL l' 23 = j23, getL l' 24 = j24, getL l' 25 = j25, getL l' 26 = j26, getL l' 27 = j27 at hl
    subst hl
    replace H := hG4 _ H
    try dsimp only at H
    refine hK2 _ _ ?_
    refine HT_seq_k ?_
    intro K258 hK258
    refine HT_region ?_
    refine HL_cons rfl ?_
    refine o_move ?_
    try dsimp only [putL, setL, evL, getL]
    refine HL_cons rfl ?_
    refine o_len rfl Try.underlying85 ?_
    try dsimp only [putL, setL, evL, getL]
    refine HL_cons rfl ?_
    refine o_bin rfl rfl rfl ?_
    try dsimp only [putL, setL, evL, getL]
    refine HL_cons rfl ?_
    refine o_assign ?_
    try dsimp only [putL, setL, evL, getL]
    refine HL_nil ?_
    refine hK258 _ _ ?_
    refine HT_ret ?_
    exact hQr _ _ [.bool (decide ((p0.length : Int) ≤ 120))] ⟨rfl, trivial⟩ (retH (fun r => spec_l15Edits.post sb s F0 r _ _) (show some _ = some r from H) ⟨rfl, hH⟩)
def spec_l1Same.l1 (p0 : List (Int)) (p1 : List (Int)) : Nat → Int → Option (Lo Unit Bool)
  | 0, _ => none
  | kf + 1, x52 => if (decide (x52 < (p0.length : Int))) = true then ((rd? p0 x52).bind fun u71 => (rd? p1 x52).bind fun u72 => if (u71 != u72) = true then ((some false).bind fun z => some (Lo.ret z)) else (spec_l1Same.l1 p0 p1 kf (IntKind.i64.wrap (x52 + 1)))) else (some (Lo.go ()))
def spec_l1Same.f (p0 : List (Int)) (p1 : List (Int)) : Option Bool := if ((p0.length : Int) != (p1.length : Int)) = true then (some false) else ((spec_l1Same.l1 p0 p1 ((((p0.length : Int)) - (0)).toNat + 2) 0).bind fun (o : Lo Unit Bool) => match o with | .go () => (some true) | .ret z => some z)
def spec_l1Same.post (sb s : St) (F0 : Fp) (r : Bool) : Value → St → Prop := fun v s' => v = .bool r ∧ Hp sb s F0 s' []
set_option maxRecDepth 100000 in
set_option maxHeartbeats 4000000 in
theorem spec_l1Same.ok (sb s : St) (F0 : Fp) (A0p : Option Addr) (c0p : Nat) (p0 : List (Int)) (A1p : Option Addr) (c1p : Nat) (p1 : List (Int)) (HRp0 : Rd KI sb A0p c0p p0) (HRp1 : Rd KI sb A1p c1p p1) (hH : Hp sb s F0 s []) (r : Bool) (H : spec_l1Same.f p0 p1 = some r) : GCall Try.prog 165 #[.slice A0p p0.length c0p, .slice A1p p1.length c1p] s (spec_l1Same.post sb s F0 r) := by
  refine GCall_ofk [.tmp 4] [.slice A0p p0.length c0p, .slice A1p p1.length c1p, undef, undef, undef, undef, undef, undef, undef, undef, undef, undef, undef, undef, undef, undef, undef, undef, undef, undef, undef, undef, undef, undef, undef, undef] Try.func165 rfl rfl rfl ?_
  intro w Q hQr hQn hQp
  replace H := topE H
  unfold spec_l1Same.f at H
  refine HT_seq_k ?_
  intro K1 hK1
  refine HT_region ?_
  refine HL_cons rfl ?_
  refine o_assign ?_
  try dsimp only [putL, setL, evL, getL]
  refine HL_nil ?_
  refine hK1 _ _ ?_
  refine HT_seq_k ?_
  intro K2 hK2
  refine HT_seq_k ?_
  intro K3 hK3
  refine HT_region ?_
  refine HL_cons rfl ?_
  refine o_move ?_
  try dsimp only [putL, setL, evL, getL]
  refine HL_cons rfl ?_
  refine o_len rfl Try.underlying24 ?_
  try dsimp only [putL, setL, evL, getL]
  refine HL_cons rfl ?_
  refine o_move ?_
  try dsimp only [putL, setL, evL, getL]
  refine HL_cons rfl ?_
  refine o_len rfl Try.underlying24 ?_
  try dsimp only [putL, setL, evL, getL]
  refine HL_cons rfl ?_
  refine o_bin rfl rfl rfl ?_
  try dsimp only [putL, setL, evL, getL]
  refine HL_nil ?_
  refine hK3 _ _ ?_
  rcases Bool.eq_false_or_eq_true ((p0.length : Int) != (p1.length : Int)) with hb4 | hb4
  · replace H := iteT hb4 H
    refine HT_true (congrArg Value.bool hb4) ?_
    refine HT_seq_k ?_
    intro K5 hK5
    refine HT_region ?_
    refine HL_cons rfl ?_
    refine o_assign ?_
    try dsimp only [putL, setL, evL, getL]
    refine HL_nil ?_
    refine hK5 _ _ ?_
    refine HT_ret ?_
    exact hQr _ _ [.bool false] ⟨rfl, trivial⟩ (retH (fun r => spec_l1Same.post sb s F0 r _ _) (show some _ = some r from H) ⟨rfl, hH⟩)
  · replace H := iteF hb4 H
    refine HT_false (congrArg Value.bool hb4) ?_
    refine HT_skip ?_
    refine hK2 _ _ ?_
    refine HT_seq_k ?_
    intro K6 hK6
    refine HT_seq_k ?_
    intro K7 hK7
    refine HT_region ?_
    refine HL_cons rfl ?_
    refine o_move ?_
    try dsimp only [putL, setL, evL, getL]
    refine HL_cons rfl ?_
    refine o_len rfl Try.underlying24 ?_
    try dsimp only [putL, setL, evL, getL]
    refine HL_cons rfl ?_
    refine o_move ?_
    try dsimp only [putL, setL, evL, getL]
    refine HL_nil ?_
    refine hK7 _ _ ?_
    refine joinH H fun G8 hG8 H => ?_
    refine HT_toK (fun l' s' => G8 (.go ()) = some r ∧ l' = [.slice A0p p0.length c0p, .slice A1p p1.length c1p, undef, undef, getL l' 4, getL l' 5, .slice A0p p0.length c0p, .int .i64 (p0.length : Int), .slice A1p p1.length c1p, .int .i64 (p1.length : Int), .bool ((p0.length : Int) != (p1.length : Int)), .slice A0p p0.length c0p, .int .i64 (p0.length : Int), getL l' 13, getL l' 14, getL l' 15, getL l' 16, getL l' 17, getL l' 18, getL l' 19, getL l' 20, getL l' 21, getL l' 22, getL l' 23, getL l' 24, getL l' 25] ∧ Hp sb s F0 s' []) ?_ ?_
    · intro K8 hK8
      refine HT_block ?_
      refine HT_loopK (fun kf l' s' => ∃ (x52 : Int), (spec_l1Same.l1 p0 p1 kf x52).bind G8 = some r ∧ l' = [.slice A0p p0.length c0p, .slice A1p p1.length c1p, undef, undef, getL l' 4, getL l' 5, .slice A0p p0.length c0p, .int .i64 (p0.length : Int), .slice A1p p1.length c1p, .int .i64 (p1.length : Int), .bool ((p0.length : Int) != (p1.length : Int)), .slice A0p p0.length c0p, .int .i64 (p0.length : Int), .int .i64 x52, getL l' 14, getL l' 15, getL l' 16, getL l' 17, getL l' 18, getL l' 19, getL l' 20, getL l' 21, getL l' 22, getL l' 23, getL l' 24, getL l' 25] ∧ Hp sb s F0 s' []) ((((p0.length : Int)) - (0)).toNat + 2) ⟨0, H, rfl, hH⟩ ?_
      rintro kf l' s64 ⟨x52, H, hl, hH⟩ K64 hK64
      generalize getL l' 4 = j4, getL l' 5 = j5, getL l' 14 = j14, getL l' 15 = j15, getL l' 16 = j16, getL l' 17 = j17, getL l' 18 = j18, getL l' 19 = j19, getL l' 20 = j20, getL l' 21 = j21, getL l' 22 = j22, getL l' 23 = j23, getL l' 24 = j24, getL l' 25 = j25 at hl
      subst hl
      cases kf with
      | zero => simp [spec_l1Same.l1] at H
      | succ kf =>
        rw [spec_l1Same.l1] at H
        refine HT_seq_k ?_
        intro K65 hK65
        refine HT_region ?_
        refine HL_cons rfl ?_
        refine o_bin rfl rfl rfl ?_
        try dsimp only [putL, setL, evL, getL]
        refine HL_nil ?_
        refine hK65 _ _ ?_
        refine HT_seq_k ?_
        intro K66 hK66
        rcases Bool.eq_false_or_eq_true (decide (x52 < (p0.length : Int))) with hb67 | hb67
        · replace H := iteT hb67 H
          refine HT_true (congrArg Value.bool hb67) ?_
          refine HT_skip ?_
          refine hK66 _ _ ?_
          refine HT_seq_k ?_
          intro K68 hK68
          refine HT_block ?_
          refine HT_seq_k ?_
          intro K69 hK69
          refine HT_region ?_
          refine HL_cons rfl ?_
          refine o_move ?_
          try dsimp only [putL, setL, evL, getL]
          refine HL_cons rfl ?_
          refine o_assign ?_
          try dsimp only [putL, setL, evL, getL]
          refine HL_nil ?_
          refine hK69 _ _ ?_
          refine HT_seq_k ?_
          intro K70 hK70
          refine HX_draw hMix ?_
          refine HX_lim (R := fun _ => True) (k := 0) (fun s' => Gro s64 s') 10 ?_
          have hR := Gro.refl s64
          have hH0 := hH
          refine HK_readP 0 (v := .slice A0p p0.length c0p) rfl (by kernel_rfl) (fun c l s h => hQp c l s h) rfl (fun s' K hK => ?_) rfl rfl (fun _ => hR) ?_
          · refine o_move ?_
            exact hK
          try dsimp only [putL, setL, evL, getL]
          refine HK_readP 1 (v := .int .i64 x52) rfl (by kernel_rfl) (fun c l s h => hQp c l s h) rfl (fun s' K hK => ?_) rfl rfl (fun _ => hR) ?_
          · refine o_move ?_
            exact hK
          try dsimp only [putL, setL, evL, getL]
          replace H := headE H
          obtain ⟨u71, hu71, H⟩ := H
          obtain ⟨b71, o71, cs71, hr71, hh71, hel71⟩ := Rd.elb HRp0 hu71
          obtain rfl := hr71
          refine HK_readP 2 (v := .pointer (some ⟨b71, o71, none⟩)) rfl (by kernel_rfl) (fun c l s h => hQp c l s h) rfl (fun s' K hK => ?_) rfl rfl (fun _ => hR) ?_
          · refine hel71 s' rfl rfl Try.underlying24 tI3 ?_
            exact hK
          try dsimp only [putL, setL, evL, getL]
          refine HK_read 3 (v := .int .i64 u71) rfl (by kernel_rfl) (fun c l s h => hQp c l s h) rfl (fun s' hR' K hK => ?_) rfl rfl hR ?_
          · refine o_load' rfl Try.underlying3 rfl ((hh71 (hH0.bs.mono.trans hR'.mono)) 0 _ rfl) ?_
            exact hK
          try dsimp only [putL, setL, evL, getL]
          refine HK_readP 4 (v := .slice A1p p1.length c1p) rfl (by kernel_rfl) (fun c l s h => hQp c l s h) rfl (fun s' K hK => ?_) rfl rfl (fun _ => hR) ?_
          · refine o_move ?_
            exact hK
          try dsimp only [putL, setL, evL, getL]
          refine HK_readP 5 (v := .int .i64 x52) rfl (by kernel_rfl) (fun c l s h => hQp c l s h) rfl (fun s' K hK => ?_) rfl rfl (fun _ => hR) ?_
          · refine o_move ?_
            exact hK
          try dsimp only [putL, setL, evL, getL]
          replace H := headE H
          obtain ⟨u72, hu72, H⟩ := H
          obtain ⟨b72, o72, cs72, hr72, hh72, hel72⟩ := Rd.elb HRp1 hu72
          obtain rfl := hr72
          refine HK_readP 6 (v := .pointer (some ⟨b72, o72, none⟩)) rfl (by kernel_rfl) (fun c l s h => hQp c l s h) rfl (fun s' K hK => ?_) rfl rfl (fun _ => hR) ?_
          · refine hel72 s' rfl rfl Try.underlying24 tI3 ?_
            exact hK
          try dsimp only [putL, setL, evL, getL]
          refine HK_read 7 (v := .int .i64 u72) rfl (by kernel_rfl) (fun c l s h => hQp c l s h) rfl (fun s' hR' K hK => ?_) rfl rfl hR ?_
          · refine o_load' rfl Try.underlying3 rfl ((hh72 (hH0.bs.mono.trans hR'.mono)) 0 _ rfl) ?_
            exact hK
          try dsimp only [putL, setL, evL, getL]
          refine HK_readP 8 (v := .bool (u71 != u72)) rfl (by kernel_rfl) (fun c l s h => hQp c l s h) rfl (fun s' K hK => ?_) rfl rfl (fun _ => hR) ?_
          · refine o_bin rfl rfl rfl ?_
            exact hK
          try dsimp only [putL, setL, evL, getL]
          refine HK_done (fun _ => hR) (by kernel_rfl) ?_
          refine hK70 _ _ ?_
          rcases Bool.eq_false_or_eq_true (u71 != u72) with hb73 | hb73
          · replace H := iteT hb73 H
            refine HT_true (congrArg Value.bool hb73) ?_
            refine HT_seq_k ?_
            intro K74 hK74
            refine HT_region ?_
            refine HL_cons rfl ?_
            refine o_assign ?_
            try dsimp only [putL, setL, evL, getL]
            refine HL_nil ?_
            refine hK74 _ _ ?_
            refine HT_ret ?_
            replace H := escH (fun z hz => hG8 _ hz) H
            exact hQr _ _ [.bool false] ⟨rfl, trivial⟩ (retH (fun r => spec_l1Same.post sb s F0 r _ _) (show some _ = some r from H) ⟨rfl, hH⟩)
          · replace H := iteF hb73 H
            refine HT_false (congrArg Value.bool hb73) ?_
            refine HT_skip ?_
            refine hK68 _ _ ?_
            refine HT_region ?_
            refine HL_cons rfl ?_
            refine o_bin rfl rfl rfl ?_
            try dsimp only [putL, setL, evL, getL]
            refine HL_cons rfl ?_
            refine o_move ?_
            try dsimp only [putL, setL, evL, getL]
            refine HL_nil ?_
            exact hK64 _ _ ⟨kf, Nat.lt_succ_self kf, IntKind.i64.wrap (x52 + 1), H, rfl, hH⟩
        · replace H := iteF hb67 H
          refine HT_false (congrArg Value.bool hb67) ?_
          refine HT_exit ?_
          exact hK8 _ _ ⟨H, rfl, hH⟩
    · rintro l' s75 ⟨H, hl, hH⟩
      generalize getL l' 4 = j4, getL l' 5 = j5, getL l' 13 = j13, getL l' 14 = j14, getL l' 15 = j15, getL l' 16 = j16, getL l' 17 = j17, getL l' 18 = j18, getL l' 19 = j19, getL l' 20 = j20, getL l' 21 = j21, getL l' 22 = j22, getL l' 23 = j23, getL l' 24 = j24, getL l' 25 = j25 at hl
      subst hl
      replace H := hG8 _ H
      try dsimp only at H
      refine hK6 _ _ ?_
      refine HT_seq_k ?_
      intro K76 hK76
      refine HT_region ?_
      refine HL_cons rfl ?_
      refine o_assign ?_
      try dsimp only [putL, setL, evL, getL]
      refine HL_nil ?_
      refine hK76 _ _ ?_
      refine HT_ret ?_
      exact hQr _ _ [.bool true] ⟨rfl, trivial⟩ (retH (fun r => spec_l1Same.post sb s F0 r _ _) (show some _ = some r from H) ⟨rfl, hH⟩)
end Go.Proofs.Ytkieinlcpkpcjaa
