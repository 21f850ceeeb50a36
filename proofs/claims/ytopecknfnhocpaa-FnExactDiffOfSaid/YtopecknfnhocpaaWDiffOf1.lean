/- The functions that the law reaches, as plain functions, each with its contract: printed by a program of the prover's. No conditions: lemmas. -/
import Derived.Test.YtopecknfnhocpaaWDiffOf0
set_option linter.unusedVariables false
set_option linter.unusedSimpArgs false
namespace Go.Proofs.Ytopecknfnhocpaa
open Go Go.Proofs.GL
def impl_areRunes.f (p0 : List (Int)) (p1 : Int) : Option Bool := if (decide ((p0.length : Int) ≤ p1)) = true then ((slices_ContainsFunc_int_int_impl_areRunes_1.f p0).bind fun u4 => some (!u4)) else (some false)
def impl_areRunes.post (sb s : St) (F0 : Fp) (r : Bool) : Value → St → Prop := fun v s' => v = .bool r ∧ Hp sb s F0 s' []
set_option maxRecDepth 100000 in
set_option maxHeartbeats 4000000 in
theorem impl_areRunes.ok (sb s : St) (F0 : Fp) (A0p : Option Addr) (c0p : Nat) (p0 : List (Int)) (p1 : Int) (HRp0 : Rd KI sb A0p c0p p0) (hH : Hp sb s F0 s []) (r : Bool) (H : impl_areRunes.f p0 p1 = some r) : GCall Try.prog 113 #[.slice A0p p0.length c0p, .int .i64 p1] s (impl_areRunes.post sb s F0 r) := by
  refine GCall_ofk [.tmp 4] [.slice A0p p0.length c0p, .int .i64 p1, undef, undef, undef, undef, undef, undef, undef, undef, undef, undef, undef, undef] Try.func113 rfl rfl rfl ?_
  intro w Q hQr hQn hQp
  replace H := topE H
  unfold impl_areRunes.f at H
  refine HT_seq_k ?_
  intro K1 hK1
  refine HT_region ?_
  refine HL_cons rfl ?_
  refine o_assign ?_
  try dsimp only [putL, setL, evL, getL]
  refine HL_nil ?_
  refine hK1 _ _ ?_
  refine HT_seq_k ?_
  intro K2 hK2
  refine HT_region ?_
  refine HL_cons rfl ?_
  refine o_move ?_
  try dsimp only [putL, setL, evL, getL]
  refine HL_cons rfl ?_
  refine o_len rfl Try.underlying22 ?_
  try dsimp only [putL, setL, evL, getL]
  refine HL_cons rfl ?_
  refine o_move ?_
  try dsimp only [putL, setL, evL, getL]
  refine HL_cons rfl ?_
  refine o_bin rfl rfl rfl ?_
  try dsimp only [putL, setL, evL, getL]
  refine HL_cons rfl ?_
  refine o_move ?_
  try dsimp only [putL, setL, evL, getL]
  rcases Bool.eq_false_or_eq_true (decide ((p0.length : Int) ≤ p1)) with hb3 | hb3
  · replace H := iteT hb3 H
    refine HL_want ?_ ?_
    · exact wantT (j := 4) (b := true) (t := 9) (c := decide ((p0.length : Int) ≤ p1)) rfl rfl rfl rfl hb3
    refine o_move ?_
    try dsimp only [putL, setL, evL, getL]
    obtain ⟨u4, hu4, H⟩ := headE H
    refine HL_want ?_ ?_
    · exact wantT (j := 4) (b := true) (t := 9) (c := decide ((p0.length : Int) ≤ p1)) rfl rfl rfl rfl hb3
    refine o_call (args := #[.slice A0p p0.length c0p, .func (.func 153) #[] #[]]) Try.func110 rfl rfl rfl (slices_ContainsFunc_int_int_impl_areRunes_1.ok sb s no A0p c0p p0 HRp0 (Hp.own hH.bs) _ hu4) ?_
    rintro _ s4 ⟨rfl, hD⟩
    replace hH := hH.back0 hD (Up.refl _ _ _)
    clear hD
    dsimp only [addC, setC, rmC, selC, getC] at hH
    try dsimp only [putL, setL, evL, getL]
    refine HL_want ?_ ?_
    · exact wantT (j := 4) (b := true) (t := 9) (c := decide ((p0.length : Int) ≤ p1)) rfl rfl rfl rfl hb3
    refine o_not rfl ?_
    try dsimp only [putL, setL, evL, getL]
    refine HL_cons rfl ?_
    refine o_pickT rfl hb3 ?_
    try dsimp only [putL, setL, evL, getL]
    refine HL_cons rfl ?_
    refine o_assign ?_
    try dsimp only [putL, setL, evL, getL]
    refine HL_nil ?_
    refine hK2 _ _ ?_
    refine HT_ret ?_
    obtain rfl := Option.some.inj (show some _ = some r from H)
    exact hQr _ _ [.bool (!u4)] ⟨rfl, trivial⟩ ⟨rfl, hH⟩
  · replace H := iteF hb3 H
    refine HL_skip ?_ ?_
    · exact wantF (j := 4) (b := true) (t := 9) (c := decide ((p0.length : Int) ≤ p1)) rfl rfl rfl rfl hb3
    try dsimp only [putL, setL, evL, getL]
    refine HL_skip ?_ ?_
    · exact wantF (j := 4) (b := true) (t := 9) (c := decide ((p0.length : Int) ≤ p1)) rfl rfl rfl rfl hb3
    try dsimp only [putL, setL, evL, getL]
    refine HL_skip ?_ ?_
    · exact wantF (j := 4) (b := true) (t := 9) (c := decide ((p0.length : Int) ≤ p1)) rfl rfl rfl rfl hb3
    try dsimp only [putL, setL, evL, getL]
    refine HL_cons rfl ?_
    refine o_pickF rfl hb3 ?_
    try dsimp only [putL, setL, evL, getL]
    refine HL_cons rfl ?_
    refine o_assign ?_
    try dsimp only [putL, setL, evL, getL]
    refine HL_nil ?_
    refine hK2 _ _ ?_
    refine HT_ret ?_
    obtain rfl := Option.some.inj (show some _ = some r from H)
    exact hQr _ _ [.bool false] ⟨rfl, trivial⟩ ⟨rfl, hH⟩
def impl_areShort_1.f (p0 : List (Int)) : Option Bool := (impl_areRunes.f p0 60).bind fun u3 => some (!u3)
def impl_areShort_1.post (sb s : St) (F0 : Fp) (r : Bool) : Value → St → Prop := fun v s' => v = .bool r ∧ Hp sb s F0 s' []
set_option maxRecDepth 100000 in
set_option maxHeartbeats 4000000 in
theorem impl_areShort_1.ok (sb s : St) (F0 : Fp) (A0p : Option Addr) (c0p : Nat) (p0 : List (Int)) (HRp0 : Rd KI sb A0p c0p p0) (hH : Hp sb s F0 s []) (r : Bool) (H : impl_areShort_1.f p0 = some r) : GCall Try.prog 139 #[.slice A0p p0.length c0p] s (impl_areShort_1.post sb s F0 r) := by
  refine GCall_ofk [.tmp 2] [.slice A0p p0.length c0p, undef, undef, undef, undef, undef] Try.func139 rfl rfl rfl ?_
  intro w Q hQr hQn hQp
  replace H := topE H
  unfold impl_areShort_1.f at H
  refine HT_seq_k ?_
  intro K1 hK1
  refine HT_region ?_
  refine HL_cons rfl ?_
  refine o_assign ?_
  try dsimp only [putL, setL, evL, getL]
  refine HL_nil ?_
  refine hK1 _ _ ?_
  refine HT_seq_k ?_
  intro K2 hK2
  refine HT_region ?_
  refine HL_cons rfl ?_
  refine o_move ?_
  try dsimp only [putL, setL, evL, getL]
  obtain ⟨u3, hu3, H⟩ := headE H
  refine HL_cons rfl ?_
  refine o_call (args := #[.slice A0p p0.length c0p, .int .i64 60]) Try.func113 rfl rfl rfl (impl_areRunes.ok sb s no A0p c0p p0 60 HRp0 (Hp.own hH.bs) _ hu3) ?_
  rintro _ s3 ⟨rfl, hD⟩
  replace hH := hH.back0 hD (Up.refl _ _ _)
  clear hD
  dsimp only [addC, setC, rmC, selC, getC] at hH
  try dsimp only [putL, setL, evL, getL]
  refine HL_cons rfl ?_
  refine o_not rfl ?_
  try dsimp only [putL, setL, evL, getL]
  refine HL_cons rfl ?_
  refine o_assign ?_
  try dsimp only [putL, setL, evL, getL]
  refine HL_nil ?_
  refine hK2 _ _ ?_
  refine HT_ret ?_
  obtain rfl := Option.some.inj (show some _ = some r from H)
  exact hQr _ _ [.bool (!u3)] ⟨rfl, trivial⟩ ⟨rfl, hH⟩
def slices_IndexFunc_int_int_impl_areShort_1.l1 (p0 : List (List (Int))) : Nat → Int → Option (Lo Unit Int)
  | 0, _ => none
  | kf + 1, x52 => if (decide (x52 < (p0.length : Int))) = true then ((rd? p0 x52).bind fun u72 => (impl_areShort_1.f u72).bind fun u74 => if u74 = true then ((some x52).bind fun z => some (Lo.ret z)) else (slices_IndexFunc_int_int_impl_areShort_1.l1 p0 kf (IntKind.i64.wrap (x52 + 1)))) else (some (Lo.go ()))
def slices_IndexFunc_int_int_impl_areShort_1.f (p0 : List (List (Int))) : Option Int := (slices_IndexFunc_int_int_impl_areShort_1.l1 p0 ((((p0.length : Int)) - (0)).toNat + 2) 0).bind fun (o : Lo Unit Int) => match o with | .go () => (some (-1)) | .ret z => some z
def slices_IndexFunc_int_int_impl_areShort_1.post (sb s : St) (F0 : Fp) (r : Int) : Value → St → Prop := fun v s' => v = .int .i64 r ∧ Hp sb s F0 s' []
set_option maxRecDepth 100000 in
set_option maxHeartbeats 4000000 in
theorem slices_IndexFunc_int_int_impl_areShort_1.ok (sb s : St) (F0 : Fp) (A0p : Option Addr) (c0p : Nat) (p0 : List (List (Int))) (HRp0 : Rd (Kd.sl KI) sb A0p c0p p0) (hH : Hp sb s F0 s []) (r : Int) (H : slices_IndexFunc_int_int_impl_areShort_1.f p0 = some r) : GCall Try.prog 162 #[.slice A0p p0.length c0p, .func (.func 139) #[] #[]] s (slices_IndexFunc_int_int_impl_areShort_1.post sb s F0 r) := by
  refine GCall_ofk [.tmp 4] [.slice A0p p0.length c0p, .func (.func 139) #[] #[], undef, undef, undef, undef, undef, undef, undef, undef, undef, undef, undef, undef, undef, undef, undef, undef, undef] Try.func162 rfl rfl rfl ?_
  intro w Q hQr hQn hQp
  replace H := topE H
  unfold slices_IndexFunc_int_int_impl_areShort_1.f at H
  refine HT_seq_k ?_
  intro K1 hK1
  refine HT_region ?_
  refine HL_cons rfl ?_
  refine o_assign ?_
  try dsimp only [putL, setL, evL, getL]
  refine HL_nil ?_
  refine hK1 _ _ ?_
  refine HT_seq_k ?_
  intro K2 hK2
  refine HT_seq_k ?_
  intro K3 hK3
  refine HT_region ?_
  refine HL_cons rfl ?_
  refine o_move ?_
  try dsimp only [putL, setL, evL, getL]
  refine HL_cons rfl ?_
  refine o_len rfl Try.underlying148 ?_
  try dsimp only [putL, setL, evL, getL]
  refine HL_cons rfl ?_
  refine o_move ?_
  try dsimp only [putL, setL, evL, getL]
  refine HL_nil ?_
  refine hK3 _ _ ?_
  refine joinH H fun G4 hG4 H => ?_
  refine HT_toK (fun l' s' => G4 (.go ()) = some r ∧ l' = [.slice A0p p0.length c0p, .func (.func 139) #[] #[], undef, undef, getL l' 4, getL l' 5, .slice A0p p0.length c0p, .int .i64 (p0.length : Int), getL l' 8, getL l' 9, getL l' 10, getL l' 11, getL l' 12, getL l' 13, getL l' 14, getL l' 15, getL l' 16, getL l' 17, getL l' 18] ∧ Hp sb s F0 s' []) ?_ ?_
  · intro K4 hK4
    refine HT_block ?_
    refine HT_loopK (fun kf l' s' => ∃ (x52 : Int), (slices_IndexFunc_int_int_impl_areShort_1.l1 p0 kf x52).bind G4 = some r ∧ l' = [.slice A0p p0.length c0p, .func (.func 139) #[] #[], undef, undef, getL l' 4, getL l' 5, .slice A0p p0.length c0p, .int .i64 (p0.length : Int), .int .i64 x52, getL l' 9, getL l' 10, getL l' 11, getL l' 12, getL l' 13, getL l' 14, getL l' 15, getL l' 16, getL l' 17, getL l' 18] ∧ Hp sb s F0 s' []) ((((p0.length : Int)) - (0)).toNat + 2) ⟨0, H, rfl, hH⟩ ?_
    rintro kf l' s65 ⟨x52, H, hl, hH⟩ K65 hK65
    generalize getL l' 4 = j4, getL l' 5 = j5, getL l' 9 = j9, getL l' 10 = j10, getL l' 11 = j11, getL l' 12 = j12, getL l' 13 = j13, getL l' 14 = j14, getL l' 15 = j15, getL l' 16 = j16, getL l' 17 = j17, getL l' 18 = j18 at hl
    subst hl
    cases kf with
    | zero => simp [slices_IndexFunc_int_int_impl_areShort_1.l1] at H
    | succ kf =>
      rw [slices_IndexFunc_int_int_impl_areShort_1.l1] at H
      refine HT_seq_k ?_
      intro K66 hK66
      refine HT_region ?_
      refine HL_cons rfl ?_
      refine o_bin rfl rfl rfl ?_
      try dsimp only [putL, setL, evL, getL]
      refine HL_nil ?_
      refine hK66 _ _ ?_
      refine HT_seq_k ?_
      intro K67 hK67
      rcases Bool.eq_false_or_eq_true (decide (x52 < (p0.length : Int))) with hb68 | hb68
      · replace H := iteT hb68 H
        refine HT_true (congrArg Value.bool hb68) ?_
        refine HT_skip ?_
        refine hK67 _ _ ?_
        refine HT_seq_k ?_
        intro K69 hK69
        refine HT_block ?_
        refine HT_seq_k ?_
        intro K70 hK70
        refine HT_region ?_
        refine HL_cons rfl ?_
        refine o_move ?_
        try dsimp only [putL, setL, evL, getL]
        refine HL_cons rfl ?_
        refine o_assign ?_
        try dsimp only [putL, setL, evL, getL]
        refine HL_nil ?_
        refine hK70 _ _ ?_
        refine HT_seq_k ?_
        intro K71 hK71
        refine HT_region ?_
        refine HL_cons rfl ?_
        refine o_move ?_
        try dsimp only [putL, setL, evL, getL]
        refine HL_cons rfl ?_
        refine o_move ?_
        try dsimp only [putL, setL, evL, getL]
        refine HL_cons rfl ?_
        refine o_move ?_
        try dsimp only [putL, setL, evL, getL]
        obtain ⟨u72, hu72, H⟩ := headE H
        obtain ⟨b72, o72, cs72, hr72, hh72, hel72⟩ := Rd.elb HRp0 hu72
        obtain ⟨A73, c73, rfl, D73⟩ := hr72
        refine HL_cons rfl ?_
        refine hel72 s65 rfl rfl Try.underlying148 tI22 ?_
        try dsimp only [putL, setL, evL, getL]
        refine HL_cons rfl ?_
        refine o_load' rfl Try.underlying22 rfl ((hh72 hH.bs.mono) 0 _ rfl) ?_
        try dsimp only [putL, setL, evL, getL]
        obtain ⟨u74, hu74, H⟩ := headE H
        refine HL_cons rfl ?_
        refine o_callv (first := #[]) (cap := #[]) (args := #[.slice A73 u72.length c73]) rfl Try.func139 rfl rfl [.slice A73 u72.length c73] rfl (by simp) (impl_areShort_1.ok sb s65 no A73 c73 u72 D73 (Hp.own hH.bs) _ hu74) ?_
        rintro _ s74 ⟨rfl, hD⟩
        replace hH := hH.back0 hD (Up.refl _ _ _)
        clear hD
        dsimp only [addC, setC, rmC, selC, getC] at hH
        try dsimp only [putL, setL, evL, getL]
        refine HL_nil ?_
        refine hK71 _ _ ?_
        rcases Bool.eq_false_or_eq_true u74 with hb75 | hb75
        · replace H := iteT hb75 H
          refine HT_true (congrArg Value.bool hb75) ?_
          refine HT_seq_k ?_
          intro K76 hK76
          refine HT_region ?_
          refine HL_cons rfl ?_
          refine o_move ?_
          try dsimp only [putL, setL, evL, getL]
          refine HL_cons rfl ?_
          refine o_assign ?_
          try dsimp only [putL, setL, evL, getL]
          refine HL_nil ?_
          refine hK76 _ _ ?_
          refine HT_ret ?_
          replace H := escH (fun z hz => hG4 _ hz) H
          obtain rfl := Option.some.inj (show some _ = some r from H)
          exact hQr _ _ [.int .i64 x52] ⟨rfl, trivial⟩ ⟨rfl, hH⟩
        · replace H := iteF hb75 H
          refine HT_false (congrArg Value.bool hb75) ?_
          refine HT_skip ?_
          refine hK69 _ _ ?_
          refine HT_region ?_
          refine HL_cons rfl ?_
          refine o_bin rfl rfl rfl ?_
          try dsimp only [putL, setL, evL, getL]
          refine HL_cons rfl ?_
          refine o_move ?_
          try dsimp only [putL, setL, evL, getL]
          refine HL_nil ?_
          exact hK65 _ _ ⟨kf, Nat.lt_succ_self kf, IntKind.i64.wrap (x52 + 1), H, rfl, hH⟩
      · replace H := iteF hb68 H
        refine HT_false (congrArg Value.bool hb68) ?_
        refine HT_exit ?_
        exact hK4 _ _ ⟨H, rfl, hH⟩
  · rintro l' s77 ⟨H, hl, hH⟩
    generalize getL l' 4 = j4, getL l' 5 = j5, getL l' 8 = j8, getL l' 9 = j9, getL l' 10 = j10, getL l' 11 = j11, getL l' 12 = j12, getL l' 13 = j13, getL l' 14 = j14, getL l' 15 = j15, getL l' 16 = j16, getL l' 17 = j17, getL l' 18 = j18 at hl
    subst hl
    replace H := hG4 _ H
    try dsimp only at H
    refine hK2 _ _ ?_
    refine HT_seq_k ?_
    intro K78 hK78
    refine HT_region ?_
    refine HL_cons rfl ?_
    refine o_assign ?_
    try dsimp only [putL, setL, evL, getL]
    refine HL_nil ?_
    refine hK78 _ _ ?_
    refine HT_ret ?_
    obtain rfl := Option.some.inj (show some _ = some r from H)
    exact hQr _ _ [.int .i64 (-1)] ⟨rfl, trivial⟩ ⟨rfl, hH⟩
def slices_ContainsFunc_int_int_impl_areShort_1.f (p0 : List (List (Int))) : Option Bool := (slices_IndexFunc_int_int_impl_areShort_1.f p0).bind fun u3 => some (decide (u3 ≥ 0))
def slices_ContainsFunc_int_int_impl_areShort_1.post (sb s : St) (F0 : Fp) (r : Bool) : Value → St → Prop := fun v s' => v = .bool r ∧ Hp sb s F0 s' []
set_option maxRecDepth 100000 in
set_option maxHeartbeats 4000000 in
theorem slices_ContainsFunc_int_int_impl_areShort_1.ok (sb s : St) (F0 : Fp) (A0p : Option Addr) (c0p : Nat) (p0 : List (List (Int))) (HRp0 : Rd (Kd.sl KI) sb A0p c0p p0) (hH : Hp sb s F0 s []) (r : Bool) (H : slices_ContainsFunc_int_int_impl_areShort_1.f p0 = some r) : GCall Try.prog 138 #[.slice A0p p0.length c0p, .func (.func 139) #[] #[]] s (slices_ContainsFunc_int_int_impl_areShort_1.post sb s F0 r) := by
  refine GCall_ofk [.tmp 4] [.slice A0p p0.length c0p, .func (.func 139) #[] #[], undef, undef, undef, undef, undef, undef, undef] Try.func138 rfl rfl rfl ?_
  intro w Q hQr hQn hQp
  replace H := topE H
  unfold slices_ContainsFunc_int_int_impl_areShort_1.f at H
  refine HT_seq_k ?_
  intro K1 hK1
  refine HT_region ?_
  refine HL_cons rfl ?_
  refine o_assign ?_
  try dsimp only [putL, setL, evL, getL]
  refine HL_nil ?_
  refine hK1 _ _ ?_
  refine HT_seq_k ?_
  intro K2 hK2
  refine HT_region ?_
  refine HL_cons rfl ?_
  refine o_move ?_
  try dsimp only [putL, setL, evL, getL]
  refine HL_cons rfl ?_
  refine o_move ?_
  try dsimp only [putL, setL, evL, getL]
  obtain ⟨u3, hu3, H⟩ := headE H
  refine HL_cons rfl ?_
  refine o_call (args := #[.slice A0p p0.length c0p, .func (.func 139) #[] #[]]) Try.func162 rfl rfl rfl (slices_IndexFunc_int_int_impl_areShort_1.ok sb s no A0p c0p p0 HRp0 (Hp.own hH.bs) _ hu3) ?_
  rintro _ s3 ⟨rfl, hD⟩
  replace hH := hH.back0 hD (Up.refl _ _ _)
  clear hD
  dsimp only [addC, setC, rmC, selC, getC] at hH
  try dsimp only [putL, setL, evL, getL]
  refine HL_cons rfl ?_
  refine o_bin rfl rfl rfl ?_
  try dsimp only [putL, setL, evL, getL]
  refine HL_cons rfl ?_
  refine o_assign ?_
  try dsimp only [putL, setL, evL, getL]
  refine HL_nil ?_
  refine hK2 _ _ ?_
  refine HT_ret ?_
  obtain rfl := Option.some.inj (show some _ = some r from H)
  exact hQr _ _ [.bool (decide (u3 ≥ 0))] ⟨rfl, trivial⟩ ⟨rfl, hH⟩
def impl_areShort.f (p0 : List (List (Int))) : Option Bool := (slices_ContainsFunc_int_int_impl_areShort_1.f p0).bind fun u3 => some (!u3)
def impl_areShort.post (sb s : St) (F0 : Fp) (r : Bool) : Value → St → Prop := fun v s' => v = .bool r ∧ Hp sb s F0 s' []
set_option maxRecDepth 100000 in
set_option maxHeartbeats 4000000 in
theorem impl_areShort.ok (sb s : St) (F0 : Fp) (A0p : Option Addr) (c0p : Nat) (p0 : List (List (Int))) (HRp0 : Rd (Kd.sl KI) sb A0p c0p p0) (hH : Hp sb s F0 s []) (r : Bool) (H : impl_areShort.f p0 = some r) : GCall Try.prog 80 #[.slice A0p p0.length c0p] s (impl_areShort.post sb s F0 r) := by
  refine GCall_ofk [.tmp 2] [.slice A0p p0.length c0p, undef, undef, undef, undef, undef] Try.func80 rfl rfl rfl ?_
  intro w Q hQr hQn hQp
  replace H := topE H
  unfold impl_areShort.f at H
  refine HT_seq_k ?_
  intro K1 hK1
  refine HT_region ?_
  refine HL_cons rfl ?_
  refine o_assign ?_
  try dsimp only [putL, setL, evL, getL]
  refine HL_nil ?_
  refine hK1 _ _ ?_
  refine HT_seq_k ?_
  intro K2 hK2
  refine HT_region ?_
  refine HL_cons rfl ?_
  refine o_move ?_
  try dsimp only [putL, setL, evL, getL]
  obtain ⟨u3, hu3, H⟩ := headE H
  refine HL_cons rfl ?_
  refine o_call (args := #[.slice A0p p0.length c0p, .func (.func 139) #[] #[]]) Try.func138 rfl rfl rfl (slices_ContainsFunc_int_int_impl_areShort_1.ok sb s no A0p c0p p0 HRp0 (Hp.own hH.bs) _ hu3) ?_
  rintro _ s3 ⟨rfl, hD⟩
  replace hH := hH.back0 hD (Up.refl _ _ _)
  clear hD
  dsimp only [addC, setC, rmC, selC, getC] at hH
  try dsimp only [putL, setL, evL, getL]
  refine HL_cons rfl ?_
  refine o_not rfl ?_
  try dsimp only [putL, setL, evL, getL]
  refine HL_cons rfl ?_
  refine o_assign ?_
  try dsimp only [putL, setL, evL, getL]
  refine HL_nil ?_
  refine hK2 _ _ ?_
  refine HT_ret ?_
  obtain rfl := Option.some.inj (show some _ = some r from H)
  exact hQr _ _ [.bool (!u3)] ⟨rfl, trivial⟩ ⟨rfl, hH⟩
def impl_commons.l2 (p0 : List (Int)) (p1 : List (Int)) (x3214 : Int) : Nat → (List (List (Int))) → Int → Option (List (List (Int)))
  | 0, _, _ => none
  | kf + 1, x4685, x4686 => (if (decide (x4686 ≥ 0)) = true then (some (decide (x3214 < (p0.length : Int)))) else (some false)).bind fun (o : Bool) => match o with | x4763 => (if x4763 = true then (((rd? p0 x3214).bind fun u4793 => (rd? p1 x4686).bind fun u4794 => if (u4793 == u4794) = true then ((rd? x4685 (IntKind.i64.wrap (x3214 + 1))).bind fun u4796 => (rd? u4796 (IntKind.i64.wrap (x4686 + 1))).bind fun u4798 => (rd? x4685 x3214).bind fun u4799 => (rd? u4799 x4686).bind fun u4801 => (st? u4799 x4686 (IntKind.i64.wrap (u4798 + 1))).bind fun x4802 => (st? x4685 x3214 x4802).bind fun x4803 => some x4803) else ((rd? x4685 (IntKind.i64.wrap (x3214 + 1))).bind fun u4804 => (rd? u4804 x4686).bind fun u4806 => (rd? x4685 x3214).bind fun u4807 => (rd? u4807 (IntKind.i64.wrap (x4686 + 1))).bind fun u4809 => (rd? x4685 x3214).bind fun u4810 => (rd? u4810 x4686).bind fun u4812 => (st? u4810 x4686 (max u4806 u4809)).bind fun x4813 => (st? x4685 x3214 x4813).bind fun x4814 => some x4814)).bind fun (o : (List (List (Int)))) => match o with | x4791 => (impl_commons.l2 p0 p1 x3214 kf x4791 (IntKind.i64.wrap (x4686 - 1)))) else (some x4685))
def impl_commons.l1 (p0 : List (Int)) (p1 : List (Int)) : Nat → (List (List (Int))) → Int → Option (List (List (Int)))
  | 0, _, _ => none
  | kf + 1, x3213, x3214 => if (decide (x3214 ≥ 0)) = true then (((mk? 17592186044416 0 (IntKind.i64.wrap ((p1.length : Int) + 1))).bind fun x4421 => (rd? x3213 x3214).bind fun u4422 => (st? x3213 x3214 x4421).bind fun x4424 => (impl_commons.l2 p0 p1 x3214 (((IntKind.i64.wrap ((p1.length : Int) - 1)) - (0)).toNat + 2) x4424 (IntKind.i64.wrap ((p1.length : Int) - 1))).bind fun (o : (List (List (Int)))) => match o with | x4621 => (some x4621)).bind fun (o : (List (List (Int)))) => match o with | x4419 => (impl_commons.l1 p0 p1 kf x4419 (IntKind.i64.wrap (x3214 - 1)))) else (some x3213)
def impl_commons.f (p0 : List (Int)) (p1 : List (Int)) : Option (List (List (Int))) := (mk? 5864062014805 [] (IntKind.i64.wrap ((p0.length : Int) + 1))).bind fun x3 => (impl_commons.l1 p0 p1 ((((p0.length : Int)) - (0)).toNat + 2) x3 (p0.length : Int)).bind fun (o : (List (List (Int)))) => match o with | x2412 => (some x2412)
def impl_commons.post (sb s : St) (F0 : Fp) (r : (List (List (Int)))) : Value → St → Prop := fun v s' => ∃ (A0 : Option Addr) (c0 : Nat), v = .slice A0 r.length c0 ∧ Hp sb s F0 s' [Ck.ol (Ow.sl OI 3) 22 A0 c0 r]
set_option maxRecDepth 100000 in
set_option maxHeartbeats 4000000 in
theorem impl_commons.ok (sb s : St) (F0 : Fp) (A0p : Option Addr) (c0p : Nat) (p0 : List (Int)) (A1p : Option Addr) (c1p : Nat) (p1 : List (Int)) (HRp0 : Rd KI sb A0p c0p p0) (HRp1 : Rd KI sb A1p c1p p1) (hH : Hp sb s F0 s []) (r : (List (List (Int)))) (H : impl_commons.f p0 p1 = some r) : GCall Try.prog 140 #[.slice A0p p0.length c0p, .slice A1p p1.length c1p] s (impl_commons.post sb s F0 r) := by
  refine GCall_ofk [.tmp 4] [.slice A0p p0.length c0p, .slice A1p p1.length c1p, undef, undef, undef, undef, undef, undef, undef, undef, undef, undef, undef, undef, undef, undef, undef, undef, undef, undef, undef, undef, undef, undef, undef, undef, undef, undef, undef, undef, undef, undef, undef, undef, undef, undef, undef, undef, undef, undef, undef, undef, undef, undef, undef, undef, undef, undef, undef, undef, undef, undef, undef, undef, undef, undef, undef, undef, undef, undef, undef, undef, undef, undef, undef, undef, undef, undef, undef, undef, undef, undef, undef, undef, undef, undef, undef, undef, undef, undef, undef, undef, undef, undef, undef, undef, undef] Try.func140 rfl rfl rfl ?_
  intro w Q hQr hQn hQp
  replace H := topE H
  unfold impl_commons.f at H
  refine HT_seq_k ?_
  intro K1 hK1
  refine HT_region ?_
  refine HL_cons rfl ?_
  refine o_assign ?_
  try dsimp only [putL, setL, evL, getL]
  refine HL_nil ?_
  refine hK1 _ _ ?_
  refine HT_seq_k ?_
  intro K2 hK2
  refine HT_region ?_
  refine HL_cons rfl ?_
  refine o_move ?_
  try dsimp only [putL, setL, evL, getL]
  refine HL_cons rfl ?_
  refine o_len rfl Try.underlying22 ?_
  try dsimp only [putL, setL, evL, getL]
  refine HL_cons rfl ?_
  refine o_bin rfl rfl rfl ?_
  try dsimp only [putL, setL, evL, getL]
  obtain ⟨x3, hx3, H⟩ := headE H
  refine HL_cons rfl ?_
  refine o_makeH (K := (Kd.sl KI)) (O := (Ow.sl OI 3)) (x0 := []) hH rfl Try.underlying148 tI22 rfl (by decide) (by decide) (by decide) Own0.nil hx3 ?_
  intro A3 c3 s3 hH' hG
  replace hH : Hp sb s F0 s3 [Ck.ol (Ow.sl OI 3) 22 A3 c3 x3] := hH'
  clear hH' hG
  try dsimp only [putL, setL, evL, getL]
  refine HL_cons rfl ?_
  refine o_assign ?_
  try dsimp only [putL, setL, evL, getL]
  refine HL_nil ?_
  refine hK2 _ _ ?_
  refine HT_seq_k ?_
  intro K4 hK4
  refine HT_seq_k ?_
  intro K5 hK5
  refine HT_region ?_
  refine HL_cons rfl ?_
  refine o_move ?_
  try dsimp only [putL, setL, evL, getL]
  refine HL_cons rfl ?_
  refine o_len rfl Try.underlying22 ?_
  try dsimp only [putL, setL, evL, getL]
  refine HL_cons rfl ?_
  refine o_assign ?_
  try dsimp only [putL, setL, evL, getL]
  refine HL_nil ?_
  refine hK5 _ _ ?_
  refine joinH H fun G6 hG6 H => ?_
  refine HT_toK (fun l' s' => ∃ (x2412 : List (List (Int))), G6 x2412 = some r ∧ l' = [.slice A0p p0.length c0p, .slice A1p p1.length c1p, undef, undef, .slice none 0 0, .slice A3 x3.length c3, getL l' 6, getL l' 7, .slice A0p p0.length c0p, .int .i64 (p0.length : Int), .int .i64 (IntKind.i64.wrap ((p0.length : Int) + 1)), .slice A3 x3.length c3, .slice A0p p0.length c0p, .int .i64 (p0.length : Int), getL l' 14, getL l' 15, getL l' 16, getL l' 17, getL l' 18, getL l' 19, getL l' 20, getL l' 21, getL l' 22, getL l' 23, getL l' 24, getL l' 25, getL l' 26, getL l' 27, getL l' 28, getL l' 29, getL l' 30, getL l' 31, getL l' 32, getL l' 33, getL l' 34, getL l' 35, getL l' 36, getL l' 37, getL l' 38, getL l' 39, getL l' 40, getL l' 41, getL l' 42, getL l' 43, getL l' 44, getL l' 45, getL l' 46, getL l' 47, getL l' 48, getL l' 49, getL l' 50, getL l' 51, getL l' 52, getL l' 53, getL l' 54, getL l' 55, getL l' 56, getL l' 57, getL l' 58, getL l' 59, getL l' 60, getL l' 61, getL l' 62, getL l' 63, getL l' 64, getL l' 65, getL l' 66, getL l' 67, getL l' 68, getL l' 69, getL l' 70, getL l' 71, getL l' 72, getL l' 73, getL l' 74, getL l' 75, getL l' 76, getL l' 77, getL l' 78, getL l' 79, getL l' 80, getL l' 81, getL l' 82, getL l' 83, getL l' 84, getL l' 85, undef] ∧ Hp sb s F0 s' [Ck.ol (Ow.sl OI 3) 22 A3 c3 x2412] ∧ x2412.length = x3.length) ?_ ?_
  · intro K6 hK6
    refine HT_block ?_
    refine HT_loopK (fun kf l' s' => ∃ (x3213 : List (List (Int))) (x3214 : Int), (impl_commons.l1 p0 p1 kf x3213 x3214).bind G6 = some r ∧ l' = [.slice A0p p0.length c0p, .slice A1p p1.length c1p, undef, undef, .slice none 0 0, .slice A3 x3.length c3, .int .i64 x3214, getL l' 7, .slice A0p p0.length c0p, .int .i64 (p0.length : Int), .int .i64 (IntKind.i64.wrap ((p0.length : Int) + 1)), .slice A3 x3.length c3, .slice A0p p0.length c0p, .int .i64 (p0.length : Int), getL l' 14, getL l' 15, getL l' 16, getL l' 17, getL l' 18, getL l' 19, getL l' 20, getL l' 21, getL l' 22, getL l' 23, getL l' 24, getL l' 25, getL l' 26, getL l' 27, getL l' 28, getL l' 29, getL l' 30, getL l' 31, getL l' 32, getL l' 33, getL l' 34, getL l' 35, getL l' 36, getL l' 37, getL l' 38, getL l' 39, getL l' 40, getL l' 41, getL l' 42, getL l' 43, getL l' 44, getL l' 45, getL l' 46, getL l' 47, getL l' 48, getL l' 49, getL l' 50, getL l' 51, getL l' 52, getL l' 53, getL l' 54, getL l' 55, getL l' 56, getL l' 57, getL l' 58, getL l' 59, getL l' 60, getL l' 61, getL l' 62, getL l' 63, getL l' 64, getL l' 65, getL l' 66, getL l' 67, getL l' 68, getL l' 69, getL l' 70, getL l' 71, getL l' 72, getL l' 73, getL l' 74, getL l' 75, getL l' 76, getL l' 77, getL l' 78, getL l' 79, getL l' 80, getL l' 81, getL l' 82, getL l' 83, getL l' 84, getL l' 85, undef] ∧ Hp sb s F0 s' [Ck.ol (Ow.sl OI 3) 22 A3 c3 x3213] ∧ x3213.length = x3.length) ((((p0.length : Int)) - (0)).toNat + 2) ⟨x3, (p0.length : Int), H, rfl, hH, rfl⟩ ?_
    rintro kf l' s4017 ⟨x3213, x3214, H, hl, hH, hl3213⟩ K4017 hK4017
    generalize getL l' 7 = j7, getL l' 14 = j14, getL l' 15 = j15, getL l' 16 = j16, getL l' 17 = j17, getL l' 18 = j18, getL l' 19 = j19, getL l' 20 = j20, getL l' 21 = j21, getL l' 22 = j22, getL l' 23 = j23, getL l' 24 = j24, getL l' 25 = j25, getL l' 26 = j26, getL l' 27 = j27, getL l' 28 = j28, getL l' 29 = j29, getL l' 30 = j30, getL l' 31 = j31, getL l' 32 = j32, getL l' 33 = j33, getL l' 34 = j34, getL l' 35 = j35, getL l' 36 = j36, getL l' 37 = j37, getL l' 38 = j38, getL l' 39 = j39, getL l' 40 = j40, getL l' 41 = j41, getL l' 42 = j42, getL l' 43 = j43, getL l' 44 = j44, getL l' 45 = j45, getL l' 46 = j46, getL l' 47 = j47, getL l' 48 = j48, getL l' 49 = j49, getL l' 50 = j50, getL l' 51 = j51, getL l' 52 = j52, getL l' 53 = j53, getL l' 54 = j54, getL l' 55 = j55, getL l' 56 = j56, getL l' 57 = j57, getL l' 58 = j58, getL l' 59 = j59, getL l' 60 = j60, getL l' 61 = j61, getL l' 62 = j62, getL l' 63 = j63, getL l' 64 = j64, getL l' 65 = j65, getL l' 66 = j66, getL l' 67 = j67, getL l' 68 = j68, getL l' 69 = j69, getL l' 70 = j70, getL l' 71 = j71, getL l' 72 = j72, getL l' 73 = j73, getL l' 74 = j74, getL l' 75 = j75, getL l' 76 = j76, getL l' 77 = j77, getL l' 78 = j78, getL l' 79 = j79, getL l' 80 = j80, getL l' 81 = j81, getL l' 82 = j82, getL l' 83 = j83, getL l' 84 = j84, getL l' 85 = j85 at hl
    subst hl
    cases kf with
    | zero => simp [impl_commons.l1] at H
    | succ kf =>
      rw [impl_commons.l1] at H
      refine HT_seq_k ?_
      intro K4018 hK4018
      refine HT_seq_k ?_
      intro K4019 hK4019
      refine HT_region ?_
      refine HL_cons rfl ?_
      refine o_move ?_
      try dsimp only [putL, setL, evL, getL]
      refine HL_cons rfl ?_
      refine o_bin rfl rfl rfl ?_
      try dsimp only [putL, setL, evL, getL]
      refine HL_nil ?_
      refine hK4019 _ _ ?_
      rcases Bool.eq_false_or_eq_true (decide (x3214 ≥ 0)) with hb4020 | hb4020
      · replace H := iteT hb4020 H
        refine HT_true (congrArg Value.bool hb4020) ?_
        refine HT_skip ?_
        refine hK4018 _ _ ?_
        refine joinH H fun G4021 hG4021 H => ?_
        refine HT_joinK (fun l' s' => ∃ (x4419 : List (List (Int))), G4021 x4419 = some r ∧ l' = [.slice A0p p0.length c0p, .slice A1p p1.length c1p, undef, undef, .slice none 0 0, .slice A3 x3.length c3, .int .i64 x3214, getL l' 7, .slice A0p p0.length c0p, .int .i64 (p0.length : Int), .int .i64 (IntKind.i64.wrap ((p0.length : Int) + 1)), .slice A3 x3.length c3, .slice A0p p0.length c0p, .int .i64 (p0.length : Int), .int .i64 x3214, .bool (decide (x3214 ≥ 0)), j16, j17, getL l' 18, getL l' 19, getL l' 20, getL l' 21, getL l' 22, getL l' 23, getL l' 24, getL l' 25, getL l' 26, getL l' 27, getL l' 28, getL l' 29, getL l' 30, getL l' 31, getL l' 32, getL l' 33, getL l' 34, getL l' 35, getL l' 36, getL l' 37, getL l' 38, getL l' 39, getL l' 40, getL l' 41, getL l' 42, getL l' 43, getL l' 44, getL l' 45, getL l' 46, getL l' 47, getL l' 48, getL l' 49, getL l' 50, getL l' 51, getL l' 52, getL l' 53, getL l' 54, getL l' 55, getL l' 56, getL l' 57, getL l' 58, getL l' 59, getL l' 60, getL l' 61, getL l' 62, getL l' 63, getL l' 64, getL l' 65, getL l' 66, getL l' 67, getL l' 68, getL l' 69, getL l' 70, getL l' 71, getL l' 72, getL l' 73, getL l' 74, getL l' 75, getL l' 76, getL l' 77, getL l' 78, getL l' 79, getL l' 80, getL l' 81, getL l' 82, getL l' 83, getL l' 84, getL l' 85, undef] ∧ Hp sb s F0 s' [Ck.ol (Ow.sl OI 3) 22 A3 c3 x4419] ∧ x4419.length = x3.length) ?_ ?_
        · intro K4021 hK4021
          refine HT_block ?_
          refine HT_seq_k ?_
          intro K4420 hK4420
          refine HT_region ?_
          refine HL_cons rfl ?_
          refine o_move ?_
          try dsimp only [putL, setL, evL, getL]
          refine HL_cons rfl ?_
          refine o_move ?_
          try dsimp only [putL, setL, evL, getL]
          refine HL_cons rfl ?_
          refine o_move ?_
          try dsimp only [putL, setL, evL, getL]
          refine HL_cons rfl ?_
          refine o_len rfl Try.underlying22 ?_
          try dsimp only [putL, setL, evL, getL]
          refine HL_cons rfl ?_
          refine o_bin rfl rfl rfl ?_
          try dsimp only [putL, setL, evL, getL]
          obtain ⟨x4421, hx4421, H⟩ := headE H
          refine HL_cons rfl ?_
          refine o_makeH (K := KI) (O := OI) (x0 := 0) hH rfl Try.underlying22 tI3 rfl (by decide) (by decide) (by decide) (Own0.fl fun _ => rfl) hx4421 ?_
          intro A4421 c4421 s4421 hH' hG
          replace hH : Hp sb s F0 s4421 [Ck.ol (Ow.sl OI 3) 22 A3 c3 x3213, Ck.ol OI 3 A4421 c4421 x4421] := hH'
          clear hH' hG
          try dsimp only [putL, setL, evL, getL]
          obtain ⟨u4422, hu4422, H⟩ := headE H
          obtain ⟨b4422, o4422, cs4422, hA4422, hr4422, hh4422, hel4422⟩ := hH.elo 0 rfl hu4422
          obtain ⟨A4423, c4423, rfl, D4423⟩ := hr4422
          refine HL_cons rfl ?_
          refine hel4422 s4421 (sliceLen hl3213) rfl Try.underlying148 tI22 ?_
          try dsimp only [putL, setL, evL, getL]
          replace hH := hH.conv [1] (by decide) (d := Ck.el (Ow.sl OI 3) [.slice A4421 x4421.length c4421] x4421) Ent.sl
          dsimp only [addC, setC, rmC, selC, getC] at hH
          obtain ⟨x4424, hx4424, H⟩ := headE H
          refine HL_cons rfl ?_
          refine o_setD (u := x4421) hH 0 2 (by decide) rfl rfl rfl rfl rfl rfl tI22 hA4422 hx4424 ?_
          intro s4424 hH'
          have hl4424 := (st?_len hx4424).trans hl3213
          replace hH : Hp sb s F0 s4424 [Ck.ol (Ow.sl OI 3) 22 A3 c3 x4424, Ck.emp, Ck.emp] := hH'
          clear hH'
          try dsimp only [putL, setL, evL, getL]
          refine HL_nil ?_
          refine hK4420 _ _ ?_
          refine HT_seq_k ?_
          intro K4425 hK4425
          refine HT_region ?_
          refine HL_cons rfl ?_
          refine o_move ?_
          try dsimp only [putL, setL, evL, getL]
          refine HL_cons rfl ?_
          refine o_len rfl Try.underlying22 ?_
          try dsimp only [putL, setL, evL, getL]
          refine HL_cons rfl ?_
          refine o_bin rfl rfl rfl ?_
          try dsimp only [putL, setL, evL, getL]
          refine HL_cons rfl ?_
          refine o_assign ?_
          try dsimp only [putL, setL, evL, getL]
          refine HL_nil ?_
          refine hK4425 _ _ ?_
          refine joinH H fun G4426 hG4426 H => ?_
          refine HT_toK (fun l' s' => ∃ (x4621 : List (List (Int))), G4426 x4621 = some r ∧ l' = [.slice A0p p0.length c0p, .slice A1p p1.length c1p, undef, undef, .slice none 0 0, .slice A3 x3.length c3, .int .i64 x3214, getL l' 7, .slice A0p p0.length c0p, .int .i64 (p0.length : Int), .int .i64 (IntKind.i64.wrap ((p0.length : Int) + 1)), .slice A3 x3.length c3, .slice A0p p0.length c0p, .int .i64 (p0.length : Int), .int .i64 x3214, .bool (decide (x3214 ≥ 0)), j16, j17, .slice A3 x3.length c3, .int .i64 x3214, .slice A1p p1.length c1p, .int .i64 (p1.length : Int), .int .i64 (IntKind.i64.wrap ((p1.length : Int) + 1)), .slice A4421 x4421.length c4421, .pointer (some ⟨b4422, o4422 + Int.toNat x3214 * Kd.sz (Kd.sl KI), none⟩), .slice A1p p1.length c1p, .int .i64 (p1.length : Int), .int .i64 (IntKind.i64.wrap ((p1.length : Int) - 1)), getL l' 28, getL l' 29, getL l' 30, getL l' 31, getL l' 32, getL l' 33, getL l' 34, getL l' 35, getL l' 36, getL l' 37, getL l' 38, getL l' 39, getL l' 40, getL l' 41, getL l' 42, getL l' 43, getL l' 44, getL l' 45, getL l' 46, getL l' 47, getL l' 48, getL l' 49, getL l' 50, getL l' 51, getL l' 52, getL l' 53, getL l' 54, getL l' 55, getL l' 56, getL l' 57, getL l' 58, getL l' 59, getL l' 60, getL l' 61, getL l' 62, getL l' 63, getL l' 64, getL l' 65, getL l' 66, getL l' 67, getL l' 68, getL l' 69, getL l' 70, getL l' 71, getL l' 72, getL l' 73, getL l' 74, getL l' 75, getL l' 76, getL l' 77, getL l' 78, getL l' 79, getL l' 80, getL l' 81, getL l' 82, getL l' 83, getL l' 84, getL l' 85, undef] ∧ Hp sb s F0 s' [Ck.ol (Ow.sl OI 3) 22 A3 c3 x4621] ∧ x4621.length = x3.length) ?_ ?_
          · intro K4426 hK4426
            refine HT_block ?_
            refine HT_loopK (fun kf l' s' => ∃ (x4685 : List (List (Int))) (x4686 : Int), (impl_commons.l2 p0 p1 x3214 kf x4685 x4686).bind G4426 = some r ∧ l' = [.slice A0p p0.length c0p, .slice A1p p1.length c1p, undef, undef, .slice none 0 0, .slice A3 x3.length c3, .int .i64 x3214, .int .i64 x4686, .slice A0p p0.length c0p, .int .i64 (p0.length : Int), .int .i64 (IntKind.i64.wrap ((p0.length : Int) + 1)), .slice A3 x3.length c3, .slice A0p p0.length c0p, .int .i64 (p0.length : Int), .int .i64 x3214, .bool (decide (x3214 ≥ 0)), j16, j17, .slice A3 x3.length c3, .int .i64 x3214, .slice A1p p1.length c1p, .int .i64 (p1.length : Int), .int .i64 (IntKind.i64.wrap ((p1.length : Int) + 1)), .slice A4421 x4421.length c4421, .pointer (some ⟨b4422, o4422 + Int.toNat x3214 * Kd.sz (Kd.sl KI), none⟩), .slice A1p p1.length c1p, .int .i64 (p1.length : Int), .int .i64 (IntKind.i64.wrap ((p1.length : Int) - 1)), getL l' 28, getL l' 29, getL l' 30, getL l' 31, getL l' 32, getL l' 33, getL l' 34, getL l' 35, getL l' 36, getL l' 37, getL l' 38, getL l' 39, getL l' 40, getL l' 41, getL l' 42, getL l' 43, getL l' 44, getL l' 45, getL l' 46, getL l' 47, getL l' 48, getL l' 49, getL l' 50, getL l' 51, getL l' 52, getL l' 53, getL l' 54, getL l' 55, getL l' 56, getL l' 57, getL l' 58, getL l' 59, getL l' 60, getL l' 61, getL l' 62, getL l' 63, getL l' 64, getL l' 65, getL l' 66, getL l' 67, getL l' 68, getL l' 69, getL l' 70, getL l' 71, getL l' 72, getL l' 73, getL l' 74, getL l' 75, getL l' 76, getL l' 77, getL l' 78, getL l' 79, getL l' 80, getL l' 81, getL l' 82, getL l' 83, getL l' 84, getL l' 85, undef] ∧ Hp sb s F0 s' [Ck.ol (Ow.sl OI 3) 22 A3 c3 x4685] ∧ x4685.length = x3.length) (((IntKind.i64.wrap ((p1.length : Int) - 1)) - (0)).toNat + 2) ⟨x4424, IntKind.i64.wrap ((p1.length : Int) - 1), H, rfl, hH.sel [0] (by decide), hl4424⟩ ?_
            rintro kf l' s4752 ⟨x4685, x4686, H, hl, hH, hl4685⟩ K4752 hK4752
            generalize getL l' 28 = j28, getL l' 29 = j29, getL l' 30 = j30, getL l' 31 = j31, getL l' 32 = j32, getL l' 33 = j33, getL l' 34 = j34, getL l' 35 = j35, getL l' 36 = j36, getL l' 37 = j37, getL l' 38 = j38, getL l' 39 = j39, getL l' 40 = j40, getL l' 41 = j41, getL l' 42 = j42, getL l' 43 = j43, getL l' 44 = j44, getL l' 45 = j45, getL l' 46 = j46, getL l' 47 = j47, getL l' 48 = j48, getL l' 49 = j49, getL l' 50 = j50, getL l' 51 = j51, getL l' 52 = j52, getL l' 53 = j53, getL l' 54 = j54, getL l' 55 = j55, getL l' 56 = j56, getL l' 57 = j57, getL l' 58 = j58, getL l' 59 = j59, getL l' 60 = j60, getL l' 61 = j61, getL l' 62 = j62, getL l' 63 = j63, getL l' 64 = j64, getL l' 65 = j65, getL l' 66 = j66, getL l' 67 = j67, getL l' 68 = j68, getL l' 69 = j69, getL l' 70 = j70, getL l' 71 = j71, getL l' 72 = j72, getL l' 73 = j73, getL l' 74 = j74, getL l' 75 = j75, getL l' 76 = j76, getL l' 77 = j77, getL l' 78 = j78, getL l' 79 = j79, getL l' 80 = j80, getL l' 81 = j81, getL l' 82 = j82, getL l' 83 = j83, getL l' 84 = j84, getL l' 85 = j85 at hl
            subst hl
            cases kf with
            | zero => simp [impl_commons.l2] at H
            | succ kf =>
              rw [impl_commons.l2] at H
              refine HT_seq_k ?_
              intro K4760 hK4760
              refine joinH H fun G4761 hG4761 H => ?_
              refine HT_joinK (fun l' s' => ∃ (x4763 : Bool), G4761 x4763 = some r ∧ l' = [.slice A0p p0.length c0p, .slice A1p p1.length c1p, undef, undef, .slice none 0 0, .slice A3 x3.length c3, .int .i64 x3214, .int .i64 x4686, .slice A0p p0.length c0p, .int .i64 (p0.length : Int), .int .i64 (IntKind.i64.wrap ((p0.length : Int) + 1)), .slice A3 x3.length c3, .slice A0p p0.length c0p, .int .i64 (p0.length : Int), .int .i64 x3214, .bool (decide (x3214 ≥ 0)), j16, j17, .slice A3 x3.length c3, .int .i64 x3214, .slice A1p p1.length c1p, .int .i64 (p1.length : Int), .int .i64 (IntKind.i64.wrap ((p1.length : Int) + 1)), .slice A4421 x4421.length c4421, .pointer (some ⟨b4422, o4422 + Int.toNat x3214 * Kd.sz (Kd.sl KI), none⟩), .slice A1p p1.length c1p, .int .i64 (p1.length : Int), .int .i64 (IntKind.i64.wrap ((p1.length : Int) - 1)), getL l' 28, getL l' 29, getL l' 30, getL l' 31, getL l' 32, getL l' 33, getL l' 34, .bool x4763, j36, j37, j38, j39, j40, j41, j42, j43, j44, j45, j46, j47, j48, j49, j50, j51, j52, j53, j54, j55, j56, j57, j58, j59, j60, j61, j62, j63, j64, j65, j66, j67, j68, j69, j70, j71, j72, j73, j74, j75, j76, j77, j78, j79, j80, j81, j82, j83, j84, j85, undef] ∧ Hp sb s F0 s' [Ck.ol (Ow.sl OI 3) 22 A3 c3 x4685]) ?_ ?_
              · intro K4761 hK4761
                refine HT_region ?_
                refine HL_cons rfl ?_
                refine o_move ?_
                try dsimp only [putL, setL, evL, getL]
                refine HL_cons rfl ?_
                refine o_bin rfl rfl rfl ?_
                try dsimp only [putL, setL, evL, getL]
                refine HL_cons rfl ?_
                refine o_move ?_
                try dsimp only [putL, setL, evL, getL]
                rcases Bool.eq_false_or_eq_true (decide (x4686 ≥ 0)) with hb4764 | hb4764
                · replace H := iteT hb4764 H
                  refine HL_want ?_ ?_
                  · exact wantT (j := 2) (b := true) (t := 30) (c := decide (x4686 ≥ 0)) rfl rfl rfl rfl hb4764
                  refine o_move ?_
                  try dsimp only [putL, setL, evL, getL]
                  refine HL_want ?_ ?_
                  · exact wantT (j := 2) (b := true) (t := 30) (c := decide (x4686 ≥ 0)) rfl rfl rfl rfl hb4764
                  refine o_move ?_
                  try dsimp only [putL, setL, evL, getL]
                  refine HL_want ?_ ?_
                  · exact wantT (j := 2) (b := true) (t := 30) (c := decide (x4686 ≥ 0)) rfl rfl rfl rfl hb4764
                  refine o_len rfl Try.underlying22 ?_
                  try dsimp only [putL, setL, evL, getL]
                  refine HL_want ?_ ?_
                  · exact wantT (j := 2) (b := true) (t := 30) (c := decide (x4686 ≥ 0)) rfl rfl rfl rfl hb4764
                  refine o_bin rfl rfl rfl ?_
                  try dsimp only [putL, setL, evL, getL]
                  refine HL_cons rfl ?_
                  refine o_pickT rfl hb4764 ?_
                  try dsimp only [putL, setL, evL, getL]
                  refine HL_nil ?_
                  exact hK4761 _ _ ⟨decide (x3214 < (p0.length : Int)), H, rfl, hH⟩
                · replace H := iteF hb4764 H
                  refine HL_skip ?_ ?_
                  · exact wantF (j := 2) (b := true) (t := 30) (c := decide (x4686 ≥ 0)) rfl rfl rfl rfl hb4764
                  try dsimp only [putL, setL, evL, getL]
                  refine HL_skip ?_ ?_
                  · exact wantF (j := 2) (b := true) (t := 30) (c := decide (x4686 ≥ 0)) rfl rfl rfl rfl hb4764
                  try dsimp only [putL, setL, evL, getL]
                  refine HL_skip ?_ ?_
                  · exact wantF (j := 2) (b := true) (t := 30) (c := decide (x4686 ≥ 0)) rfl rfl rfl rfl hb4764
                  try dsimp only [putL, setL, evL, getL]
                  refine HL_skip ?_ ?_
                  · exact wantF (j := 2) (b := true) (t := 30) (c := decide (x4686 ≥ 0)) rfl rfl rfl rfl hb4764
                  try dsimp only [putL, setL, evL, getL]
                  refine HL_cons rfl ?_
                  refine o_pickF rfl hb4764 ?_
                  try dsimp only [putL, setL, evL, getL]
                  refine HL_nil ?_
                  exact hK4761 _ _ ⟨false, H, rfl, hH⟩
              · rintro l' s4765 ⟨x4763, H, hl, hH⟩
                generalize getL l' 28 = j28, getL l' 29 = j29, getL l' 30 = j30, getL l' 31 = j31, getL l' 32 = j32, getL l' 33 = j33, getL l' 34 = j34 at hl
                subst hl
                replace H := hG4761 _ H
                try dsimp only at H
                rcases Bool.eq_false_or_eq_true x4763 with hb4766 | hb4766
                · replace H := iteT hb4766 H
                  refine HT_true (congrArg Value.bool hb4766) ?_
                  refine HT_skip ?_
                  refine hK4760 _ _ ?_
                  refine joinH H fun G4767 hG4767 H => ?_
                  refine HT_joinK (fun l' s' => ∃ (x4791 : List (List (Int))), G4767 x4791 = some r ∧ l' = [.slice A0p p0.length c0p, .slice A1p p1.length c1p, undef, undef, .slice none 0 0, .slice A3 x3.length c3, .int .i64 x3214, .int .i64 x4686, .slice A0p p0.length c0p, .int .i64 (p0.length : Int), .int .i64 (IntKind.i64.wrap ((p0.length : Int) + 1)), .slice A3 x3.length c3, .slice A0p p0.length c0p, .int .i64 (p0.length : Int), .int .i64 x3214, .bool (decide (x3214 ≥ 0)), j16, j17, .slice A3 x3.length c3, .int .i64 x3214, .slice A1p p1.length c1p, .int .i64 (p1.length : Int), .int .i64 (IntKind.i64.wrap ((p1.length : Int) + 1)), .slice A4421 x4421.length c4421, .pointer (some ⟨b4422, o4422 + Int.toNat x3214 * Kd.sz (Kd.sl KI), none⟩), .slice A1p p1.length c1p, .int .i64 (p1.length : Int), .int .i64 (IntKind.i64.wrap ((p1.length : Int) - 1)), j28, j29, j30, j31, j32, j33, j34, .bool x4763, j36, j37, getL l' 38, getL l' 39, getL l' 40, getL l' 41, getL l' 42, getL l' 43, getL l' 44, getL l' 45, getL l' 46, getL l' 47, getL l' 48, getL l' 49, getL l' 50, getL l' 51, getL l' 52, getL l' 53, getL l' 54, getL l' 55, getL l' 56, getL l' 57, getL l' 58, getL l' 59, getL l' 60, getL l' 61, getL l' 62, getL l' 63, getL l' 64, getL l' 65, getL l' 66, getL l' 67, getL l' 68, getL l' 69, getL l' 70, getL l' 71, getL l' 72, getL l' 73, getL l' 74, getL l' 75, getL l' 76, getL l' 77, getL l' 78, getL l' 79, getL l' 80, getL l' 81, getL l' 82, getL l' 83, getL l' 84, getL l' 85, undef] ∧ Hp sb s F0 s' [Ck.ol (Ow.sl OI 3) 22 A3 c3 x4791] ∧ x4791.length = x3.length) ?_ ?_
                  · intro K4767 hK4767
                    refine HT_block ?_
                    refine HT_seq_k ?_
                    intro K4792 hK4792
                    refine HK_draw (fun s' => Gro s4765 s') 10 hMix ?_
                    have hR := Gro.refl s4765
                    have hH0 := hH
                    refine HK_readP 0 (v := .slice A0p p0.length c0p) rfl (by kernel_rfl) (fun c l s h => hQp c l s h) rfl (fun s' K hK => ?_) rfl rfl (fun _ => hR) ?_
                    · refine o_move ?_
                      exact hK
                    try dsimp only [putL, setL, evL, getL]
                    refine HK_readP 1 (v := .int .i64 x3214) rfl (by kernel_rfl) (fun c l s h => hQp c l s h) rfl (fun s' K hK => ?_) rfl rfl (fun _ => hR) ?_
                    · refine o_move ?_
                      exact hK
                    try dsimp only [putL, setL, evL, getL]
                    obtain ⟨u4793, hu4793, H⟩ := headE H
                    obtain ⟨b4793, o4793, cs4793, hr4793, hh4793, hel4793⟩ := Rd.elb HRp0 hu4793
                    obtain rfl := hr4793
                    refine HK_readP 2 (v := .pointer (some ⟨b4793, o4793, none⟩)) rfl (by kernel_rfl) (fun c l s h => hQp c l s h) rfl (fun s' K hK => ?_) rfl rfl (fun _ => hR) ?_
                    · refine hel4793 s' rfl rfl Try.underlying22 tI3 ?_
                      exact hK
                    try dsimp only [putL, setL, evL, getL]
                    refine HK_read 3 (v := .int .i64 u4793) rfl (by kernel_rfl) (fun c l s h => hQp c l s h) rfl (fun s' hR' K hK => ?_) rfl rfl hR ?_
                    · refine o_load' rfl Try.underlying3 rfl ((hh4793 (hH0.bs.mono.trans hR'.mono)) 0 _ rfl) ?_
                      exact hK
                    try dsimp only [putL, setL, evL, getL]
                    refine HK_readP 4 (v := .slice A1p p1.length c1p) rfl (by kernel_rfl) (fun c l s h => hQp c l s h) rfl (fun s' K hK => ?_) rfl rfl (fun _ => hR) ?_
                    · refine o_move ?_
                      exact hK
                    try dsimp only [putL, setL, evL, getL]
                    refine HK_readP 5 (v := .int .i64 x4686) rfl (by kernel_rfl) (fun c l s h => hQp c l s h) rfl (fun s' K hK => ?_) rfl rfl (fun _ => hR) ?_
                    · refine o_move ?_
                      exact hK
                    try dsimp only [putL, setL, evL, getL]
                    obtain ⟨u4794, hu4794, H⟩ := headE H
                    obtain ⟨b4794, o4794, cs4794, hr4794, hh4794, hel4794⟩ := Rd.elb HRp1 hu4794
                    obtain rfl := hr4794
                    refine HK_readP 6 (v := .pointer (some ⟨b4794, o4794, none⟩)) rfl (by kernel_rfl) (fun c l s h => hQp c l s h) rfl (fun s' K hK => ?_) rfl rfl (fun _ => hR) ?_
                    · refine hel4794 s' rfl rfl Try.underlying22 tI3 ?_
                      exact hK
                    try dsimp only [putL, setL, evL, getL]
                    refine HK_read 7 (v := .int .i64 u4794) rfl (by kernel_rfl) (fun c l s h => hQp c l s h) rfl (fun s' hR' K hK => ?_) rfl rfl hR ?_
                    · refine o_load' rfl Try.underlying3 rfl ((hh4794 (hH0.bs.mono.trans hR'.mono)) 0 _ rfl) ?_
                      exact hK
                    try dsimp only [putL, setL, evL, getL]
                    refine HK_readP 8 (v := .bool (u4793 == u4794)) rfl (by kernel_rfl) (fun c l s h => hQp c l s h) rfl (fun s' K hK => ?_) rfl rfl (fun _ => hR) ?_
                    · refine o_bin rfl rfl rfl ?_
                      exact hK
                    try dsimp only [putL, setL, evL, getL]
                    refine HK_done (fun _ => hR) (by kernel_rfl) ?_
                    refine hK4792 _ _ ?_
                    rcases Bool.eq_false_or_eq_true (u4793 == u4794) with hb4795 | hb4795
                    · replace H := iteT hb4795 H
                      refine HT_true (congrArg Value.bool hb4795) ?_
                      refine HK_draw (fun s' => Gro s4765 s') 16 hMix ?_
                      have hR := Gro.refl s4765
                      have hH0 := hH
                      refine HK_readP 5 (v := .slice A3 x3.length c3) rfl (by kernel_rfl) (fun c l s h => hQp c l s h) rfl (fun s' K hK => ?_) rfl rfl (fun _ => hR) ?_
                      · refine o_move ?_
                        exact hK
                      try dsimp only [putL, setL, evL, getL]
                      refine HK_readP 6 (v := .int .i64 x3214) rfl (by kernel_rfl) (fun c l s h => hQp c l s h) rfl (fun s' K hK => ?_) rfl rfl (fun _ => hR) ?_
                      · refine o_move ?_
                        exact hK
                      try dsimp only [putL, setL, evL, getL]
                      refine HK_readP 7 (v := .int .i64 (IntKind.i64.wrap (x3214 + 1))) rfl (by kernel_rfl) (fun c l s h => hQp c l s h) rfl (fun s' K hK => ?_) rfl rfl (fun _ => hR) ?_
                      · refine o_bin rfl rfl rfl ?_
                        exact hK
                      try dsimp only [putL, setL, evL, getL]
                      obtain ⟨u4796, hu4796, H⟩ := headE H
                      obtain ⟨b4796, o4796, cs4796, hA4796, hr4796, hh4796, hel4796⟩ := hH0.elo 0 rfl hu4796
                      obtain ⟨A4797, c4797, rfl, D4797⟩ := hr4796
                      refine HK_readP 8 (v := .pointer (some ⟨b4796, o4796 + Int.toNat (IntKind.i64.wrap (x3214 + 1)) * Kd.sz (Kd.sl KI), none⟩)) rfl (by kernel_rfl) (fun c l s h => hQp c l s h) rfl (fun s' K hK => ?_) rfl rfl (fun _ => hR) ?_
                      · refine hel4796 s' (sliceLen hl4685) rfl Try.underlying148 tI22 ?_
                        exact hK
                      try dsimp only [putL, setL, evL, getL]
                      refine HK_read 9 (v := .slice A4797 u4796.length c4797) rfl (by kernel_rfl) (fun c l s h => hQp c l s h) rfl (fun s' hR' K hK => ?_) rfl rfl hR ?_
                      · refine o_load' rfl Try.underlying22 rfl (has_gro hR' (hh4796 0 _ rfl)) ?_
                        exact hK
                      try dsimp only [putL, setL, evL, getL]
                      refine HK_readP 10 (v := .int .i64 x4686) rfl (by kernel_rfl) (fun c l s h => hQp c l s h) rfl (fun s' K hK => ?_) rfl rfl (fun _ => hR) ?_
                      · refine o_move ?_
                        exact hK
                      try dsimp only [putL, setL, evL, getL]
                      refine HK_readP 11 (v := .int .i64 (IntKind.i64.wrap (x4686 + 1))) rfl (by kernel_rfl) (fun c l s h => hQp c l s h) rfl (fun s' K hK => ?_) rfl rfl (fun _ => hR) ?_
                      · refine o_bin rfl rfl rfl ?_
                        exact hK
                      try dsimp only [putL, setL, evL, getL]
                      obtain ⟨u4798, hu4798, H⟩ := headE H
                      obtain ⟨b4798, o4798, cs4798, hr4798, hh4798, hel4798⟩ := Rd.el D4797 hu4798
                      obtain rfl := hr4798
                      refine HK_readP 12 (v := .pointer (some ⟨b4798, o4798, none⟩)) rfl (by kernel_rfl) (fun c l s h => hQp c l s h) rfl (fun s' K hK => ?_) rfl rfl (fun _ => hR) ?_
                      · refine hel4798 s' rfl rfl Try.underlying22 tI3 ?_
                        exact hK
                      try dsimp only [putL, setL, evL, getL]
                      refine HK_read 13 (v := .int .i64 u4798) rfl (by kernel_rfl) (fun c l s h => hQp c l s h) rfl (fun s' hR' K hK => ?_) rfl rfl hR ?_
                      · refine o_load' rfl Try.underlying3 rfl (has_gro hR' (hh4798 0 _ rfl)) ?_
                        exact hK
                      try dsimp only [putL, setL, evL, getL]
                      refine HK_readP 14 (v := .int .i64 (IntKind.i64.wrap (u4798 + 1))) rfl (by kernel_rfl) (fun c l s h => hQp c l s h) rfl (fun s' K hK => ?_) rfl rfl (fun _ => hR) ?_
                      · refine o_bin rfl rfl rfl ?_
                        exact hK
                      try dsimp only [putL, setL, evL, getL]
                      refine HK_readP 0 (v := .slice A3 x3.length c3) rfl (by kernel_rfl) (fun c l s h => hQp c l s h) rfl (fun s' K hK => ?_) rfl rfl (fun _ => hR) ?_
                      · refine o_move ?_
                        exact hK
                      try dsimp only [putL, setL, evL, getL]
                      refine HK_readP 1 (v := .int .i64 x3214) rfl (by kernel_rfl) (fun c l s h => hQp c l s h) rfl (fun s' K hK => ?_) rfl rfl (fun _ => hR) ?_
                      · refine o_move ?_
                        exact hK
                      try dsimp only [putL, setL, evL, getL]
                      obtain ⟨u4799, hu4799, H⟩ := headE H
                      obtain ⟨b4799, o4799, vs4799, hA4799, -, hH⟩ := hH.open 0 rfl rfl hu4799
                      dsimp only [addC, setC, rmC, selC, getC] at hH
                      obtain ⟨A4800, c4800, rfl, hH⟩ := hH.el_sl 1 rfl rfl
                      dsimp only [addC, setC, rmC, selC, getC] at hH
                      replace hH : Hp sb s F0 s4765 [Ck.oh (Ow.sl OI 3) 22 A3 c3 x4685 (Int.toNat x3214) [.slice A4800 u4799.length c4800], Ck.ol OI 3 A4800 c4800 u4799] := hH
                      refine HK_readP 2 (v := .pointer (some ⟨b4799, o4799 + Int.toNat x3214 * Kd.sz (Kd.sl KI), none⟩)) rfl (by kernel_rfl) (fun c l s h => hQp c l s h) rfl (fun s' K hK => ?_) rfl rfl (fun _ => hR) ?_
                      · refine iaddr_of (K := (Kd.sl KI)) hA4799 hu4799 s' (sliceLen hl4685) rfl Try.underlying148 tI22 ?_
                        exact hK
                      try dsimp only [putL, setL, evL, getL]
                      refine HK_read 3 (v := .slice A4800 u4799.length c4800) rfl (by kernel_rfl) (fun c l s h => hQp c l s h) rfl (fun s' hR' K hK => ?_) rfl rfl hR ?_
                      · refine o_load' rfl Try.underlying22 rfl (has_gro hR' (hH.hasoh 0 rfl hA4799 0 _ rfl)) ?_
                        exact hK
                      try dsimp only [putL, setL, evL, getL]
                      refine HK_readP 4 (v := .int .i64 x4686) rfl (by kernel_rfl) (fun c l s h => hQp c l s h) rfl (fun s' K hK => ?_) rfl rfl (fun _ => hR) ?_
                      · refine o_move ?_
                        exact hK
                      try dsimp only [putL, setL, evL, getL]
                      obtain ⟨u4801, hu4801, H⟩ := headE H
                      obtain ⟨b4801, o4801, cs4801, hA4801, hr4801, hh4801, hel4801⟩ := hH.elo 1 rfl hu4801
                      obtain rfl := hr4801
                      refine HK_readP 15 (v := .pointer (some ⟨b4801, o4801 + Int.toNat x4686 * Kd.sz KI, none⟩)) rfl (by kernel_rfl) (fun c l s h => hQp c l s h) rfl (fun s' K hK => ?_) rfl rfl (fun _ => hR) ?_
                      · refine hel4801 s' rfl rfl Try.underlying22 tI3 ?_
                        exact hK
                      try dsimp only [putL, setL, evL, getL]
                      obtain ⟨x4802, hx4802, H⟩ := headE H
                      refine HK_one 16 (by kernel_rfl) rfl (fun _ => hR) rfl ?_
                      refine o_setF (vs := [.int .i64 (IntKind.i64.wrap (u4798 + 1))]) (u := IntKind.i64.wrap (u4798 + 1)) hH 1 rfl rfl rfl rfl rfl tI3 hA4801 hx4802 (Ent.own (Ent.flat rfl)) ?_
                      intro s4802 hH'
                      have hl4802 := st?_len hx4802
                      replace hH : Hp sb s F0 s4802 [Ck.oh (Ow.sl OI 3) 22 A3 c3 x4685 (Int.toNat x3214) [.slice A4800 u4799.length c4800], Ck.ol OI 3 A4800 c4800 x4802] := hH'
                      clear hH'
                      try dsimp only [putL, setL, evL, getL]
                      refine HK_done' (by kernel_rfl) (by kernel_rfl) ?_
                      replace hH := hH.conv [1] (by decide) (d := Ck.el (Ow.sl OI 3) [.slice A4800 u4799.length c4800] x4802) (Ent.slL hl4802)
                      dsimp only [addC, setC, rmC, selC, getC] at hH
                      obtain ⟨x4803, hx4803, H⟩ := headE H
                      replace hH := hH.close (i := x3214) 0 2 (by decide) rfl rfl rfl hx4803
                      dsimp only [addC, setC, rmC, selC, getC] at hH
                      have hl4803 := (st?_len hx4803).trans hl4685
                      replace hH : Hp sb s F0 s4802 [Ck.ol (Ow.sl OI 3) 22 A3 c3 x4803, Ck.emp, Ck.emp] := hH
                      exact hK4767 _ _ ⟨x4803, H, rfl, hH.sel [0] (by decide), hl4803⟩
                    · replace H := iteF hb4795 H
                      refine HT_false (congrArg Value.bool hb4795) ?_
                      refine HK_draw (fun s' => Gro s4765 s') 23 hMix ?_
                      have hR := Gro.refl s4765
                      have hH0 := hH
                      refine HK_readP 5 (v := .slice A3 x3.length c3) rfl (by kernel_rfl) (fun c l s h => hQp c l s h) rfl (fun s' K hK => ?_) rfl rfl (fun _ => hR) ?_
                      · refine o_move ?_
                        exact hK
                      try dsimp only [putL, setL, evL, getL]
                      refine HK_readP 6 (v := .int .i64 x3214) rfl (by kernel_rfl) (fun c l s h => hQp c l s h) rfl (fun s' K hK => ?_) rfl rfl (fun _ => hR) ?_
                      · refine o_move ?_
                        exact hK
                      try dsimp only [putL, setL, evL, getL]
                      refine HK_readP 7 (v := .int .i64 (IntKind.i64.wrap (x3214 + 1))) rfl (by kernel_rfl) (fun c l s h => hQp c l s h) rfl (fun s' K hK => ?_) rfl rfl (fun _ => hR) ?_
                      · refine o_bin rfl rfl rfl ?_
                        exact hK
                      try dsimp only [putL, setL, evL, getL]
                      obtain ⟨u4804, hu4804, H⟩ := headE H
                      obtain ⟨b4804, o4804, cs4804, hA4804, hr4804, hh4804, hel4804⟩ := hH0.elo 0 rfl hu4804
                      obtain ⟨A4805, c4805, rfl, D4805⟩ := hr4804
                      refine HK_readP 8 (v := .pointer (some ⟨b4804, o4804 + Int.toNat (IntKind.i64.wrap (x3214 + 1)) * Kd.sz (Kd.sl KI), none⟩)) rfl (by kernel_rfl) (fun c l s h => hQp c l s h) rfl (fun s' K hK => ?_) rfl rfl (fun _ => hR) ?_
                      · refine hel4804 s' (sliceLen hl4685) rfl Try.underlying148 tI22 ?_
                        exact hK
                      try dsimp only [putL, setL, evL, getL]
                      refine HK_read 9 (v := .slice A4805 u4804.length c4805) rfl (by kernel_rfl) (fun c l s h => hQp c l s h) rfl (fun s' hR' K hK => ?_) rfl rfl hR ?_
                      · refine o_load' rfl Try.underlying22 rfl (has_gro hR' (hh4804 0 _ rfl)) ?_
                        exact hK
                      try dsimp only [putL, setL, evL, getL]
                      refine HK_readP 10 (v := .int .i64 x4686) rfl (by kernel_rfl) (fun c l s h => hQp c l s h) rfl (fun s' K hK => ?_) rfl rfl (fun _ => hR) ?_
                      · refine o_move ?_
                        exact hK
                      try dsimp only [putL, setL, evL, getL]
                      obtain ⟨u4806, hu4806, H⟩ := headE H
                      obtain ⟨b4806, o4806, cs4806, hr4806, hh4806, hel4806⟩ := Rd.el D4805 hu4806
                      obtain rfl := hr4806
                      refine HK_readP 11 (v := .pointer (some ⟨b4806, o4806, none⟩)) rfl (by kernel_rfl) (fun c l s h => hQp c l s h) rfl (fun s' K hK => ?_) rfl rfl (fun _ => hR) ?_
                      · refine hel4806 s' rfl rfl Try.underlying22 tI3 ?_
                        exact hK
                      try dsimp only [putL, setL, evL, getL]
                      refine HK_read 12 (v := .int .i64 u4806) rfl (by kernel_rfl) (fun c l s h => hQp c l s h) rfl (fun s' hR' K hK => ?_) rfl rfl hR ?_
                      · refine o_load' rfl Try.underlying3 rfl (has_gro hR' (hh4806 0 _ rfl)) ?_
                        exact hK
                      try dsimp only [putL, setL, evL, getL]
                      refine HK_readP 13 (v := .slice A3 x3.length c3) rfl (by kernel_rfl) (fun c l s h => hQp c l s h) rfl (fun s' K hK => ?_) rfl rfl (fun _ => hR) ?_
                      · refine o_move ?_
                        exact hK
                      try dsimp only [putL, setL, evL, getL]
                      refine HK_readP 14 (v := .int .i64 x3214) rfl (by kernel_rfl) (fun c l s h => hQp c l s h) rfl (fun s' K hK => ?_) rfl rfl (fun _ => hR) ?_
                      · refine o_move ?_
                        exact hK
                      try dsimp only [putL, setL, evL, getL]
                      obtain ⟨u4807, hu4807, H⟩ := headE H
                      obtain ⟨b4807, o4807, cs4807, hA4807, hr4807, hh4807, hel4807⟩ := hH0.elo 0 rfl hu4807
                      obtain ⟨A4808, c4808, rfl, D4808⟩ := hr4807
                      refine HK_readP 15 (v := .pointer (some ⟨b4807, o4807 + Int.toNat x3214 * Kd.sz (Kd.sl KI), none⟩)) rfl (by kernel_rfl) (fun c l s h => hQp c l s h) rfl (fun s' K hK => ?_) rfl rfl (fun _ => hR) ?_
                      · refine hel4807 s' (sliceLen hl4685) rfl Try.underlying148 tI22 ?_
                        exact hK
                      try dsimp only [putL, setL, evL, getL]
                      refine HK_read 16 (v := .slice A4808 u4807.length c4808) rfl (by kernel_rfl) (fun c l s h => hQp c l s h) rfl (fun s' hR' K hK => ?_) rfl rfl hR ?_
                      · refine o_load' rfl Try.underlying22 rfl (has_gro hR' (hh4807 0 _ rfl)) ?_
                        exact hK
                      try dsimp only [putL, setL, evL, getL]
                      refine HK_readP 17 (v := .int .i64 x4686) rfl (by kernel_rfl) (fun c l s h => hQp c l s h) rfl (fun s' K hK => ?_) rfl rfl (fun _ => hR) ?_
                      · refine o_move ?_
                        exact hK
                      try dsimp only [putL, setL, evL, getL]
                      refine HK_readP 18 (v := .int .i64 (IntKind.i64.wrap (x4686 + 1))) rfl (by kernel_rfl) (fun c l s h => hQp c l s h) rfl (fun s' K hK => ?_) rfl rfl (fun _ => hR) ?_
                      · refine o_bin rfl rfl rfl ?_
                        exact hK
                      try dsimp only [putL, setL, evL, getL]
                      obtain ⟨u4809, hu4809, H⟩ := headE H
                      obtain ⟨b4809, o4809, cs4809, hr4809, hh4809, hel4809⟩ := Rd.el D4808 hu4809
                      obtain rfl := hr4809
                      refine HK_readP 19 (v := .pointer (some ⟨b4809, o4809, none⟩)) rfl (by kernel_rfl) (fun c l s h => hQp c l s h) rfl (fun s' K hK => ?_) rfl rfl (fun _ => hR) ?_
                      · refine hel4809 s' rfl rfl Try.underlying22 tI3 ?_
                        exact hK
                      try dsimp only [putL, setL, evL, getL]
                      refine HK_read 20 (v := .int .i64 u4809) rfl (by kernel_rfl) (fun c l s h => hQp c l s h) rfl (fun s' hR' K hK => ?_) rfl rfl hR ?_
                      · refine o_load' rfl Try.underlying3 rfl (has_gro hR' (hh4809 0 _ rfl)) ?_
                        exact hK
                      try dsimp only [putL, setL, evL, getL]
                      refine HK_readP 21 (v := .int .i64 (max u4806 u4809)) rfl (by kernel_rfl) (fun c l s h => hQp c l s h) rfl (fun s' K hK => ?_) rfl rfl (fun _ => hR) ?_
                      · refine o_max2 rfl rfl ?_
                        exact hK
                      try dsimp only [putL, setL, evL, getL]
                      refine HK_readP 0 (v := .slice A3 x3.length c3) rfl (by kernel_rfl) (fun c l s h => hQp c l s h) rfl (fun s' K hK => ?_) rfl rfl (fun _ => hR) ?_
                      · refine o_move ?_
                        exact hK
                      try dsimp only [putL, setL, evL, getL]
                      refine HK_readP 1 (v := .int .i64 x3214) rfl (by kernel_rfl) (fun c l s h => hQp c l s h) rfl (fun s' K hK => ?_) rfl rfl (fun _ => hR) ?_
                      · refine o_move ?_
                        exact hK
                      try dsimp only [putL, setL, evL, getL]
                      obtain ⟨u4810, hu4810, H⟩ := headE H
                      obtain ⟨b4810, o4810, vs4810, hA4810, -, hH⟩ := hH.open 0 rfl rfl hu4810
                      dsimp only [addC, setC, rmC, selC, getC] at hH
                      obtain ⟨A4811, c4811, rfl, hH⟩ := hH.el_sl 1 rfl rfl
                      dsimp only [addC, setC, rmC, selC, getC] at hH
                      replace hH : Hp sb s F0 s4765 [Ck.oh (Ow.sl OI 3) 22 A3 c3 x4685 (Int.toNat x3214) [.slice A4811 u4810.length c4811], Ck.ol OI 3 A4811 c4811 u4810] := hH
                      refine HK_readP 2 (v := .pointer (some ⟨b4810, o4810 + Int.toNat x3214 * Kd.sz (Kd.sl KI), none⟩)) rfl (by kernel_rfl) (fun c l s h => hQp c l s h) rfl (fun s' K hK => ?_) rfl rfl (fun _ => hR) ?_
                      · refine iaddr_of (K := (Kd.sl KI)) hA4810 hu4810 s' (sliceLen hl4685) rfl Try.underlying148 tI22 ?_
                        exact hK
                      try dsimp only [putL, setL, evL, getL]
                      refine HK_read 3 (v := .slice A4811 u4810.length c4811) rfl (by kernel_rfl) (fun c l s h => hQp c l s h) rfl (fun s' hR' K hK => ?_) rfl rfl hR ?_
                      · refine o_load' rfl Try.underlying22 rfl (has_gro hR' (hH.hasoh 0 rfl hA4810 0 _ rfl)) ?_
                        exact hK
                      try dsimp only [putL, setL, evL, getL]
                      refine HK_readP 4 (v := .int .i64 x4686) rfl (by kernel_rfl) (fun c l s h => hQp c l s h) rfl (fun s' K hK => ?_) rfl rfl (fun _ => hR) ?_
                      · refine o_move ?_
                        exact hK
                      try dsimp only [putL, setL, evL, getL]
                      obtain ⟨u4812, hu4812, H⟩ := headE H
                      obtain ⟨b4812, o4812, cs4812, hA4812, hr4812, hh4812, hel4812⟩ := hH.elo 1 rfl hu4812
                      obtain rfl := hr4812
                      refine HK_readP 22 (v := .pointer (some ⟨b4812, o4812 + Int.toNat x4686 * Kd.sz KI, none⟩)) rfl (by kernel_rfl) (fun c l s h => hQp c l s h) rfl (fun s' K hK => ?_) rfl rfl (fun _ => hR) ?_
                      · refine hel4812 s' rfl rfl Try.underlying22 tI3 ?_
                        exact hK
                      try dsimp only [putL, setL, evL, getL]
                      obtain ⟨x4813, hx4813, H⟩ := headE H
                      refine HK_one 23 (by kernel_rfl) rfl (fun _ => hR) rfl ?_
                      refine o_setF (vs := [.int .i64 (max u4806 u4809)]) (u := max u4806 u4809) hH 1 rfl rfl rfl rfl rfl tI3 hA4812 hx4813 (Ent.own (Ent.flat rfl)) ?_
                      intro s4813 hH'
                      have hl4813 := st?_len hx4813
                      replace hH : Hp sb s F0 s4813 [Ck.oh (Ow.sl OI 3) 22 A3 c3 x4685 (Int.toNat x3214) [.slice A4811 u4810.length c4811], Ck.ol OI 3 A4811 c4811 x4813] := hH'
                      clear hH'
                      try dsimp only [putL, setL, evL, getL]
                      refine HK_done' (by kernel_rfl) (by kernel_rfl) ?_
                      replace hH := hH.conv [1] (by decide) (d := Ck.el (Ow.sl OI 3) [.slice A4811 u4810.length c4811] x4813) (Ent.slL hl4813)
                      dsimp only [addC, setC, rmC, selC, getC] at hH
                      obtain ⟨x4814, hx4814, H⟩ := headE H
                      replace hH := hH.close (i := x3214) 0 2 (by decide) rfl rfl rfl hx4814
                      dsimp only [addC, setC, rmC, selC, getC] at hH
                      have hl4814 := (st?_len hx4814).trans hl4685
                      replace hH : Hp sb s F0 s4813 [Ck.ol (Ow.sl OI 3) 22 A3 c3 x4814, Ck.emp, Ck.emp] := hH
                      exact hK4767 _ _ ⟨x4814, H, rfl, hH.sel [0] (by decide), hl4814⟩
                  · rintro l' s4815 ⟨x4791, H, hl, hH, hl4791⟩
                    generalize getL l' 38 = j38, getL l' 39 = j39, getL l' 40 = j40, getL l' 41 = j41, getL l' 42 = j42, getL l' 43 = j43, getL l' 44 = j44, getL l' 45 = j45, getL l' 46 = j46, getL l' 47 = j47, getL l' 48 = j48, getL l' 49 = j49, getL l' 50 = j50, getL l' 51 = j51, getL l' 52 = j52, getL l' 53 = j53, getL l' 54 = j54, getL l' 55 = j55, getL l' 56 = j56, getL l' 57 = j57, getL l' 58 = j58, getL l' 59 = j59, getL l' 60 = j60, getL l' 61 = j61, getL l' 62 = j62, getL l' 63 = j63, getL l' 64 = j64, getL l' 65 = j65, getL l' 66 = j66, getL l' 67 = j67, getL l' 68 = j68, getL l' 69 = j69, getL l' 70 = j70, getL l' 71 = j71, getL l' 72 = j72, getL l' 73 = j73, getL l' 74 = j74, getL l' 75 = j75, getL l' 76 = j76, getL l' 77 = j77, getL l' 78 = j78, getL l' 79 = j79, getL l' 80 = j80, getL l' 81 = j81, getL l' 82 = j82, getL l' 83 = j83, getL l' 84 = j84, getL l' 85 = j85 at hl
                    subst hl
                    replace H := hG4767 _ H
                    try dsimp only at H
                    refine HT_region ?_
                    refine HL_cons rfl ?_
                    refine o_move ?_
                    try dsimp only [putL, setL, evL, getL]
                    refine HL_cons rfl ?_
                    refine o_bin rfl rfl rfl ?_
                    try dsimp only [putL, setL, evL, getL]
                    refine HL_cons rfl ?_
                    refine o_assign ?_
                    try dsimp only [putL, setL, evL, getL]
                    refine HL_nil ?_
                    exact hK4752 _ _ ⟨kf, Nat.lt_succ_self kf, x4791, IntKind.i64.wrap (x4686 - 1), H, rfl, hH, hl4791⟩
                · replace H := iteF hb4766 H
                  refine HT_false (congrArg Value.bool hb4766) ?_
                  refine HT_exit ?_
                  exact hK4426 _ _ ⟨x4685, H, rfl, hH, hl4685⟩
          · rintro l' s4816 ⟨x4621, H, hl, hH, hl4621⟩
            generalize getL l' 7 = j7, getL l' 28 = j28, getL l' 29 = j29, getL l' 30 = j30, getL l' 31 = j31, getL l' 32 = j32, getL l' 33 = j33, getL l' 34 = j34, getL l' 35 = j35, getL l' 36 = j36, getL l' 37 = j37, getL l' 38 = j38, getL l' 39 = j39, getL l' 40 = j40, getL l' 41 = j41, getL l' 42 = j42, getL l' 43 = j43, getL l' 44 = j44, getL l' 45 = j45, getL l' 46 = j46, getL l' 47 = j47, getL l' 48 = j48, getL l' 49 = j49, getL l' 50 = j50, getL l' 51 = j51, getL l' 52 = j52, getL l' 53 = j53, getL l' 54 = j54, getL l' 55 = j55, getL l' 56 = j56, getL l' 57 = j57, getL l' 58 = j58, getL l' 59 = j59, getL l' 60 = j60, getL l' 61 = j61, getL l' 62 = j62, getL l' 63 = j63, getL l' 64 = j64, getL l' 65 = j65, getL l' 66 = j66, getL l' 67 = j67, getL l' 68 = j68, getL l' 69 = j69, getL l' 70 = j70, getL l' 71 = j71, getL l' 72 = j72, getL l' 73 = j73, getL l' 74 = j74, getL l' 75 = j75, getL l' 76 = j76, getL l' 77 = j77, getL l' 78 = j78, getL l' 79 = j79, getL l' 80 = j80, getL l' 81 = j81, getL l' 82 = j82, getL l' 83 = j83, getL l' 84 = j84, getL l' 85 = j85 at hl
            subst hl
            replace H := hG4426 _ H
            try dsimp only at H
            exact hK4021 _ _ ⟨x4621, H, rfl, hH, hl4621⟩
        · rintro l' s4817 ⟨x4419, H, hl, hH, hl4419⟩
          generalize getL l' 7 = j7, getL l' 18 = j18, getL l' 19 = j19, getL l' 20 = j20, getL l' 21 = j21, getL l' 22 = j22, getL l' 23 = j23, getL l' 24 = j24, getL l' 25 = j25, getL l' 26 = j26, getL l' 27 = j27, getL l' 28 = j28, getL l' 29 = j29, getL l' 30 = j30, getL l' 31 = j31, getL l' 32 = j32, getL l' 33 = j33, getL l' 34 = j34, getL l' 35 = j35, getL l' 36 = j36, getL l' 37 = j37, getL l' 38 = j38, getL l' 39 = j39, getL l' 40 = j40, getL l' 41 = j41, getL l' 42 = j42, getL l' 43 = j43, getL l' 44 = j44, getL l' 45 = j45, getL l' 46 = j46, getL l' 47 = j47, getL l' 48 = j48, getL l' 49 = j49, getL l' 50 = j50, getL l' 51 = j51, getL l' 52 = j52, getL l' 53 = j53, getL l' 54 = j54, getL l' 55 = j55, getL l' 56 = j56, getL l' 57 = j57, getL l' 58 = j58, getL l' 59 = j59, getL l' 60 = j60, getL l' 61 = j61, getL l' 62 = j62, getL l' 63 = j63, getL l' 64 = j64, getL l' 65 = j65, getL l' 66 = j66, getL l' 67 = j67, getL l' 68 = j68, getL l' 69 = j69, getL l' 70 = j70, getL l' 71 = j71, getL l' 72 = j72, getL l' 73 = j73, getL l' 74 = j74, getL l' 75 = j75, getL l' 76 = j76, getL l' 77 = j77, getL l' 78 = j78, getL l' 79 = j79, getL l' 80 = j80, getL l' 81 = j81, getL l' 82 = j82, getL l' 83 = j83, getL l' 84 = j84, getL l' 85 = j85 at hl
          subst hl
          replace H := hG4021 _ H
          try dsimp only at H
          refine HT_region ?_
          refine HL_cons rfl ?_
          refine o_move ?_
          try dsimp only [putL, setL, evL, getL]
          refine HL_cons rfl ?_
          refine o_bin rfl rfl rfl ?_
          try dsimp only [putL, setL, evL, getL]
          refine HL_cons rfl ?_
          refine o_assign ?_
          try dsimp only [putL, setL, evL, getL]
          refine HL_nil ?_
          exact hK4017 _ _ ⟨kf, Nat.lt_succ_self kf, x4419, IntKind.i64.wrap (x3214 - 1), H, rfl, hH, hl4419⟩
      · replace H := iteF hb4020 H
        refine HT_false (congrArg Value.bool hb4020) ?_
        refine HT_exit ?_
        exact hK6 _ _ ⟨x3213, H, rfl, hH, hl3213⟩
  · rintro l' s4818 ⟨x2412, H, hl, hH, hl2412⟩
    generalize getL l' 6 = j6, getL l' 7 = j7, getL l' 14 = j14, getL l' 15 = j15, getL l' 16 = j16, getL l' 17 = j17, getL l' 18 = j18, getL l' 19 = j19, getL l' 20 = j20, getL l' 21 = j21, getL l' 22 = j22, getL l' 23 = j23, getL l' 24 = j24, getL l' 25 = j25, getL l' 26 = j26, getL l' 27 = j27, getL l' 28 = j28, getL l' 29 = j29, getL l' 30 = j30, getL l' 31 = j31, getL l' 32 = j32, getL l' 33 = j33, getL l' 34 = j34, getL l' 35 = j35, getL l' 36 = j36, getL l' 37 = j37, getL l' 38 = j38, getL l' 39 = j39, getL l' 40 = j40, getL l' 41 = j41, getL l' 42 = j42, getL l' 43 = j43, getL l' 44 = j44, getL l' 45 = j45, getL l' 46 = j46, getL l' 47 = j47, getL l' 48 = j48, getL l' 49 = j49, getL l' 50 = j50, getL l' 51 = j51, getL l' 52 = j52, getL l' 53 = j53, getL l' 54 = j54, getL l' 55 = j55, getL l' 56 = j56, getL l' 57 = j57, getL l' 58 = j58, getL l' 59 = j59, getL l' 60 = j60, getL l' 61 = j61, getL l' 62 = j62, getL l' 63 = j63, getL l' 64 = j64, getL l' 65 = j65, getL l' 66 = j66, getL l' 67 = j67, getL l' 68 = j68, getL l' 69 = j69, getL l' 70 = j70, getL l' 71 = j71, getL l' 72 = j72, getL l' 73 = j73, getL l' 74 = j74, getL l' 75 = j75, getL l' 76 = j76, getL l' 77 = j77, getL l' 78 = j78, getL l' 79 = j79, getL l' 80 = j80, getL l' 81 = j81, getL l' 82 = j82, getL l' 83 = j83, getL l' 84 = j84, getL l' 85 = j85 at hl
    subst hl
    replace H := hG6 _ H
    try dsimp only at H
    refine hK4 _ _ ?_
    refine HT_seq_k ?_
    intro K4819 hK4819
    refine HT_region ?_
    refine HL_cons rfl ?_
    refine o_move ?_
    try dsimp only [putL, setL, evL, getL]
    refine HL_cons rfl ?_
    refine o_assign ?_
    try dsimp only [putL, setL, evL, getL]
    refine HL_nil ?_
    refine hK4819 _ _ ?_
    refine HT_ret ?_
    obtain rfl := Option.some.inj (show some _ = some r from H)
    exact hQr _ _ [.slice A3 x3.length c3] ⟨rfl, trivial⟩ ⟨A3, c3, (by first | (rw [hl2412]; first | done | rfl) | rfl), hH⟩
def impl_DiffOf_1.f (p0 : Int) (p1 : Int) (pf0_0 : List ((Int) × (List (Int)))) : Option (List ((Int) × (List (Int)))) := (if (decide ((IntKind.i64.wrap ((pf0_0.length : Int) - 1)) ≥ 0)) = true then ((rd? pf0_0 (IntKind.i64.wrap ((pf0_0.length : Int) - 1))).bind fun u40 => some (u40.1 == p0)) else (some false)).bind fun (o : Bool) => match o with | x38 => (if x38 = true then ((rd? pf0_0 (IntKind.i64.wrap ((pf0_0.length : Int) - 1))).bind fun u45 => (app? 17592186044416 u45.2 [p1]).bind fun x50 => (st? pf0_0 (IntKind.i64.wrap ((pf0_0.length : Int) - 1)) (u45.1, x50)).bind fun x53 => some x53) else ((app? 4398046511104 pf0_0 [(p0, [p1])]).bind fun x65 => some x65))
def impl_DiffOf_1.post (sb s : St) (F0 : Fp) (bpf0 : Nat) (r : (List ((Int) × (List (Int))))) : Value → St → Prop := fun v s' => ∃ (A0 : Option Addr) (c0 : Nat), v = .tuple #[] ∧ Hp sb s F0 s' [Ck.ol OS99 99 A0 c0 r, Ck.ov bpf0 [.slice A0 r.length c0] 40]
set_option maxRecDepth 100000 in
set_option maxHeartbeats 4000000 in
theorem impl_DiffOf_1.ok (sb s : St) (F0 : Fp) (p0 : Int) (p1 : Int) (bpf0 : Nat) (Af0_0p : Option Addr) (cf0_0p : Nat) (pf0_0 : List ((Int) × (List (Int)))) (hH : Hp sb s F0 s [Ck.ov bpf0 [.slice Af0_0p pf0_0.length cf0_0p] 40, Ck.ol OS99 99 Af0_0p cf0_0p pf0_0]) (r : (List ((Int) × (List (Int))))) (H : impl_DiffOf_1.f p0 p1 pf0_0 = some r) : GCall Try.prog 98 #[.int .i64 p0, .int .i64 p1, .pointer (some ⟨bpf0, 0, none⟩)] s (impl_DiffOf_1.post sb s F0 bpf0 r) := by
  refine GCall_ofk [] [.int .i64 p0, .int .i64 p1, .pointer (some ⟨bpf0, 0, none⟩), undef, undef, undef, undef, undef, undef, undef, undef, undef, undef, undef, undef, undef, undef, undef, undef, undef, undef, undef, undef, undef, undef, undef, undef, undef, undef, undef, undef, undef, undef, undef, undef, undef, undef, undef, undef] Try.func98 rfl rfl rfl ?_
  intro w Q hQr hQn hQp
  replace H := topE H
  unfold impl_DiffOf_1.f at H
  refine HT_seq_k ?_
  intro K32 hK32
  refine HT_seq_k ?_
  intro K33 hK33
  refine HT_region ?_
  refine HL_cons rfl ?_
  refine o_load' rfl Try.underlying40 rfl (hH.hasv 0 rfl rfl) ?_
  try dsimp only [putL, setL, evL, getL]
  refine HL_cons rfl ?_
  refine o_len rfl Try.underlying40 ?_
  try dsimp only [putL, setL, evL, getL]
  refine HL_cons rfl ?_
  refine o_bin rfl rfl rfl ?_
  try dsimp only [putL, setL, evL, getL]
  refine HL_cons rfl ?_
  refine o_assign ?_
  try dsimp only [putL, setL, evL, getL]
  refine HL_nil ?_
  refine hK33 _ _ ?_
  refine joinH H fun G34 hG34 H => ?_
  refine HT_joinK (fun l' s' => ∃ (x38 : Bool), G34 x38 = some r ∧ l' = [.int .i64 p0, .int .i64 p1, .pointer (some ⟨bpf0, 0, none⟩), undef, undef, .int .i64 (IntKind.i64.wrap ((pf0_0.length : Int) - 1)), .slice Af0_0p pf0_0.length cf0_0p, .int .i64 (pf0_0.length : Int), .int .i64 (IntKind.i64.wrap ((pf0_0.length : Int) - 1)), getL l' 9, getL l' 10, getL l' 11, getL l' 12, getL l' 13, getL l' 14, getL l' 15, getL l' 16, getL l' 17, getL l' 18, .bool x38, undef, undef, undef, undef, undef, undef, undef, undef, undef, undef, undef, undef, undef, undef, undef, undef, undef, undef, undef] ∧ Hp sb s F0 s' [Ck.ol OS99 99 Af0_0p cf0_0p pf0_0, Ck.ov bpf0 [.slice Af0_0p pf0_0.length cf0_0p] 40]) ?_ ?_
  · intro K34 hK34
    refine HT_region ?_
    refine HL_cons rfl ?_
    refine o_move ?_
    try dsimp only [putL, setL, evL, getL]
    refine HL_cons rfl ?_
    refine o_bin rfl rfl rfl ?_
    try dsimp only [putL, setL, evL, getL]
    refine HL_cons rfl ?_
    refine o_move ?_
    try dsimp only [putL, setL, evL, getL]
    rcases Bool.eq_false_or_eq_true (decide ((IntKind.i64.wrap ((pf0_0.length : Int) - 1)) ≥ 0)) with hb39 | hb39
    · replace H := iteT hb39 H
      refine HL_want ?_ ?_
      · exact wantT (j := 2) (b := true) (t := 11) (c := decide ((IntKind.i64.wrap ((pf0_0.length : Int) - 1)) ≥ 0)) rfl rfl rfl rfl hb39
      refine o_load' rfl Try.underlying40 rfl (hH.hasv 0 rfl rfl) ?_
      try dsimp only [putL, setL, evL, getL]
      refine HL_want ?_ ?_
      · exact wantT (j := 2) (b := true) (t := 11) (c := decide ((IntKind.i64.wrap ((pf0_0.length : Int) - 1)) ≥ 0)) rfl rfl rfl rfl hb39
      refine o_move ?_
      try dsimp only [putL, setL, evL, getL]
      obtain ⟨u40, hu40, H⟩ := headE H
      obtain ⟨b40, o40, cs40, hA40, hr40, hh40, hel40⟩ := hH.elo 1 rfl hu40
      obtain ⟨_, _, rfl, rfl, ⟨A41, c41, rfl, D41⟩⟩ := hr40
      refine HL_want ?_ ?_
      · exact wantT (j := 2) (b := true) (t := 11) (c := decide ((IntKind.i64.wrap ((pf0_0.length : Int) - 1)) ≥ 0)) rfl rfl rfl rfl hb39
      refine hel40 s rfl rfl Try.underlying40 tI99 ?_
      try dsimp only [putL, setL, evL, getL]
      refine HL_want ?_ ?_
      · exact wantT (j := 2) (b := true) (t := 11) (c := decide ((IntKind.i64.wrap ((pf0_0.length : Int) - 1)) ≥ 0)) rfl rfl rfl rfl hb39
      refine o_faddr' (ft := 3) (off := 0) rfl Try.underlying99 rfl tI3 (by decide) ?_
      try dsimp only [putL, setL, evL, getL]
      refine HL_want ?_ ?_
      · exact wantT (j := 2) (b := true) (t := 11) (c := decide ((IntKind.i64.wrap ((pf0_0.length : Int) - 1)) ≥ 0)) rfl rfl rfl rfl hb39
      refine o_load' rfl Try.underlying3 rfl (hh40 0 _ rfl) ?_
      try dsimp only [putL, setL, evL, getL]
      refine HL_want ?_ ?_
      · exact wantT (j := 2) (b := true) (t := 11) (c := decide ((IntKind.i64.wrap ((pf0_0.length : Int) - 1)) ≥ 0)) rfl rfl rfl rfl hb39
      refine o_move ?_
      try dsimp only [putL, setL, evL, getL]
      refine HL_want ?_ ?_
      · exact wantT (j := 2) (b := true) (t := 11) (c := decide ((IntKind.i64.wrap ((pf0_0.length : Int) - 1)) ≥ 0)) rfl rfl rfl rfl hb39
      refine o_bin rfl rfl rfl ?_
      try dsimp only [putL, setL, evL, getL]
      refine HL_cons rfl ?_
      refine o_pickT rfl hb39 ?_
      try dsimp only [putL, setL, evL, getL]
      refine HL_nil ?_
      exact hK34 _ _ ⟨u40.1 == p0, H, rfl, hH.sel [1, 0] (by decide)⟩
    · replace H := iteF hb39 H
      refine HL_skip ?_ ?_
      · exact wantF (j := 2) (b := true) (t := 11) (c := decide ((IntKind.i64.wrap ((pf0_0.length : Int) - 1)) ≥ 0)) rfl rfl rfl rfl hb39
      try dsimp only [putL, setL, evL, getL]
      refine HL_skip ?_ ?_
      · exact wantF (j := 2) (b := true) (t := 11) (c := decide ((IntKind.i64.wrap ((pf0_0.length : Int) - 1)) ≥ 0)) rfl rfl rfl rfl hb39
      try dsimp only [putL, setL, evL, getL]
      refine HL_skip ?_ ?_
      · exact wantF (j := 2) (b := true) (t := 11) (c := decide ((IntKind.i64.wrap ((pf0_0.length : Int) - 1)) ≥ 0)) rfl rfl rfl rfl hb39
      try dsimp only [putL, setL, evL, getL]
      refine HL_skip ?_ ?_
      · exact wantF (j := 2) (b := true) (t := 11) (c := decide ((IntKind.i64.wrap ((pf0_0.length : Int) - 1)) ≥ 0)) rfl rfl rfl rfl hb39
      try dsimp only [putL, setL, evL, getL]
      refine HL_skip ?_ ?_
      · exact wantF (j := 2) (b := true) (t := 11) (c := decide ((IntKind.i64.wrap ((pf0_0.length : Int) - 1)) ≥ 0)) rfl rfl rfl rfl hb39
      try dsimp only [putL, setL, evL, getL]
      refine HL_skip ?_ ?_
      · exact wantF (j := 2) (b := true) (t := 11) (c := decide ((IntKind.i64.wrap ((pf0_0.length : Int) - 1)) ≥ 0)) rfl rfl rfl rfl hb39
      try dsimp only [putL, setL, evL, getL]
      refine HL_skip ?_ ?_
      · exact wantF (j := 2) (b := true) (t := 11) (c := decide ((IntKind.i64.wrap ((pf0_0.length : Int) - 1)) ≥ 0)) rfl rfl rfl rfl hb39
      try dsimp only [putL, setL, evL, getL]
      refine HL_cons rfl ?_
      refine o_pickF rfl hb39 ?_
      try dsimp only [putL, setL, evL, getL]
      refine HL_nil ?_
      exact hK34 _ _ ⟨false, H, rfl, hH.sel [1, 0] (by decide)⟩
  · rintro l' s42 ⟨x38, H, hl, hH⟩
    generalize getL l' 9 = j9, getL l' 10 = j10, getL l' 11 = j11, getL l' 12 = j12, getL l' 13 = j13, getL l' 14 = j14, getL l' 15 = j15, getL l' 16 = j16, getL l' 17 = j17, getL l' 18 = j18 at hl
    subst hl
    replace H := hG34 _ H
    try dsimp only at H
    rcases Bool.eq_false_or_eq_true x38 with hb43 | hb43
    · replace H := iteT hb43 H
      refine HT_true (congrArg Value.bool hb43) ?_
      refine HT_seq_k ?_
      intro K44 hK44
      refine HK_draw (fun s' => Gro s42 s') 9 hMix ?_
      have hR := Gro.refl s42
      have hH0 := hH
      refine HK_read 2 (v := .slice Af0_0p pf0_0.length cf0_0p) rfl (by kernel_rfl) (fun c l s h => hQp c l s h) rfl (fun s' hR' K hK => ?_) rfl rfl hR ?_
      · refine o_load' rfl Try.underlying40 rfl (has_gro hR' (hH0.hasv 1 rfl rfl)) ?_
        exact hK
      try dsimp only [putL, setL, evL, getL]
      refine HK_readP 3 (v := .int .i64 (IntKind.i64.wrap ((pf0_0.length : Int) - 1))) rfl (by kernel_rfl) (fun c l s h => hQp c l s h) rfl (fun s' K hK => ?_) rfl rfl (fun _ => hR) ?_
      · refine o_move ?_
        exact hK
      try dsimp only [putL, setL, evL, getL]
      obtain ⟨u45, hu45, H⟩ := headE H
      obtain ⟨b45, o45, vs45, hA45, -, hH⟩ := hH.open 0 rfl rfl hu45
      dsimp only [addC, setC, rmC, selC, getC] at hH
      obtain ⟨v46, v47, rfl, hH⟩ := hH.el_pair 2 rfl rfl
      dsimp only [addC, setC, rmC, selC, getC] at hH
      obtain rfl := hH.el_rep 2 rfl
      replace hH := hH.drop 2 rfl
      dsimp only [addC, setC, rmC, selC, getC] at hH
      obtain ⟨A48, c48, rfl, hH⟩ := hH.el_sl 3 rfl rfl
      dsimp only [addC, setC, rmC, selC, getC] at hH
      replace hH : Hp sb s F0 s42 [Ck.oh OS99 99 Af0_0p cf0_0p pf0_0 (Int.toNat (IntKind.i64.wrap ((pf0_0.length : Int) - 1))) [.int .i64 u45.1, .slice A48 u45.2.length c48], Ck.ov bpf0 [.slice Af0_0p pf0_0.length cf0_0p] 40, Ck.emp, Ck.ol OI 3 A48 c48 u45.2] := hH
      refine HK_readP 4 (v := .pointer (some ⟨b45, o45 + Int.toNat (IntKind.i64.wrap ((pf0_0.length : Int) - 1)) * Kd.sz KS99, none⟩)) rfl (by kernel_rfl) (fun c l s h => hQp c l s h) rfl (fun s' K hK => ?_) rfl rfl (fun _ => hR) ?_
      · refine iaddr_of (K := KS99) hA45 hu45 s' rfl rfl Try.underlying40 tI99 ?_
        exact hK
      try dsimp only [putL, setL, evL, getL]
      refine HK_readP 5 (v := .pointer (some ⟨b45, o45 + Int.toNat (IntKind.i64.wrap ((pf0_0.length : Int) - 1)) * Kd.sz KS99 + 1, none⟩)) rfl (by kernel_rfl) (fun c l s h => hQp c l s h) rfl (fun s' K hK => ?_) rfl rfl (fun _ => hR) ?_
      · refine o_faddr' (ft := 22) (off := 1) rfl Try.underlying99 rfl tI22 (by decide) ?_
        exact hK
      try dsimp only [putL, setL, evL, getL]
      refine HK_read 6 (v := .slice A48 u45.2.length c48) rfl (by kernel_rfl) (fun c l s h => hQp c l s h) rfl (fun s' hR' K hK => ?_) rfl rfl hR ?_
      · refine o_load' rfl Try.underlying22 rfl (has_gro hR' (hH.hasoh 0 rfl hA45 1 _ rfl)) ?_
        exact hK
      try dsimp only [putL, setL, evL, getL]
      refine HK_readP 7 (v := .int .i64 p1) rfl (by kernel_rfl) (fun c l s h => hQp c l s h) rfl (fun s' K hK => ?_) rfl rfl (fun _ => hR) ?_
      · refine o_move ?_
        exact hK
      try dsimp only [putL, setL, evL, getL]
      refine HK_readP 1 (v := .int .i64 (IntKind.i64.wrap ((pf0_0.length : Int) - 1))) rfl (by kernel_rfl) (fun c l s h => hQp c l s h) rfl (fun s' K hK => ?_) rfl rfl (fun _ => hR) ?_
      · refine o_move ?_
        exact hK
      try dsimp only [putL, setL, evL, getL]
      refine HK_two 0 8 (by kernel_rfl) rfl rfl (fun _ => hR) rfl rfl ?_ ?_
      · skip
        refine o_load' rfl Try.underlying40 rfl (hH.hasv 1 rfl rfl) ?_
        try dsimp only [putL, setL, evL, getL]
        refine HK_one 8 (by kernel_rfl) rfl (fun _ => hR) rfl ?_
        refine o_litF (K := KI) (O := OI) (ca := #[.int .i64 p1]) [[.int .i64 p1]] [p1] hH Try.underlying22 tI3 rfl (by decide) rfl rfl rfl rfl ⟨rfl, Ent.own (Ent.flat rfl), trivial⟩ ?_
        intro A49 s49 hH' hG
        replace hR := hR.trans hG
        replace hH : Hp sb s F0 s49 [Ck.oh OS99 99 Af0_0p cf0_0p pf0_0 (Int.toNat (IntKind.i64.wrap ((pf0_0.length : Int) - 1))) [.int .i64 u45.1, .slice A48 u45.2.length c48], Ck.ov bpf0 [.slice Af0_0p pf0_0.length cf0_0p] 40, Ck.emp, Ck.ol OI 3 A48 c48 u45.2, Ck.ol OI 3 A49 1 [p1]] := hH'
        clear hH' hG
        try dsimp only [putL, setL, evL, getL]
        obtain ⟨x50, hx50, H⟩ := headE H
        refine HK_one 9 (by kernel_rfl) rfl (fun _ => hR) rfl ?_
        refine o_appF (K := KI) (n := 17592186044416) (A := A48) (c := c48) (xs := u45.2) (ys := [p1]) (B := A49) (c2 := 1) hH 3 rfl rfl rfl rfl Try.underlying22 tI3 rfl (by decide) (by decide) (by decide) (Src.flat (hH.rd 4 rfl)) hx50 ?_
        intro A50 c50 s50 hH'
        replace hH : Hp sb s F0 s50 [Ck.oh OS99 99 Af0_0p cf0_0p pf0_0 (Int.toNat (IntKind.i64.wrap ((pf0_0.length : Int) - 1))) [.int .i64 u45.1, .slice A48 u45.2.length c48], Ck.ov bpf0 [.slice Af0_0p pf0_0.length cf0_0p] 40, Ck.emp, Ck.ol OI 3 A50 c50 x50, Ck.ol OI 3 A49 1 [p1]] := hH'
        clear hH'
        try dsimp only [putL, setL, evL, getL]
        refine HK_readP 10 (v := .pointer (some ⟨b45, o45 + Int.toNat (IntKind.i64.wrap ((pf0_0.length : Int) - 1)) * Kd.sz KS99, none⟩)) rfl (by kernel_rfl) (fun c l s h => hQp c l s h) rfl (fun s' K hK => ?_) rfl rfl (fun h => by cases h) ?_
        · refine iaddr_of (K := KS99) hA45 hu45 s' rfl rfl Try.underlying40 tI99 ?_
          exact hK
        try dsimp only [putL, setL, evL, getL]
        refine HK_readP 11 (v := .pointer (some ⟨b45, o45 + Int.toNat (IntKind.i64.wrap ((pf0_0.length : Int) - 1)) * Kd.sz KS99 + 1, none⟩)) rfl (by kernel_rfl) (fun c l s h => hQp c l s h) rfl (fun s' K hK => ?_) rfl rfl (fun h => by cases h) ?_
        · refine o_faddr' (ft := 22) (off := 1) rfl Try.underlying99 rfl tI22 (by decide) ?_
          exact hK
        try dsimp only [putL, setL, evL, getL]
        refine HK_one 12 (by kernel_rfl) rfl (fun h => by cases h) rfl ?_
        refine o_seth (off := 1) (vs' := [.int .i64 u45.1, .slice A50 x50.length c50]) hH 0 rfl rfl rfl rfl rfl tI22 hA45 rfl rfl ?_
        intro s52 hH'
        replace hH : Hp sb s F0 s52 [Ck.oh OS99 99 Af0_0p cf0_0p pf0_0 (Int.toNat (IntKind.i64.wrap ((pf0_0.length : Int) - 1))) [.int .i64 u45.1, .slice A50 x50.length c50], Ck.ov bpf0 [.slice Af0_0p pf0_0.length cf0_0p] 40, Ck.emp, Ck.ol OI 3 A50 c50 x50, Ck.ol OI 3 A49 1 [p1]] := hH'
        clear hH'
        try dsimp only [putL, setL, evL, getL]
        refine HK_done' (by kernel_rfl) (by kernel_rfl) ?_
        refine hK44 _ _ ?_
        refine HT_ret ?_
        replace hH := hH.conv [3] (by decide) (d := Ck.el OS99 [.int .i64 u45.1, .slice A50 x50.length c50] (u45.1, x50)) (Ent.pair (v1 := [.int .i64 u45.1]) (v2 := [.slice A50 x50.length c50]) (x1 := u45.1) (x2 := x50) (Ent.flat rfl) Ent.sl)
        dsimp only [addC, setC, rmC, selC, getC] at hH
        obtain ⟨x53, hx53, H⟩ := headE H
        replace hH := hH.close (i := IntKind.i64.wrap ((pf0_0.length : Int) - 1)) 0 5 (by decide) rfl rfl rfl hx53
        dsimp only [addC, setC, rmC, selC, getC] at hH
        have hl53 := st?_len hx53
        replace hH : Hp sb s F0 s52 [Ck.ol OS99 99 Af0_0p cf0_0p x53, Ck.ov bpf0 [.slice Af0_0p pf0_0.length cf0_0p] 40, Ck.emp, Ck.emp, Ck.ol OI 3 A49 1 [p1], Ck.emp] := hH
        replace hH : Hp sb s F0 s52 [Ck.ol OS99 99 Af0_0p cf0_0p x53, Ck.ov bpf0 [.slice Af0_0p x53.length cf0_0p] 40, Ck.emp, Ck.emp, Ck.ol OI 3 A49 1 [p1], Ck.emp] := by rw [hl53]; exact hH
        obtain rfl := Option.some.inj (show some _ = some r from H)
        exact hQr _ _ [] trivial ⟨Af0_0p, cf0_0p, rfl, hH.sel [0, 1] (by decide)⟩
      · skip
        refine o_litF (K := KI) (O := OI) (ca := #[.int .i64 p1]) [[.int .i64 p1]] [p1] hH Try.underlying22 tI3 rfl (by decide) rfl rfl rfl rfl ⟨rfl, Ent.own (Ent.flat rfl), trivial⟩ ?_
        intro A54 s54 hH' hG
        replace hR := hR.trans hG
        replace hH : Hp sb s F0 s54 [Ck.oh OS99 99 Af0_0p cf0_0p pf0_0 (Int.toNat (IntKind.i64.wrap ((pf0_0.length : Int) - 1))) [.int .i64 u45.1, .slice A48 u45.2.length c48], Ck.ov bpf0 [.slice Af0_0p pf0_0.length cf0_0p] 40, Ck.emp, Ck.ol OI 3 A48 c48 u45.2, Ck.ol OI 3 A54 1 [p1]] := hH'
        clear hH' hG
        try dsimp only [putL, setL, evL, getL]
        refine HK_two 0 9 (by kernel_rfl) rfl rfl (fun _ => hR) rfl rfl ?_ ?_
        · skip
          refine o_load' rfl Try.underlying40 rfl (hH.hasv 1 rfl rfl) ?_
          try dsimp only [putL, setL, evL, getL]
          obtain ⟨x55, hx55, H⟩ := headE H
          refine HK_one 9 (by kernel_rfl) rfl (fun _ => hR) rfl ?_
          refine o_appF (K := KI) (n := 17592186044416) (A := A48) (c := c48) (xs := u45.2) (ys := [p1]) (B := A54) (c2 := 1) hH 3 rfl rfl rfl rfl Try.underlying22 tI3 rfl (by decide) (by decide) (by decide) (Src.flat (hH.rd 4 rfl)) hx55 ?_
          intro A55 c55 s55 hH'
          replace hH : Hp sb s F0 s55 [Ck.oh OS99 99 Af0_0p cf0_0p pf0_0 (Int.toNat (IntKind.i64.wrap ((pf0_0.length : Int) - 1))) [.int .i64 u45.1, .slice A48 u45.2.length c48], Ck.ov bpf0 [.slice Af0_0p pf0_0.length cf0_0p] 40, Ck.emp, Ck.ol OI 3 A55 c55 x55, Ck.ol OI 3 A54 1 [p1]] := hH'
          clear hH'
          try dsimp only [putL, setL, evL, getL]
          refine HK_readP 10 (v := .pointer (some ⟨b45, o45 + Int.toNat (IntKind.i64.wrap ((pf0_0.length : Int) - 1)) * Kd.sz KS99, none⟩)) rfl (by kernel_rfl) (fun c l s h => hQp c l s h) rfl (fun s' K hK => ?_) rfl rfl (fun h => by cases h) ?_
          · refine iaddr_of (K := KS99) hA45 hu45 s' rfl rfl Try.underlying40 tI99 ?_
            exact hK
          try dsimp only [putL, setL, evL, getL]
          refine HK_readP 11 (v := .pointer (some ⟨b45, o45 + Int.toNat (IntKind.i64.wrap ((pf0_0.length : Int) - 1)) * Kd.sz KS99 + 1, none⟩)) rfl (by kernel_rfl) (fun c l s h => hQp c l s h) rfl (fun s' K hK => ?_) rfl rfl (fun h => by cases h) ?_
          · refine o_faddr' (ft := 22) (off := 1) rfl Try.underlying99 rfl tI22 (by decide) ?_
            exact hK
          try dsimp only [putL, setL, evL, getL]
          refine HK_one 12 (by kernel_rfl) rfl (fun h => by cases h) rfl ?_
          refine o_seth (off := 1) (vs' := [.int .i64 u45.1, .slice A55 x55.length c55]) hH 0 rfl rfl rfl rfl rfl tI22 hA45 rfl rfl ?_
          intro s57 hH'
          replace hH : Hp sb s F0 s57 [Ck.oh OS99 99 Af0_0p cf0_0p pf0_0 (Int.toNat (IntKind.i64.wrap ((pf0_0.length : Int) - 1))) [.int .i64 u45.1, .slice A55 x55.length c55], Ck.ov bpf0 [.slice Af0_0p pf0_0.length cf0_0p] 40, Ck.emp, Ck.ol OI 3 A55 c55 x55, Ck.ol OI 3 A54 1 [p1]] := hH'
          clear hH'
          try dsimp only [putL, setL, evL, getL]
          refine HK_done' (by kernel_rfl) (by kernel_rfl) ?_
          refine hK44 _ _ ?_
          refine HT_ret ?_
          replace hH := hH.conv [3] (by decide) (d := Ck.el OS99 [.int .i64 u45.1, .slice A55 x55.length c55] (u45.1, x55)) (Ent.pair (v1 := [.int .i64 u45.1]) (v2 := [.slice A55 x55.length c55]) (x1 := u45.1) (x2 := x55) (Ent.flat rfl) Ent.sl)
          dsimp only [addC, setC, rmC, selC, getC] at hH
          obtain ⟨x58, hx58, H⟩ := headE H
          replace hH := hH.close (i := IntKind.i64.wrap ((pf0_0.length : Int) - 1)) 0 5 (by decide) rfl rfl rfl hx58
          dsimp only [addC, setC, rmC, selC, getC] at hH
          have hl58 := st?_len hx58
          replace hH : Hp sb s F0 s57 [Ck.ol OS99 99 Af0_0p cf0_0p x58, Ck.ov bpf0 [.slice Af0_0p pf0_0.length cf0_0p] 40, Ck.emp, Ck.emp, Ck.ol OI 3 A54 1 [p1], Ck.emp] := hH
          replace hH : Hp sb s F0 s57 [Ck.ol OS99 99 Af0_0p cf0_0p x58, Ck.ov bpf0 [.slice Af0_0p x58.length cf0_0p] 40, Ck.emp, Ck.emp, Ck.ol OI 3 A54 1 [p1], Ck.emp] := by rw [hl58]; exact hH
          obtain rfl := Option.some.inj (show some _ = some r from H)
          exact hQr _ _ [] trivial ⟨Af0_0p, cf0_0p, rfl, hH.sel [0, 1] (by decide)⟩
        · obtain ⟨x59, hx59, H⟩ := headE H
          skip
          refine o_appF (K := KI) (n := 17592186044416) (A := A48) (c := c48) (xs := u45.2) (ys := [p1]) (B := A54) (c2 := 1) hH 3 rfl rfl rfl rfl Try.underlying22 tI3 rfl (by decide) (by decide) (by decide) (Src.flat (hH.rd 4 rfl)) hx59 ?_
          intro A59 c59 s59 hH'
          replace hH : Hp sb s F0 s59 [Ck.oh OS99 99 Af0_0p cf0_0p pf0_0 (Int.toNat (IntKind.i64.wrap ((pf0_0.length : Int) - 1))) [.int .i64 u45.1, .slice A48 u45.2.length c48], Ck.ov bpf0 [.slice Af0_0p pf0_0.length cf0_0p] 40, Ck.emp, Ck.ol OI 3 A59 c59 x59, Ck.ol OI 3 A54 1 [p1]] := hH'
          clear hH'
          try dsimp only [putL, setL, evL, getL]
          refine HK_one 0 (by kernel_rfl) rfl (fun h => by cases h) rfl ?_
          refine o_load' rfl Try.underlying40 rfl (hH.hasv 1 rfl rfl) ?_
          try dsimp only [putL, setL, evL, getL]
          refine HK_readP 10 (v := .pointer (some ⟨b45, o45 + Int.toNat (IntKind.i64.wrap ((pf0_0.length : Int) - 1)) * Kd.sz KS99, none⟩)) rfl (by kernel_rfl) (fun c l s h => hQp c l s h) rfl (fun s' K hK => ?_) rfl rfl (fun h => by cases h) ?_
          · refine iaddr_of (K := KS99) hA45 hu45 s' rfl rfl Try.underlying40 tI99 ?_
            exact hK
          try dsimp only [putL, setL, evL, getL]
          refine HK_readP 11 (v := .pointer (some ⟨b45, o45 + Int.toNat (IntKind.i64.wrap ((pf0_0.length : Int) - 1)) * Kd.sz KS99 + 1, none⟩)) rfl (by kernel_rfl) (fun c l s h => hQp c l s h) rfl (fun s' K hK => ?_) rfl rfl (fun h => by cases h) ?_
          · refine o_faddr' (ft := 22) (off := 1) rfl Try.underlying99 rfl tI22 (by decide) ?_
            exact hK
          try dsimp only [putL, setL, evL, getL]
          refine HK_one 12 (by kernel_rfl) rfl (fun h => by cases h) rfl ?_
          refine o_seth (off := 1) (vs' := [.int .i64 u45.1, .slice A59 x59.length c59]) hH 0 rfl rfl rfl rfl rfl tI22 hA45 rfl rfl ?_
          intro s61 hH'
          replace hH : Hp sb s F0 s61 [Ck.oh OS99 99 Af0_0p cf0_0p pf0_0 (Int.toNat (IntKind.i64.wrap ((pf0_0.length : Int) - 1))) [.int .i64 u45.1, .slice A59 x59.length c59], Ck.ov bpf0 [.slice Af0_0p pf0_0.length cf0_0p] 40, Ck.emp, Ck.ol OI 3 A59 c59 x59, Ck.ol OI 3 A54 1 [p1]] := hH'
          clear hH'
          try dsimp only [putL, setL, evL, getL]
          refine HK_done' (by kernel_rfl) (by kernel_rfl) ?_
          refine hK44 _ _ ?_
          refine HT_ret ?_
          replace hH := hH.conv [3] (by decide) (d := Ck.el OS99 [.int .i64 u45.1, .slice A59 x59.length c59] (u45.1, x59)) (Ent.pair (v1 := [.int .i64 u45.1]) (v2 := [.slice A59 x59.length c59]) (x1 := u45.1) (x2 := x59) (Ent.flat rfl) Ent.sl)
          dsimp only [addC, setC, rmC, selC, getC] at hH
          obtain ⟨x62, hx62, H⟩ := headE H
          replace hH := hH.close (i := IntKind.i64.wrap ((pf0_0.length : Int) - 1)) 0 5 (by decide) rfl rfl rfl hx62
          dsimp only [addC, setC, rmC, selC, getC] at hH
          have hl62 := st?_len hx62
          replace hH : Hp sb s F0 s61 [Ck.ol OS99 99 Af0_0p cf0_0p x62, Ck.ov bpf0 [.slice Af0_0p pf0_0.length cf0_0p] 40, Ck.emp, Ck.emp, Ck.ol OI 3 A54 1 [p1], Ck.emp] := hH
          replace hH : Hp sb s F0 s61 [Ck.ol OS99 99 Af0_0p cf0_0p x62, Ck.ov bpf0 [.slice Af0_0p x62.length cf0_0p] 40, Ck.emp, Ck.emp, Ck.ol OI 3 A54 1 [p1], Ck.emp] := by rw [hl62]; exact hH
          obtain rfl := Option.some.inj (show some _ = some r from H)
          exact hQr _ _ [] trivial ⟨Af0_0p, cf0_0p, rfl, hH.sel [0, 1] (by decide)⟩
    · replace H := iteF hb43 H
      refine HT_false (congrArg Value.bool hb43) ?_
      refine HT_skip ?_
      refine hK32 _ _ ?_
      refine HT_region ?_
      refine HL_cons rfl ?_
      refine o_load' rfl Try.underlying40 rfl (hH.hasv 1 rfl rfl) ?_
      try dsimp only [putL, setL, evL, getL]
      refine HL_cons rfl ?_
      refine o_move ?_
      try dsimp only [putL, setL, evL, getL]
      refine HL_cons rfl ?_
      refine o_move ?_
      try dsimp only [putL, setL, evL, getL]
      refine HL_cons rfl ?_
      refine o_litF (K := KI) (O := OI) (ca := #[.int .i64 p1]) [[.int .i64 p1]] [p1] hH Try.underlying22 tI3 rfl (by decide) rfl rfl rfl rfl ⟨rfl, Ent.own (Ent.flat rfl), trivial⟩ ?_
      intro A63 s63 hH' hG
      replace hH : Hp sb s F0 s63 [Ck.ol OS99 99 Af0_0p cf0_0p pf0_0, Ck.ov bpf0 [.slice Af0_0p pf0_0.length cf0_0p] 40, Ck.ol OI 3 A63 1 [p1]] := hH'
      clear hH' hG
      try dsimp only [putL, setL, evL, getL]
      refine HL_cons rfl ?_
      refine o_build (pl := [(0, 1), (1, 1)]) (cs := #[.int .i64 p0, .slice A63 [p1].length 1]) Try.underlying99 tI99 (by kernel_rfl) (by kernel_rfl) rfl ?_
      try dsimp only [putL, setL, evL, getL]
      replace hH := hH.conv [2] (by decide) (d := Ck.el OS99 [.int .i64 p0, .slice A63 [p1].length 1] (p0, [p1])) (Ent.pair (v1 := [.int .i64 p0]) (v2 := [.slice A63 [p1].length 1]) (x1 := p0) (x2 := [p1]) (Ent.flat rfl) Ent.sl)
      dsimp only [addC, setC, rmC, selC, getC] at hH
      refine HL_cons rfl ?_
      refine o_litD (K := KS99) (O := OS99) (ca := #[.int .i64 p0, .slice A63 [p1].length 1]) [[.int .i64 p0, .slice A63 [p1].length 1]] [(p0, [p1])] hH [3] (by decide) rfl Try.underlying40 tI99 rfl (by decide) rfl rfl rfl rfl rfl rfl ?_
      intro A64 s64 hH' hG
      replace hH : Hp sb s F0 s64 [Ck.ol OS99 99 Af0_0p cf0_0p pf0_0, Ck.ov bpf0 [.slice Af0_0p pf0_0.length cf0_0p] 40, Ck.emp, Ck.emp, Ck.ol OS99 99 A64 1 [(p0, [p1])]] := hH'
      clear hH' hG
      try dsimp only [putL, setL, evL, getL]
      obtain ⟨x65, hx65, H⟩ := headE H
      refine HL_cons rfl ?_
      refine o_appD (K := KS99) (n := 4398046511104) (A := Af0_0p) (c := cf0_0p) (xs := pf0_0) (ys := [(p0, [p1])]) (B := A64) (c2 := 1) hH 0 4 (by decide) rfl rfl rfl rfl rfl Try.underlying40 tI99 rfl (by decide) (by decide) (by decide) hx65 ?_
      intro A65 c65 s65 hH'
      replace hH : Hp sb s F0 s65 [Ck.ol OS99 99 A65 c65 x65, Ck.ov bpf0 [.slice Af0_0p pf0_0.length cf0_0p] 40, Ck.emp, Ck.emp, Ck.emp] := hH'
      clear hH'
      try dsimp only [putL, setL, evL, getL]
      refine HL_cons rfl ?_
      refine o_stvH (vs := [.slice A65 x65.length c65]) (us' := [.slice A65 x65.length c65]) hH 1 rfl rfl rfl rfl rfl tI40 rfl (List.cons_ne_nil _ _) rfl rfl rfl ?_
      intro s66 hH'
      replace hH : Hp sb s F0 s66 [Ck.ol OS99 99 A65 c65 x65, Ck.ov bpf0 [.slice A65 x65.length c65] 40, Ck.emp, Ck.emp, Ck.emp] := hH'
      clear hH'
      try dsimp only [putL, setL, evL, getL]
      refine HL_nil ?_
      obtain rfl := Option.some.inj (show some _ = some r from H)
      exact hQn _ _ [] trivial ⟨A65, c65, rfl, hH.sel [0, 1] (by decide)⟩
def impl_along_impl_DiffOf_1.l1 (p0 : List (Int)) (p1 : List (Int)) (u2 : (List (List (Int)))) : Nat → Int → Int → (List ((Int) × (List (Int)))) → Option (List ((Int) × (List (Int))))
  | 0, _, _, _ => none
  | kf + 1, x213, x214, x215 => (if (decide (x213 < (p0.length : Int))) = true then (some true) else (some (decide (x214 < (p1.length : Int))))).bind fun (o : Bool) => match o with | x280 => (if x280 = true then (if (x214 == (p1.length : Int)) = true then ((rd? p0 x213).bind fun u287 => (impl_DiffOf_1.f 2 u287 x215).bind fun u288 => impl_along_impl_DiffOf_1.l1 p0 p1 u2 kf (IntKind.i64.wrap (x213 + 1)) x214 u288) else (if (x213 == (p0.length : Int)) = true then ((rd? p1 x214).bind fun u293 => (impl_DiffOf_1.f 3 u293 x215).bind fun u294 => impl_along_impl_DiffOf_1.l1 p0 p1 u2 kf x213 (IntKind.i64.wrap (x214 + 1)) u294) else ((rd? p0 x213).bind fun u297 => (rd? p1 x214).bind fun u298 => if (u297 == u298) = true then ((rd? p0 x213).bind fun u301 => (impl_DiffOf_1.f 1 u301 x215).bind fun u302 => impl_along_impl_DiffOf_1.l1 p0 p1 u2 kf (IntKind.i64.wrap (x213 + 1)) (IntKind.i64.wrap (x214 + 1)) u302) else ((rd? u2 (IntKind.i64.wrap (x213 + 1))).bind fun u305 => (rd? u305 x214).bind fun u307 => (rd? u2 x213).bind fun u308 => (rd? u308 x214).bind fun u310 => if (u307 == u310) = true then ((rd? p0 x213).bind fun u313 => (impl_DiffOf_1.f 2 u313 x215).bind fun u314 => impl_along_impl_DiffOf_1.l1 p0 p1 u2 kf (IntKind.i64.wrap (x213 + 1)) x214 u314) else ((rd? p1 x214).bind fun u317 => (impl_DiffOf_1.f 3 u317 x215).bind fun u318 => impl_along_impl_DiffOf_1.l1 p0 p1 u2 kf x213 (IntKind.i64.wrap (x214 + 1)) u318))))) else (some x215))
def impl_along_impl_DiffOf_1.f (p0 : List (Int)) (p1 : List (Int)) (p2c0_0 : List ((Int) × (List (Int)))) : Option (List ((Int) × (List (Int)))) := (impl_commons.f p0 p1).bind fun u2 => (impl_along_impl_DiffOf_1.l1 p0 p1 u2 (p0.length + p1.length + 2) 0 0 p2c0_0).bind fun (o : (List ((Int) × (List (Int))))) => match o with | x162 => (some x162)
def impl_along_impl_DiffOf_1.post (sb s : St) (F0 : Fp) (bp2c0 : Nat) (r : (List ((Int) × (List (Int))))) : Value → St → Prop := fun v s' => ∃ (A0 : Option Addr) (c0 : Nat), v = .tuple #[] ∧ Hp sb s F0 s' [Ck.ol OS99 99 A0 c0 r, Ck.ov bp2c0 [.slice A0 r.length c0] 40]
set_option maxRecDepth 100000 in
set_option maxHeartbeats 4000000 in
theorem impl_along_impl_DiffOf_1.ok (sb s : St) (F0 : Fp) (A0p : Option Addr) (c0p : Nat) (p0 : List (Int)) (A1p : Option Addr) (c1p : Nat) (p1 : List (Int)) (bp2c0 : Nat) (A2c0_0p : Option Addr) (c2c0_0p : Nat) (p2c0_0 : List ((Int) × (List (Int)))) (HRp0 : Rd KI sb A0p c0p p0) (HRp1 : Rd KI sb A1p c1p p1) (hH : Hp sb s F0 s [Ck.ov bp2c0 [.slice A2c0_0p p2c0_0.length c2c0_0p] 40, Ck.ol OS99 99 A2c0_0p c2c0_0p p2c0_0]) (r : (List ((Int) × (List (Int))))) (H : impl_along_impl_DiffOf_1.f p0 p1 p2c0_0 = some r) : GCall Try.prog 81 #[.slice A0p p0.length c0p, .slice A1p p1.length c1p, .func (.func 98) #[] #[.pointer (some ⟨bp2c0, 0, none⟩)]] s (impl_along_impl_DiffOf_1.post sb s F0 bp2c0 r) := by
  refine GCall_ofk [] [.slice A0p p0.length c0p, .slice A1p p1.length c1p, .func (.func 98) #[] #[.pointer (some ⟨bp2c0, 0, none⟩)], undef, undef, undef, undef, undef, undef, undef, undef, undef, undef, undef, undef, undef, undef, undef, undef, undef, undef, undef, undef, undef, undef, undef, undef, undef, undef, undef, undef, undef, undef, undef, undef, undef, undef, undef, undef, undef, undef, undef, undef, undef, undef, undef, undef, undef, undef, undef, undef, undef, undef, undef, undef, undef, undef, undef, undef, undef, undef, undef, undef, undef, undef, undef, undef, undef, undef, undef, undef, undef, undef, undef, undef, undef, undef, undef, undef, undef, undef, undef, undef, undef, undef, undef, undef, undef, undef, undef, undef, undef, undef, undef, undef, undef, undef, undef, undef, undef, undef] Try.func81 rfl rfl rfl ?_
  intro w Q hQr hQn hQp
  replace H := topE H
  unfold impl_along_impl_DiffOf_1.f at H
  refine HT_seq_k ?_
  intro K1 hK1
  refine HT_region ?_
  refine HL_cons rfl ?_
  refine o_move ?_
  try dsimp only [putL, setL, evL, getL]
  refine HL_cons rfl ?_
  refine o_move ?_
  try dsimp only [putL, setL, evL, getL]
  obtain ⟨u2, hu2, H⟩ := headE H
  refine HL_cons rfl ?_
  refine o_call (args := #[.slice A0p p0.length c0p, .slice A1p p1.length c1p]) Try.func140 rfl rfl rfl (impl_commons.ok sb s no A0p c0p p0 A1p c1p p1 HRp0 HRp1 (Hp.own hH.bs) _ hu2) ?_
  rintro _ s2 ⟨A3, c3, rfl, hD⟩
  replace hH := hH.back0 hD (Up.refl _ _ _)
  clear hD
  dsimp only [addC, setC, rmC, selC, getC] at hH
  try dsimp only [putL, setL, evL, getL]
  refine HL_cons rfl ?_
  refine o_assign ?_
  try dsimp only [putL, setL, evL, getL]
  refine HL_cons rfl ?_
  refine o_assign ?_
  try dsimp only [putL, setL, evL, getL]
  refine HL_cons rfl ?_
  refine o_assign ?_
  try dsimp only [putL, setL, evL, getL]
  refine HL_nil ?_
  refine hK1 _ _ ?_
  refine joinH H fun G4 hG4 H => ?_
  refine HT_toK (fun l' s' => ∃ (x162 : List ((Int) × (List (Int)))) (A162 : Option Addr) (c162 : Nat), G4 x162 = some r ∧ l' = [.slice A0p p0.length c0p, .slice A1p p1.length c1p, .func (.func 98) #[] #[.pointer (some ⟨bp2c0, 0, none⟩)], undef, undef, undef, .slice A3 u2.length c3, getL l' 7, getL l' 8, .slice A0p p0.length c0p, .slice A1p p1.length c1p, .slice A3 u2.length c3, getL l' 12, getL l' 13, getL l' 14, getL l' 15, getL l' 16, getL l' 17, getL l' 18, getL l' 19, getL l' 20, getL l' 21, getL l' 22, getL l' 23, getL l' 24, getL l' 25, getL l' 26, getL l' 27, getL l' 28, getL l' 29, getL l' 30, getL l' 31, getL l' 32, getL l' 33, getL l' 34, getL l' 35, getL l' 36, getL l' 37, getL l' 38, getL l' 39, getL l' 40, getL l' 41, getL l' 42, getL l' 43, getL l' 44, getL l' 45, getL l' 46, getL l' 47, getL l' 48, getL l' 49, getL l' 50, getL l' 51, getL l' 52, getL l' 53, getL l' 54, getL l' 55, getL l' 56, getL l' 57, getL l' 58, getL l' 59, getL l' 60, getL l' 61, getL l' 62, getL l' 63, getL l' 64, getL l' 65, getL l' 66, getL l' 67, getL l' 68, getL l' 69, getL l' 70, getL l' 71, getL l' 72, getL l' 73, getL l' 74, getL l' 75, getL l' 76, getL l' 77, getL l' 78, getL l' 79, getL l' 80, getL l' 81, getL l' 82, getL l' 83, getL l' 84, getL l' 85, getL l' 86, getL l' 87, getL l' 88, getL l' 89, getL l' 90, getL l' 91, getL l' 92, getL l' 93, getL l' 94, getL l' 95, getL l' 96, getL l' 97, getL l' 98, getL l' 99, getL l' 100] ∧ Hp sb s F0 s' [Ck.ol OS99 99 A162 c162 x162, Ck.ov bp2c0 [.slice A162 x162.length c162] 40]) ?_ ?_
  · intro K4 hK4
    refine HT_block ?_
    refine HT_loopK (fun kf l' s' => ∃ (x213 : Int) (x214 : Int) (x215 : List ((Int) × (List (Int)))) (A215 : Option Addr) (c215 : Nat), (impl_along_impl_DiffOf_1.l1 p0 p1 u2 kf x213 x214 x215).bind G4 = some r ∧ l' = [.slice A0p p0.length c0p, .slice A1p p1.length c1p, .func (.func 98) #[] #[.pointer (some ⟨bp2c0, 0, none⟩)], undef, undef, undef, .slice A3 u2.length c3, .int .i64 x213, .int .i64 x214, .slice A0p p0.length c0p, .slice A1p p1.length c1p, .slice A3 u2.length c3, getL l' 12, getL l' 13, getL l' 14, getL l' 15, getL l' 16, getL l' 17, getL l' 18, getL l' 19, getL l' 20, getL l' 21, getL l' 22, getL l' 23, getL l' 24, getL l' 25, getL l' 26, getL l' 27, getL l' 28, getL l' 29, getL l' 30, getL l' 31, getL l' 32, getL l' 33, getL l' 34, getL l' 35, getL l' 36, getL l' 37, getL l' 38, getL l' 39, getL l' 40, getL l' 41, getL l' 42, getL l' 43, getL l' 44, getL l' 45, getL l' 46, getL l' 47, getL l' 48, getL l' 49, getL l' 50, getL l' 51, getL l' 52, getL l' 53, getL l' 54, getL l' 55, getL l' 56, getL l' 57, getL l' 58, getL l' 59, getL l' 60, getL l' 61, getL l' 62, getL l' 63, getL l' 64, getL l' 65, getL l' 66, getL l' 67, getL l' 68, getL l' 69, getL l' 70, getL l' 71, getL l' 72, getL l' 73, getL l' 74, getL l' 75, getL l' 76, getL l' 77, getL l' 78, getL l' 79, getL l' 80, getL l' 81, getL l' 82, getL l' 83, getL l' 84, getL l' 85, getL l' 86, getL l' 87, getL l' 88, getL l' 89, getL l' 90, getL l' 91, getL l' 92, getL l' 93, getL l' 94, getL l' 95, getL l' 96, getL l' 97, getL l' 98, getL l' 99, getL l' 100] ∧ Hp sb s F0 s' [Ck.ol OS99 99 A215 c215 x215, Ck.ol (Ow.sl OI 3) 22 A3 c3 u2, Ck.ov bp2c0 [.slice A215 x215.length c215] 40]) (p0.length + p1.length + 2) ⟨0, 0, p2c0_0, A2c0_0p, c2c0_0p, H, rfl, hH.sel [1, 2, 0] (by decide)⟩ ?_
    rintro kf l' s269 ⟨x213, x214, x215, A215, c215, H, hl, hH⟩ K269 hK269
    generalize getL l' 12 = j12, getL l' 13 = j13, getL l' 14 = j14, getL l' 15 = j15, getL l' 16 = j16, getL l' 17 = j17, getL l' 18 = j18, getL l' 19 = j19, getL l' 20 = j20, getL l' 21 = j21, getL l' 22 = j22, getL l' 23 = j23, getL l' 24 = j24, getL l' 25 = j25, getL l' 26 = j26, getL l' 27 = j27, getL l' 28 = j28, getL l' 29 = j29, getL l' 30 = j30, getL l' 31 = j31, getL l' 32 = j32, getL l' 33 = j33, getL l' 34 = j34, getL l' 35 = j35, getL l' 36 = j36, getL l' 37 = j37, getL l' 38 = j38, getL l' 39 = j39, getL l' 40 = j40, getL l' 41 = j41, getL l' 42 = j42, getL l' 43 = j43, getL l' 44 = j44, getL l' 45 = j45, getL l' 46 = j46, getL l' 47 = j47, getL l' 48 = j48, getL l' 49 = j49, getL l' 50 = j50, getL l' 51 = j51, getL l' 52 = j52, getL l' 53 = j53, getL l' 54 = j54, getL l' 55 = j55, getL l' 56 = j56, getL l' 57 = j57, getL l' 58 = j58, getL l' 59 = j59, getL l' 60 = j60, getL l' 61 = j61, getL l' 62 = j62, getL l' 63 = j63, getL l' 64 = j64, getL l' 65 = j65, getL l' 66 = j66, getL l' 67 = j67, getL l' 68 = j68, getL l' 69 = j69, getL l' 70 = j70, getL l' 71 = j71, getL l' 72 = j72, getL l' 73 = j73, getL l' 74 = j74, getL l' 75 = j75, getL l' 76 = j76, getL l' 77 = j77, getL l' 78 = j78, getL l' 79 = j79, getL l' 80 = j80, getL l' 81 = j81, getL l' 82 = j82, getL l' 83 = j83, getL l' 84 = j84, getL l' 85 = j85, getL l' 86 = j86, getL l' 87 = j87, getL l' 88 = j88, getL l' 89 = j89, getL l' 90 = j90, getL l' 91 = j91, getL l' 92 = j92, getL l' 93 = j93, getL l' 94 = j94, getL l' 95 = j95, getL l' 96 = j96, getL l' 97 = j97, getL l' 98 = j98, getL l' 99 = j99, getL l' 100 = j100 at hl
    subst hl
    cases kf with
    | zero => simp [impl_along_impl_DiffOf_1.l1] at H
    | succ kf =>
      rw [impl_along_impl_DiffOf_1.l1] at H
      refine HT_seq_k ?_
      intro K277 hK277
      refine joinH H fun G278 hG278 H => ?_
      refine HT_joinK (fun l' s' => ∃ (x280 : Bool), G278 x280 = some r ∧ l' = [.slice A0p p0.length c0p, .slice A1p p1.length c1p, .func (.func 98) #[] #[.pointer (some ⟨bp2c0, 0, none⟩)], undef, undef, undef, .slice A3 u2.length c3, .int .i64 x213, .int .i64 x214, .slice A0p p0.length c0p, .slice A1p p1.length c1p, .slice A3 u2.length c3, getL l' 12, getL l' 13, getL l' 14, getL l' 15, getL l' 16, getL l' 17, getL l' 18, getL l' 19, getL l' 20, .bool x280, j22, j23, j24, j25, j26, j27, j28, j29, j30, j31, j32, j33, j34, j35, j36, j37, j38, j39, j40, j41, j42, j43, j44, j45, j46, j47, j48, j49, j50, j51, j52, j53, j54, j55, j56, j57, j58, j59, j60, j61, j62, j63, j64, j65, j66, j67, j68, j69, j70, j71, j72, j73, j74, j75, j76, j77, j78, j79, j80, j81, j82, j83, j84, j85, j86, j87, j88, j89, j90, j91, j92, j93, j94, j95, j96, j97, j98, j99, j100] ∧ Hp sb s F0 s' [Ck.ol (Ow.sl OI 3) 22 A3 c3 u2, Ck.ol OS99 99 A215 c215 x215, Ck.ov bp2c0 [.slice A215 x215.length c215] 40]) ?_ ?_
      · intro K278 hK278
        refine HT_region ?_
        refine HL_cons rfl ?_
        refine o_move ?_
        try dsimp only [putL, setL, evL, getL]
        refine HL_cons rfl ?_
        refine o_move ?_
        try dsimp only [putL, setL, evL, getL]
        refine HL_cons rfl ?_
        refine o_len rfl Try.underlying22 ?_
        try dsimp only [putL, setL, evL, getL]
        refine HL_cons rfl ?_
        refine o_bin rfl rfl rfl ?_
        try dsimp only [putL, setL, evL, getL]
        refine HL_cons rfl ?_
        refine o_move ?_
        try dsimp only [putL, setL, evL, getL]
        rcases Bool.eq_false_or_eq_true (decide (x213 < (p0.length : Int))) with hb281 | hb281
        · replace H := iteT hb281 H
          refine HL_skip ?_ ?_
          · exact wantF (j := 4) (b := false) (t := 16) (c := decide (x213 < (p0.length : Int))) rfl rfl rfl rfl hb281
          try dsimp only [putL, setL, evL, getL]
          refine HL_skip ?_ ?_
          · exact wantF (j := 4) (b := false) (t := 16) (c := decide (x213 < (p0.length : Int))) rfl rfl rfl rfl hb281
          try dsimp only [putL, setL, evL, getL]
          refine HL_skip ?_ ?_
          · exact wantF (j := 4) (b := false) (t := 16) (c := decide (x213 < (p0.length : Int))) rfl rfl rfl rfl hb281
          try dsimp only [putL, setL, evL, getL]
          refine HL_skip ?_ ?_
          · exact wantF (j := 4) (b := false) (t := 16) (c := decide (x213 < (p0.length : Int))) rfl rfl rfl rfl hb281
          try dsimp only [putL, setL, evL, getL]
          refine HL_cons rfl ?_
          refine o_pickT rfl hb281 ?_
          try dsimp only [putL, setL, evL, getL]
          refine HL_nil ?_
          exact hK278 _ _ ⟨true, H, rfl, hH.sel [1, 0, 2] (by decide)⟩
        · replace H := iteF hb281 H
          refine HL_want ?_ ?_
          · exact wantT (j := 4) (b := false) (t := 16) (c := decide (x213 < (p0.length : Int))) rfl rfl rfl rfl hb281
          refine o_move ?_
          try dsimp only [putL, setL, evL, getL]
          refine HL_want ?_ ?_
          · exact wantT (j := 4) (b := false) (t := 16) (c := decide (x213 < (p0.length : Int))) rfl rfl rfl rfl hb281
          refine o_move ?_
          try dsimp only [putL, setL, evL, getL]
          refine HL_want ?_ ?_
          · exact wantT (j := 4) (b := false) (t := 16) (c := decide (x213 < (p0.length : Int))) rfl rfl rfl rfl hb281
          refine o_len rfl Try.underlying22 ?_
          try dsimp only [putL, setL, evL, getL]
          refine HL_want ?_ ?_
          · exact wantT (j := 4) (b := false) (t := 16) (c := decide (x213 < (p0.length : Int))) rfl rfl rfl rfl hb281
          refine o_bin rfl rfl rfl ?_
          try dsimp only [putL, setL, evL, getL]
          refine HL_cons rfl ?_
          refine o_pickF rfl hb281 ?_
          try dsimp only [putL, setL, evL, getL]
          refine HL_nil ?_
          exact hK278 _ _ ⟨decide (x214 < (p1.length : Int)), H, rfl, hH.sel [1, 0, 2] (by decide)⟩
      · rintro l' s282 ⟨x280, H, hl, hH⟩
        generalize getL l' 12 = j12, getL l' 13 = j13, getL l' 14 = j14, getL l' 15 = j15, getL l' 16 = j16, getL l' 17 = j17, getL l' 18 = j18, getL l' 19 = j19, getL l' 20 = j20 at hl
        subst hl
        replace H := hG278 _ H
        try dsimp only at H
        rcases Bool.eq_false_or_eq_true x280 with hb283 | hb283
        · replace H := iteT hb283 H
          refine HT_true (congrArg Value.bool hb283) ?_
          refine HT_skip ?_
          refine hK277 _ _ ?_
          refine HT_block ?_
          refine HT_block ?_
          refine HT_seq_k ?_
          intro K284 hK284
          refine HT_region ?_
          refine HL_cons rfl ?_
          refine o_move ?_
          try dsimp only [putL, setL, evL, getL]
          refine HL_cons rfl ?_
          refine o_move ?_
          try dsimp only [putL, setL, evL, getL]
          refine HL_cons rfl ?_
          refine o_len rfl Try.underlying22 ?_
          try dsimp only [putL, setL, evL, getL]
          refine HL_cons rfl ?_
          refine o_bin rfl rfl rfl ?_
          try dsimp only [putL, setL, evL, getL]
          refine HL_cons rfl ?_
          refine o_assign ?_
          try dsimp only [putL, setL, evL, getL]
          refine HL_nil ?_
          refine hK284 _ _ ?_
          rcases Bool.eq_false_or_eq_true (x214 == (p1.length : Int)) with hb285 | hb285
          · replace H := iteT hb285 H
            refine HT_true (congrArg Value.bool hb285) ?_
            refine HT_seq_k ?_
            intro K286 hK286
            refine HT_region ?_
            refine HL_cons rfl ?_
            refine o_move ?_
            try dsimp only [putL, setL, evL, getL]
            refine HL_cons rfl ?_
            refine o_move ?_
            try dsimp only [putL, setL, evL, getL]
            refine HL_cons rfl ?_
            refine o_move ?_
            try dsimp only [putL, setL, evL, getL]
            obtain ⟨u287, hu287, H⟩ := headE H
            obtain ⟨b287, o287, cs287, hr287, hh287, hel287⟩ := Rd.elb HRp0 hu287
            obtain rfl := hr287
            refine HL_cons rfl ?_
            refine hel287 s282 rfl rfl Try.underlying22 tI3 ?_
            try dsimp only [putL, setL, evL, getL]
            refine HL_cons rfl ?_
            refine o_load' rfl Try.underlying3 rfl ((hh287 hH.bs.mono) 0 _ rfl) ?_
            try dsimp only [putL, setL, evL, getL]
            obtain ⟨u288, hu288, H⟩ := headE H
            obtain ⟨F1, hA, hB⟩ := hH.take [2, 1] (by decide)
            dsimp only [addC, setC, rmC, selC, getC] at hA
            refine HL_cons rfl ?_
            refine o_callv (first := #[]) (cap := #[.pointer (some ⟨bp2c0, 0, none⟩)]) (args := #[.int .i64 2, .int .i64 u287, .pointer (some ⟨bp2c0, 0, none⟩)]) rfl Try.func98 rfl rfl [.int .i64 2, .int .i64 u287] rfl (by simp) (impl_DiffOf_1.ok sb s282 F1 2 u287 bp2c0 A215 c215 x215 hA _ hu288) ?_
            rintro _ s288 ⟨A289, c289, rfl, hD⟩
            replace hH := hB _ _ _ (Up.refl _ _ _) hD
            clear hD hA hB
            dsimp only [addC, setC, rmC, selC, getC] at hH
            try dsimp only [putL, setL, evL, getL]
            refine HL_nil ?_
            refine hK286 _ _ ?_
            refine HT_region ?_
            refine HL_cons rfl ?_
            refine o_move ?_
            try dsimp only [putL, setL, evL, getL]
            refine HL_cons rfl ?_
            refine o_bin rfl rfl rfl ?_
            try dsimp only [putL, setL, evL, getL]
            refine HL_cons rfl ?_
            refine o_assign ?_
            try dsimp only [putL, setL, evL, getL]
            refine HL_nil ?_
            exact hK269 _ _ ⟨kf, Nat.lt_succ_self kf, IntKind.i64.wrap (x213 + 1), x214, u288, A289, c289, H, rfl, hH.sel [3, 0, 4] (by decide)⟩
          · replace H := iteF hb285 H
            refine HT_false (congrArg Value.bool hb285) ?_
            refine HT_seq_k ?_
            intro K290 hK290
            refine HT_region ?_
            refine HL_cons rfl ?_
            refine o_move ?_
            try dsimp only [putL, setL, evL, getL]
            refine HL_cons rfl ?_
            refine o_move ?_
            try dsimp only [putL, setL, evL, getL]
            refine HL_cons rfl ?_
            refine o_len rfl Try.underlying22 ?_
            try dsimp only [putL, setL, evL, getL]
            refine HL_cons rfl ?_
            refine o_bin rfl rfl rfl ?_
            try dsimp only [putL, setL, evL, getL]
            refine HL_cons rfl ?_
            refine o_assign ?_
            try dsimp only [putL, setL, evL, getL]
            refine HL_nil ?_
            refine hK290 _ _ ?_
            rcases Bool.eq_false_or_eq_true (x213 == (p0.length : Int)) with hb291 | hb291
            · replace H := iteT hb291 H
              refine HT_true (congrArg Value.bool hb291) ?_
              refine HT_seq_k ?_
              intro K292 hK292
              refine HT_region ?_
              refine HL_cons rfl ?_
              refine o_move ?_
              try dsimp only [putL, setL, evL, getL]
              refine HL_cons rfl ?_
              refine o_move ?_
              try dsimp only [putL, setL, evL, getL]
              refine HL_cons rfl ?_
              refine o_move ?_
              try dsimp only [putL, setL, evL, getL]
              obtain ⟨u293, hu293, H⟩ := headE H
              obtain ⟨b293, o293, cs293, hr293, hh293, hel293⟩ := Rd.elb HRp1 hu293
              obtain rfl := hr293
              refine HL_cons rfl ?_
              refine hel293 s282 rfl rfl Try.underlying22 tI3 ?_
              try dsimp only [putL, setL, evL, getL]
              refine HL_cons rfl ?_
              refine o_load' rfl Try.underlying3 rfl ((hh293 hH.bs.mono) 0 _ rfl) ?_
              try dsimp only [putL, setL, evL, getL]
              obtain ⟨u294, hu294, H⟩ := headE H
              obtain ⟨F1, hA, hB⟩ := hH.take [2, 1] (by decide)
              dsimp only [addC, setC, rmC, selC, getC] at hA
              refine HL_cons rfl ?_
              refine o_callv (first := #[]) (cap := #[.pointer (some ⟨bp2c0, 0, none⟩)]) (args := #[.int .i64 3, .int .i64 u293, .pointer (some ⟨bp2c0, 0, none⟩)]) rfl Try.func98 rfl rfl [.int .i64 3, .int .i64 u293] rfl (by simp) (impl_DiffOf_1.ok sb s282 F1 3 u293 bp2c0 A215 c215 x215 hA _ hu294) ?_
              rintro _ s294 ⟨A295, c295, rfl, hD⟩
              replace hH := hB _ _ _ (Up.refl _ _ _) hD
              clear hD hA hB
              dsimp only [addC, setC, rmC, selC, getC] at hH
              try dsimp only [putL, setL, evL, getL]
              refine HL_nil ?_
              refine hK292 _ _ ?_
              refine HT_region ?_
              refine HL_cons rfl ?_
              refine o_move ?_
              try dsimp only [putL, setL, evL, getL]
              refine HL_cons rfl ?_
              refine o_bin rfl rfl rfl ?_
              try dsimp only [putL, setL, evL, getL]
              refine HL_cons rfl ?_
              refine o_assign ?_
              try dsimp only [putL, setL, evL, getL]
              refine HL_nil ?_
              exact hK269 _ _ ⟨kf, Nat.lt_succ_self kf, x213, IntKind.i64.wrap (x214 + 1), u294, A295, c295, H, rfl, hH.sel [3, 0, 4] (by decide)⟩
            · replace H := iteF hb291 H
              refine HT_false (congrArg Value.bool hb291) ?_
              refine HT_seq_k ?_
              intro K296 hK296
              refine HK_draw (fun s' => Gro s282 s') 11 hMix ?_
              have hR := Gro.refl s282
              have hH0 := hH
              refine HK_readP 0 (v := .slice A0p p0.length c0p) rfl (by kernel_rfl) (fun c l s h => hQp c l s h) rfl (fun s' K hK => ?_) rfl rfl (fun _ => hR) ?_
              · refine o_move ?_
                exact hK
              try dsimp only [putL, setL, evL, getL]
              refine HK_readP 1 (v := .int .i64 x213) rfl (by kernel_rfl) (fun c l s h => hQp c l s h) rfl (fun s' K hK => ?_) rfl rfl (fun _ => hR) ?_
              · refine o_move ?_
                exact hK
              try dsimp only [putL, setL, evL, getL]
              obtain ⟨u297, hu297, H⟩ := headE H
              obtain ⟨b297, o297, cs297, hr297, hh297, hel297⟩ := Rd.elb HRp0 hu297
              obtain rfl := hr297
              refine HK_readP 2 (v := .pointer (some ⟨b297, o297, none⟩)) rfl (by kernel_rfl) (fun c l s h => hQp c l s h) rfl (fun s' K hK => ?_) rfl rfl (fun _ => hR) ?_
              · refine hel297 s' rfl rfl Try.underlying22 tI3 ?_
                exact hK
              try dsimp only [putL, setL, evL, getL]
              refine HK_read 3 (v := .int .i64 u297) rfl (by kernel_rfl) (fun c l s h => hQp c l s h) rfl (fun s' hR' K hK => ?_) rfl rfl hR ?_
              · refine o_load' rfl Try.underlying3 rfl ((hh297 (hH0.bs.mono.trans hR'.mono)) 0 _ rfl) ?_
                exact hK
              try dsimp only [putL, setL, evL, getL]
              refine HK_readP 4 (v := .slice A1p p1.length c1p) rfl (by kernel_rfl) (fun c l s h => hQp c l s h) rfl (fun s' K hK => ?_) rfl rfl (fun _ => hR) ?_
              · refine o_move ?_
                exact hK
              try dsimp only [putL, setL, evL, getL]
              refine HK_readP 5 (v := .int .i64 x214) rfl (by kernel_rfl) (fun c l s h => hQp c l s h) rfl (fun s' K hK => ?_) rfl rfl (fun _ => hR) ?_
              · refine o_move ?_
                exact hK
              try dsimp only [putL, setL, evL, getL]
              obtain ⟨u298, hu298, H⟩ := headE H
              obtain ⟨b298, o298, cs298, hr298, hh298, hel298⟩ := Rd.elb HRp1 hu298
              obtain rfl := hr298
              refine HK_readP 6 (v := .pointer (some ⟨b298, o298, none⟩)) rfl (by kernel_rfl) (fun c l s h => hQp c l s h) rfl (fun s' K hK => ?_) rfl rfl (fun _ => hR) ?_
              · refine hel298 s' rfl rfl Try.underlying22 tI3 ?_
                exact hK
              try dsimp only [putL, setL, evL, getL]
              refine HK_read 7 (v := .int .i64 u298) rfl (by kernel_rfl) (fun c l s h => hQp c l s h) rfl (fun s' hR' K hK => ?_) rfl rfl hR ?_
              · refine o_load' rfl Try.underlying3 rfl ((hh298 (hH0.bs.mono.trans hR'.mono)) 0 _ rfl) ?_
                exact hK
              try dsimp only [putL, setL, evL, getL]
              refine HK_readP 8 (v := .bool (u297 == u298)) rfl (by kernel_rfl) (fun c l s h => hQp c l s h) rfl (fun s' K hK => ?_) rfl rfl (fun _ => hR) ?_
              · refine o_bin rfl rfl rfl ?_
                exact hK
              try dsimp only [putL, setL, evL, getL]
              refine HK_one 9 (by kernel_rfl) rfl (fun _ => hR) rfl ?_
              refine o_assign ?_
              try dsimp only [putL, setL, evL, getL]
              refine HK_done (fun _ => hR) (by kernel_rfl) ?_
              refine hK296 _ _ ?_
              rcases Bool.eq_false_or_eq_true (u297 == u298) with hb299 | hb299
              · replace H := iteT hb299 H
                refine HT_true (congrArg Value.bool hb299) ?_
                refine HT_seq_k ?_
                intro K300 hK300
                refine HT_region ?_
                refine HL_cons rfl ?_
                refine o_move ?_
                try dsimp only [putL, setL, evL, getL]
                refine HL_cons rfl ?_
                refine o_move ?_
                try dsimp only [putL, setL, evL, getL]
                refine HL_cons rfl ?_
                refine o_move ?_
                try dsimp only [putL, setL, evL, getL]
                obtain ⟨u301, hu301, H⟩ := headE H
                obtain ⟨b301, o301, cs301, hr301, hh301, hel301⟩ := Rd.elb HRp0 hu301
                obtain rfl := hr301
                refine HL_cons rfl ?_
                refine hel301 s282 rfl rfl Try.underlying22 tI3 ?_
                try dsimp only [putL, setL, evL, getL]
                refine HL_cons rfl ?_
                refine o_load' rfl Try.underlying3 rfl ((hh301 hH.bs.mono) 0 _ rfl) ?_
                try dsimp only [putL, setL, evL, getL]
                obtain ⟨u302, hu302, H⟩ := headE H
                obtain ⟨F1, hA, hB⟩ := hH.take [2, 1] (by decide)
                dsimp only [addC, setC, rmC, selC, getC] at hA
                refine HL_cons rfl ?_
                refine o_callv (first := #[]) (cap := #[.pointer (some ⟨bp2c0, 0, none⟩)]) (args := #[.int .i64 1, .int .i64 u301, .pointer (some ⟨bp2c0, 0, none⟩)]) rfl Try.func98 rfl rfl [.int .i64 1, .int .i64 u301] rfl (by simp) (impl_DiffOf_1.ok sb s282 F1 1 u301 bp2c0 A215 c215 x215 hA _ hu302) ?_
                rintro _ s302 ⟨A303, c303, rfl, hD⟩
                replace hH := hB _ _ _ (Up.refl _ _ _) hD
                clear hD hA hB
                dsimp only [addC, setC, rmC, selC, getC] at hH
                try dsimp only [putL, setL, evL, getL]
                refine HL_nil ?_
                refine hK300 _ _ ?_
                refine HT_region ?_
                refine HL_cons rfl ?_
                refine o_move ?_
                try dsimp only [putL, setL, evL, getL]
                refine HL_cons rfl ?_
                refine o_bin rfl rfl rfl ?_
                try dsimp only [putL, setL, evL, getL]
                refine HL_cons rfl ?_
                refine o_move ?_
                try dsimp only [putL, setL, evL, getL]
                refine HL_cons rfl ?_
                refine o_bin rfl rfl rfl ?_
                try dsimp only [putL, setL, evL, getL]
                refine HL_cons rfl ?_
                refine o_assign ?_
                try dsimp only [putL, setL, evL, getL]
                refine HL_cons rfl ?_
                refine o_assign ?_
                try dsimp only [putL, setL, evL, getL]
                refine HL_nil ?_
                exact hK269 _ _ ⟨kf, Nat.lt_succ_self kf, IntKind.i64.wrap (x213 + 1), IntKind.i64.wrap (x214 + 1), u302, A303, c303, H, rfl, hH.sel [3, 0, 4] (by decide)⟩
              · replace H := iteF hb299 H
                refine HT_false (congrArg Value.bool hb299) ?_
                refine HT_seq_k ?_
                intro K304 hK304
                refine HK_draw (fun s' => Gro s282 s') 18 hMix ?_
                have hR := Gro.refl s282
                have hH0 := hH
                refine HK_readP 0 (v := .slice A3 u2.length c3) rfl (by kernel_rfl) (fun c l s h => hQp c l s h) rfl (fun s' K hK => ?_) rfl rfl (fun _ => hR) ?_
                · refine o_move ?_
                  exact hK
                try dsimp only [putL, setL, evL, getL]
                refine HK_readP 1 (v := .int .i64 x213) rfl (by kernel_rfl) (fun c l s h => hQp c l s h) rfl (fun s' K hK => ?_) rfl rfl (fun _ => hR) ?_
                · refine o_move ?_
                  exact hK
                try dsimp only [putL, setL, evL, getL]
                refine HK_readP 2 (v := .int .i64 (IntKind.i64.wrap (x213 + 1))) rfl (by kernel_rfl) (fun c l s h => hQp c l s h) rfl (fun s' K hK => ?_) rfl rfl (fun _ => hR) ?_
                · refine o_bin rfl rfl rfl ?_
                  exact hK
                try dsimp only [putL, setL, evL, getL]
                obtain ⟨u305, hu305, H⟩ := headE H
                obtain ⟨b305, o305, cs305, hA305, hr305, hh305, hel305⟩ := hH0.elo 0 rfl hu305
                obtain ⟨A306, c306, rfl, D306⟩ := hr305
                refine HK_readP 3 (v := .pointer (some ⟨b305, o305 + Int.toNat (IntKind.i64.wrap (x213 + 1)) * Kd.sz (Kd.sl KI), none⟩)) rfl (by kernel_rfl) (fun c l s h => hQp c l s h) rfl (fun s' K hK => ?_) rfl rfl (fun _ => hR) ?_
                · refine hel305 s' rfl rfl Try.underlying148 tI22 ?_
                  exact hK
                try dsimp only [putL, setL, evL, getL]
                refine HK_read 4 (v := .slice A306 u305.length c306) rfl (by kernel_rfl) (fun c l s h => hQp c l s h) rfl (fun s' hR' K hK => ?_) rfl rfl hR ?_
                · refine o_load' rfl Try.underlying22 rfl (has_gro hR' (hh305 0 _ rfl)) ?_
                  exact hK
                try dsimp only [putL, setL, evL, getL]
                refine HK_readP 5 (v := .int .i64 x214) rfl (by kernel_rfl) (fun c l s h => hQp c l s h) rfl (fun s' K hK => ?_) rfl rfl (fun _ => hR) ?_
                · refine o_move ?_
                  exact hK
                try dsimp only [putL, setL, evL, getL]
                obtain ⟨u307, hu307, H⟩ := headE H
                obtain ⟨b307, o307, cs307, hr307, hh307, hel307⟩ := Rd.el D306 hu307
                obtain rfl := hr307
                refine HK_readP 6 (v := .pointer (some ⟨b307, o307, none⟩)) rfl (by kernel_rfl) (fun c l s h => hQp c l s h) rfl (fun s' K hK => ?_) rfl rfl (fun _ => hR) ?_
                · refine hel307 s' rfl rfl Try.underlying22 tI3 ?_
                  exact hK
                try dsimp only [putL, setL, evL, getL]
                refine HK_read 7 (v := .int .i64 u307) rfl (by kernel_rfl) (fun c l s h => hQp c l s h) rfl (fun s' hR' K hK => ?_) rfl rfl hR ?_
                · refine o_load' rfl Try.underlying3 rfl (has_gro hR' (hh307 0 _ rfl)) ?_
                  exact hK
                try dsimp only [putL, setL, evL, getL]
                refine HK_readP 8 (v := .slice A3 u2.length c3) rfl (by kernel_rfl) (fun c l s h => hQp c l s h) rfl (fun s' K hK => ?_) rfl rfl (fun _ => hR) ?_
                · refine o_move ?_
                  exact hK
                try dsimp only [putL, setL, evL, getL]
                refine HK_readP 9 (v := .int .i64 x213) rfl (by kernel_rfl) (fun c l s h => hQp c l s h) rfl (fun s' K hK => ?_) rfl rfl (fun _ => hR) ?_
                · refine o_move ?_
                  exact hK
                try dsimp only [putL, setL, evL, getL]
                obtain ⟨u308, hu308, H⟩ := headE H
                obtain ⟨b308, o308, cs308, hA308, hr308, hh308, hel308⟩ := hH0.elo 0 rfl hu308
                obtain ⟨A309, c309, rfl, D309⟩ := hr308
                refine HK_readP 10 (v := .pointer (some ⟨b308, o308 + Int.toNat x213 * Kd.sz (Kd.sl KI), none⟩)) rfl (by kernel_rfl) (fun c l s h => hQp c l s h) rfl (fun s' K hK => ?_) rfl rfl (fun _ => hR) ?_
                · refine hel308 s' rfl rfl Try.underlying148 tI22 ?_
                  exact hK
                try dsimp only [putL, setL, evL, getL]
                refine HK_read 11 (v := .slice A309 u308.length c309) rfl (by kernel_rfl) (fun c l s h => hQp c l s h) rfl (fun s' hR' K hK => ?_) rfl rfl hR ?_
                · refine o_load' rfl Try.underlying22 rfl (has_gro hR' (hh308 0 _ rfl)) ?_
                  exact hK
                try dsimp only [putL, setL, evL, getL]
                refine HK_readP 12 (v := .int .i64 x214) rfl (by kernel_rfl) (fun c l s h => hQp c l s h) rfl (fun s' K hK => ?_) rfl rfl (fun _ => hR) ?_
                · refine o_move ?_
                  exact hK
                try dsimp only [putL, setL, evL, getL]
                obtain ⟨u310, hu310, H⟩ := headE H
                obtain ⟨b310, o310, cs310, hr310, hh310, hel310⟩ := Rd.el D309 hu310
                obtain rfl := hr310
                refine HK_readP 13 (v := .pointer (some ⟨b310, o310, none⟩)) rfl (by kernel_rfl) (fun c l s h => hQp c l s h) rfl (fun s' K hK => ?_) rfl rfl (fun _ => hR) ?_
                · refine hel310 s' rfl rfl Try.underlying22 tI3 ?_
                  exact hK
                try dsimp only [putL, setL, evL, getL]
                refine HK_read 14 (v := .int .i64 u310) rfl (by kernel_rfl) (fun c l s h => hQp c l s h) rfl (fun s' hR' K hK => ?_) rfl rfl hR ?_
                · refine o_load' rfl Try.underlying3 rfl (has_gro hR' (hh310 0 _ rfl)) ?_
                  exact hK
                try dsimp only [putL, setL, evL, getL]
                refine HK_readP 15 (v := .bool (u307 == u310)) rfl (by kernel_rfl) (fun c l s h => hQp c l s h) rfl (fun s' K hK => ?_) rfl rfl (fun _ => hR) ?_
                · refine o_bin rfl rfl rfl ?_
                  exact hK
                try dsimp only [putL, setL, evL, getL]
                refine HK_one 16 (by kernel_rfl) rfl (fun _ => hR) rfl ?_
                refine o_assign ?_
                try dsimp only [putL, setL, evL, getL]
                refine HK_done (fun _ => hR) (by kernel_rfl) ?_
                refine hK304 _ _ ?_
                rcases Bool.eq_false_or_eq_true (u307 == u310) with hb311 | hb311
                · replace H := iteT hb311 H
                  refine HT_true (congrArg Value.bool hb311) ?_
                  refine HT_seq_k ?_
                  intro K312 hK312
                  refine HT_region ?_
                  refine HL_cons rfl ?_
                  refine o_move ?_
                  try dsimp only [putL, setL, evL, getL]
                  refine HL_cons rfl ?_
                  refine o_move ?_
                  try dsimp only [putL, setL, evL, getL]
                  refine HL_cons rfl ?_
                  refine o_move ?_
                  try dsimp only [putL, setL, evL, getL]
                  obtain ⟨u313, hu313, H⟩ := headE H
                  obtain ⟨b313, o313, cs313, hr313, hh313, hel313⟩ := Rd.elb HRp0 hu313
                  obtain rfl := hr313
                  refine HL_cons rfl ?_
                  refine hel313 s282 rfl rfl Try.underlying22 tI3 ?_
                  try dsimp only [putL, setL, evL, getL]
                  refine HL_cons rfl ?_
                  refine o_load' rfl Try.underlying3 rfl ((hh313 hH.bs.mono) 0 _ rfl) ?_
                  try dsimp only [putL, setL, evL, getL]
                  obtain ⟨u314, hu314, H⟩ := headE H
                  obtain ⟨F1, hA, hB⟩ := hH.take [2, 1] (by decide)
                  dsimp only [addC, setC, rmC, selC, getC] at hA
                  refine HL_cons rfl ?_
                  refine o_callv (first := #[]) (cap := #[.pointer (some ⟨bp2c0, 0, none⟩)]) (args := #[.int .i64 2, .int .i64 u313, .pointer (some ⟨bp2c0, 0, none⟩)]) rfl Try.func98 rfl rfl [.int .i64 2, .int .i64 u313] rfl (by simp) (impl_DiffOf_1.ok sb s282 F1 2 u313 bp2c0 A215 c215 x215 hA _ hu314) ?_
                  rintro _ s314 ⟨A315, c315, rfl, hD⟩
                  replace hH := hB _ _ _ (Up.refl _ _ _) hD
                  clear hD hA hB
                  dsimp only [addC, setC, rmC, selC, getC] at hH
                  try dsimp only [putL, setL, evL, getL]
                  refine HL_nil ?_
                  refine hK312 _ _ ?_
                  refine HT_region ?_
                  refine HL_cons rfl ?_
                  refine o_move ?_
                  try dsimp only [putL, setL, evL, getL]
                  refine HL_cons rfl ?_
                  refine o_bin rfl rfl rfl ?_
                  try dsimp only [putL, setL, evL, getL]
                  refine HL_cons rfl ?_
                  refine o_assign ?_
                  try dsimp only [putL, setL, evL, getL]
                  refine HL_nil ?_
                  exact hK269 _ _ ⟨kf, Nat.lt_succ_self kf, IntKind.i64.wrap (x213 + 1), x214, u314, A315, c315, H, rfl, hH.sel [3, 0, 4] (by decide)⟩
                · replace H := iteF hb311 H
                  refine HT_false (congrArg Value.bool hb311) ?_
                  refine HT_seq_k ?_
                  intro K316 hK316
                  refine HT_region ?_
                  refine HL_cons rfl ?_
                  refine o_move ?_
                  try dsimp only [putL, setL, evL, getL]
                  refine HL_cons rfl ?_
                  refine o_move ?_
                  try dsimp only [putL, setL, evL, getL]
                  refine HL_cons rfl ?_
                  refine o_move ?_
                  try dsimp only [putL, setL, evL, getL]
                  obtain ⟨u317, hu317, H⟩ := headE H
                  obtain ⟨b317, o317, cs317, hr317, hh317, hel317⟩ := Rd.elb HRp1 hu317
                  obtain rfl := hr317
                  refine HL_cons rfl ?_
                  refine hel317 s282 rfl rfl Try.underlying22 tI3 ?_
                  try dsimp only [putL, setL, evL, getL]
                  refine HL_cons rfl ?_
                  refine o_load' rfl Try.underlying3 rfl ((hh317 hH.bs.mono) 0 _ rfl) ?_
                  try dsimp only [putL, setL, evL, getL]
                  obtain ⟨u318, hu318, H⟩ := headE H
                  obtain ⟨F1, hA, hB⟩ := hH.take [2, 1] (by decide)
                  dsimp only [addC, setC, rmC, selC, getC] at hA
                  refine HL_cons rfl ?_
                  refine o_callv (first := #[]) (cap := #[.pointer (some ⟨bp2c0, 0, none⟩)]) (args := #[.int .i64 3, .int .i64 u317, .pointer (some ⟨bp2c0, 0, none⟩)]) rfl Try.func98 rfl rfl [.int .i64 3, .int .i64 u317] rfl (by simp) (impl_DiffOf_1.ok sb s282 F1 3 u317 bp2c0 A215 c215 x215 hA _ hu318) ?_
                  rintro _ s318 ⟨A319, c319, rfl, hD⟩
                  replace hH := hB _ _ _ (Up.refl _ _ _) hD
                  clear hD hA hB
                  dsimp only [addC, setC, rmC, selC, getC] at hH
                  try dsimp only [putL, setL, evL, getL]
                  refine HL_nil ?_
                  refine hK316 _ _ ?_
                  refine HT_region ?_
                  refine HL_cons rfl ?_
                  refine o_move ?_
                  try dsimp only [putL, setL, evL, getL]
                  refine HL_cons rfl ?_
                  refine o_bin rfl rfl rfl ?_
                  try dsimp only [putL, setL, evL, getL]
                  refine HL_cons rfl ?_
                  refine o_assign ?_
                  try dsimp only [putL, setL, evL, getL]
                  refine HL_nil ?_
                  exact hK269 _ _ ⟨kf, Nat.lt_succ_self kf, x213, IntKind.i64.wrap (x214 + 1), u318, A319, c319, H, rfl, hH.sel [3, 0, 4] (by decide)⟩
        · replace H := iteF hb283 H
          refine HT_false (congrArg Value.bool hb283) ?_
          refine HT_exit ?_
          exact hK4 _ _ ⟨x215, A215, c215, H, rfl, hH.sel [1, 2] (by decide)⟩
  · rintro l' s320 ⟨x162, A162, c162, H, hl, hH⟩
    generalize getL l' 7 = j7, getL l' 8 = j8, getL l' 12 = j12, getL l' 13 = j13, getL l' 14 = j14, getL l' 15 = j15, getL l' 16 = j16, getL l' 17 = j17, getL l' 18 = j18, getL l' 19 = j19, getL l' 20 = j20, getL l' 21 = j21, getL l' 22 = j22, getL l' 23 = j23, getL l' 24 = j24, getL l' 25 = j25, getL l' 26 = j26, getL l' 27 = j27, getL l' 28 = j28, getL l' 29 = j29, getL l' 30 = j30, getL l' 31 = j31, getL l' 32 = j32, getL l' 33 = j33, getL l' 34 = j34, getL l' 35 = j35, getL l' 36 = j36, getL l' 37 = j37, getL l' 38 = j38, getL l' 39 = j39, getL l' 40 = j40, getL l' 41 = j41, getL l' 42 = j42, getL l' 43 = j43, getL l' 44 = j44, getL l' 45 = j45, getL l' 46 = j46, getL l' 47 = j47, getL l' 48 = j48, getL l' 49 = j49, getL l' 50 = j50, getL l' 51 = j51, getL l' 52 = j52, getL l' 53 = j53, getL l' 54 = j54, getL l' 55 = j55, getL l' 56 = j56, getL l' 57 = j57, getL l' 58 = j58, getL l' 59 = j59, getL l' 60 = j60, getL l' 61 = j61, getL l' 62 = j62, getL l' 63 = j63, getL l' 64 = j64, getL l' 65 = j65, getL l' 66 = j66, getL l' 67 = j67, getL l' 68 = j68, getL l' 69 = j69, getL l' 70 = j70, getL l' 71 = j71, getL l' 72 = j72, getL l' 73 = j73, getL l' 74 = j74, getL l' 75 = j75, getL l' 76 = j76, getL l' 77 = j77, getL l' 78 = j78, getL l' 79 = j79, getL l' 80 = j80, getL l' 81 = j81, getL l' 82 = j82, getL l' 83 = j83, getL l' 84 = j84, getL l' 85 = j85, getL l' 86 = j86, getL l' 87 = j87, getL l' 88 = j88, getL l' 89 = j89, getL l' 90 = j90, getL l' 91 = j91, getL l' 92 = j92, getL l' 93 = j93, getL l' 94 = j94, getL l' 95 = j95, getL l' 96 = j96, getL l' 97 = j97, getL l' 98 = j98, getL l' 99 = j99, getL l' 100 = j100 at hl
    subst hl
    replace H := hG4 _ H
    try dsimp only at H
    obtain rfl := Option.some.inj (show some _ = some r from H)
    exact hQn _ _ [] trivial ⟨A162, c162, rfl, hH⟩
def impl_DiffOf.f (p0 : List (Int)) (p1 : List (Int)) : Option ((List ((Int) × (List (Int)))) × Bool) := (impl_areShort.f [p0, p1]).bind fun u5 => if (!u5) = true then (some ([], false)) else ((impl_along_impl_DiffOf_1.f p0 p1 ([] : List ((Int) × (List (Int))))).bind fun u13 => some (u13, true))
def impl_DiffOf.post (sb s : St) (F0 : Fp) (r : (List ((Int) × (List (Int)))) × Bool) : Value → St → Prop := fun v s' => ∃ (A0 : Option Addr) (c0 : Nat), v = .tuple #[.slice A0 r.1.length c0, .bool r.2] ∧ Hp sb s F0 s' [Ck.ol OS99 99 A0 c0 r.1]
set_option maxRecDepth 100000 in
set_option maxHeartbeats 4000000 in
theorem impl_DiffOf.ok (sb s : St) (F0 : Fp) (A0p : Option Addr) (c0p : Nat) (p0 : List (Int)) (A1p : Option Addr) (c1p : Nat) (p1 : List (Int)) (HRp0 : Rd KI sb A0p c0p p0) (HRp1 : Rd KI sb A1p c1p p1) (hH : Hp sb s F0 s []) (r : (List ((Int) × (List (Int)))) × Bool) (H : impl_DiffOf.f p0 p1 = some r) : GCall Try.prog 36 #[.slice A0p p0.length c0p, .slice A1p p1.length c1p] s (impl_DiffOf.post sb s F0 r) := by
  refine GCall_ofk [.tmp 4, .tmp 5] [.slice A0p p0.length c0p, .slice A1p p1.length c1p, undef, undef, undef, undef, undef, undef, undef, undef, undef, undef, undef, undef, undef, undef, undef, undef] Try.func36 rfl rfl rfl ?_
  intro w Q hQr hQn hQp
  replace H := topE H
  unfold impl_DiffOf.f at H
  refine HT_seq_k ?_
  intro K1 hK1
  refine HT_region ?_
  refine HL_cons rfl ?_
  refine o_assign ?_
  try dsimp only [putL, setL, evL, getL]
  refine HL_cons rfl ?_
  refine o_assign ?_
  try dsimp only [putL, setL, evL, getL]
  refine HL_nil ?_
  refine hK1 _ _ ?_
  refine HT_seq_k ?_
  intro K2 hK2
  refine HT_seq_k ?_
  intro K3 hK3
  refine HT_region ?_
  refine HL_cons rfl ?_
  refine o_move ?_
  try dsimp only [putL, setL, evL, getL]
  refine HL_cons rfl ?_
  refine o_move ?_
  try dsimp only [putL, setL, evL, getL]
  refine HL_cons rfl ?_
  refine o_litF (K := (Kd.sl KI)) (O := (Ow.lent (Kd.sl KI))) (ca := #[.slice A0p p0.length c0p, .slice A1p p1.length c1p]) [[.slice A0p p0.length c0p], [.slice A1p p1.length c1p]] [p0, p1] hH Try.underlying148 tI22 rfl (by decide) rfl rfl rfl rfl ⟨rfl, Ent.own (Ent.lent ⟨_, _, rfl, HRp0⟩), rfl, Ent.own (Ent.lent ⟨_, _, rfl, HRp1⟩), trivial⟩ ?_
  intro A4 s4 hH' hG
  replace hH : Hp sb s F0 s4 [Ck.ol (Ow.lent (Kd.sl KI)) 22 A4 2 [p0, p1]] := hH'
  clear hH' hG
  try dsimp only [putL, setL, evL, getL]
  obtain ⟨u5, hu5, H⟩ := headE H
  refine HL_cons rfl ?_
  refine o_call (args := #[.slice A4 [p0, p1].length 2]) Try.func80 rfl rfl rfl (impl_areShort.ok s4 s4 no A4 2 [p0, p1] (hH.rd 0 rfl) (Hp.own (Bs.refl s4)) _ hu5) ?_
  rintro _ s5 ⟨rfl, hD⟩
  replace hH := hH.back0T hD
  clear hD
  dsimp only [addC, setC, rmC, selC, getC] at hH
  try dsimp only [putL, setL, evL, getL]
  refine HL_cons rfl ?_
  refine o_not rfl ?_
  try dsimp only [putL, setL, evL, getL]
  refine HL_nil ?_
  refine hK3 _ _ ?_
  rcases Bool.eq_false_or_eq_true (!u5) with hb6 | hb6
  · replace H := iteT hb6 H
    refine HT_true (congrArg Value.bool hb6) ?_
    refine HT_seq_k ?_
    intro K7 hK7
    refine HT_region ?_
    refine HL_cons rfl ?_
    refine o_assign ?_
    try dsimp only [putL, setL, evL, getL]
    refine HL_cons rfl ?_
    refine o_assign ?_
    try dsimp only [putL, setL, evL, getL]
    refine HL_nil ?_
    refine hK7 _ _ ?_
    refine HT_ret ?_
    obtain rfl := Option.some.inj (show some _ = some r from H)
    exact hQr _ _ [.slice none 0 0, .bool false] ⟨rfl, rfl, trivial⟩ ⟨none, 0, rfl, (hH.nil (K := KS99) OS99 99).sel [1] (by decide)⟩
  · replace H := iteF hb6 H
    refine HT_false (congrArg Value.bool hb6) ?_
    refine HT_skip ?_
    refine hK2 _ _ ?_
    refine HT_seq_k ?_
    intro K8 hK8
    refine HT_region ?_
    refine HL_cons rfl ?_
    refine o_lit0H (α := (Int) × (List (Int))) (K := KS99) (O := OS99) hH Try.underlying40 tI99 ?_
    intro A9 s9 hH' hG
    replace hH : Hp sb s F0 s9 [Ck.ol (Ow.lent (Kd.sl KI)) 22 A4 2 [p0, p1], Ck.ol OS99 99 A9 0 ([] : List ((Int) × (List (Int))))] := hH'
    clear hH' hG
    try dsimp only [putL, setL, evL, getL]
    refine HL_cons rfl ?_
    refine o_allocH hH tI40 ?_
    intro b10 s10 hH' hG
    replace hH : Hp sb s F0 s10 [Ck.ol (Ow.lent (Kd.sl KI)) 22 A4 2 [p0, p1], Ck.ol OS99 99 A9 0 ([] : List ((Int) × (List (Int)))), Ck.ov b10 [.slice none 0 0] 40] := hH'
    clear hH' hG
    try dsimp only [putL, setL, evL, getL]
    refine HL_cons rfl ?_
    refine o_stvH (vs := [.slice A9 ([] : List ((Int) × (List (Int)))).length 0]) (us' := [.slice A9 ([] : List ((Int) × (List (Int)))).length 0]) hH 2 rfl rfl rfl rfl rfl tI40 rfl (List.cons_ne_nil _ _) rfl rfl rfl ?_
    intro s11 hH'
    replace hH : Hp sb s F0 s11 [Ck.ol (Ow.lent (Kd.sl KI)) 22 A4 2 [p0, p1], Ck.ol OS99 99 A9 0 ([] : List ((Int) × (List (Int)))), Ck.ov b10 [.slice A9 ([] : List ((Int) × (List (Int)))).length 0] 40] := hH'
    clear hH'
    try dsimp only [putL, setL, evL, getL]
    refine HL_nil ?_
    refine hK8 _ _ ?_
    refine HT_seq_k ?_
    intro K12 hK12
    refine HT_region ?_
    refine HL_cons rfl ?_
    refine o_move ?_
    try dsimp only [putL, setL, evL, getL]
    refine HL_cons rfl ?_
    refine o_move ?_
    try dsimp only [putL, setL, evL, getL]
    refine HL_cons rfl ?_
    refine o_func rfl rfl ?_
    try dsimp only [putL, setL, evL, getL]
    obtain ⟨u13, hu13, H⟩ := headE H
    obtain ⟨F1, hA, hB⟩ := hH.take [2, 1] (by decide)
    dsimp only [addC, setC, rmC, selC, getC] at hA
    refine HL_cons rfl ?_
    refine o_call (args := #[.slice A0p p0.length c0p, .slice A1p p1.length c1p, .func (.func 98) #[] #[.pointer (some ⟨b10, 0, none⟩)]]) Try.func81 rfl rfl rfl (impl_along_impl_DiffOf_1.ok sb s11 F1 A0p c0p p0 A1p c1p p1 b10 A9 0 ([] : List ((Int) × (List (Int)))) HRp0 HRp1 hA _ hu13) ?_
    rintro _ s13 ⟨A14, c14, rfl, hD⟩
    replace hH := hB _ _ _ (Up.refl _ _ _) hD
    clear hD hA hB
    dsimp only [addC, setC, rmC, selC, getC] at hH
    try dsimp only [putL, setL, evL, getL]
    refine HL_nil ?_
    refine hK12 _ _ ?_
    refine HT_seq_k ?_
    intro K15 hK15
    refine HT_region ?_
    refine HL_cons rfl ?_
    refine o_load' rfl Try.underlying40 rfl (hH.hasv 4 rfl rfl) ?_
    try dsimp only [putL, setL, evL, getL]
    refine HL_cons rfl ?_
    refine o_assign ?_
    try dsimp only [putL, setL, evL, getL]
    refine HL_cons rfl ?_
    refine o_assign ?_
    try dsimp only [putL, setL, evL, getL]
    refine HL_nil ?_
    refine hK15 _ _ ?_
    refine HT_ret ?_
    obtain rfl := Option.some.inj (show some _ = some r from H)
    exact hQr _ _ [.slice A14 u13.length c14, .bool true] ⟨rfl, rfl, trivial⟩ ⟨A14, c14, rfl, hH.sel [3] (by decide)⟩
def laws_eqIntS.l1 (p0 : List (Int)) (p1 : List (Int)) : Nat → Int → Option (Lo Unit Bool)
  | 0, _ => none
  | kf + 1, x48 => if (decide (x48 < (p0.length : Int))) = true then ((rd? p0 x48).bind fun u65 => (rd? p1 x48).bind fun u66 => if (u65 != u66) = true then ((some false).bind fun z => some (Lo.ret z)) else (laws_eqIntS.l1 p0 p1 kf (IntKind.i64.wrap (x48 + 1)))) else (some (Lo.go ()))
def laws_eqIntS.f (p0 : List (Int)) (p1 : List (Int)) : Option Bool := if ((p0.length : Int) != (p1.length : Int)) = true then (some false) else ((laws_eqIntS.l1 p0 p1 ((((p0.length : Int)) - (0)).toNat + 2) 0).bind fun (o : Lo Unit Bool) => match o with | .go () => (some true) | .ret z => some z)
def laws_eqIntS.post (sb s : St) (F0 : Fp) (r : Bool) : Value → St → Prop := fun v s' => v = .bool r ∧ Hp sb s F0 s' []
set_option maxRecDepth 100000 in
set_option maxHeartbeats 4000000 in
theorem laws_eqIntS.ok (sb s : St) (F0 : Fp) (A0p : Option Addr) (c0p : Nat) (p0 : List (Int)) (A1p : Option Addr) (c1p : Nat) (p1 : List (Int)) (HRp0 : Rd KI sb A0p c0p p0) (HRp1 : Rd KI sb A1p c1p p1) (hH : Hp sb s F0 s []) (r : Bool) (H : laws_eqIntS.f p0 p1 = some r) : GCall Try.prog 18 #[.slice A0p p0.length c0p, .slice A1p p1.length c1p] s (laws_eqIntS.post sb s F0 r) := by
  refine GCall_ofk [.tmp 4] [.slice A0p p0.length c0p, .slice A1p p1.length c1p, undef, undef, undef, undef, undef, undef, undef, undef, undef, undef, undef, undef, undef, undef, undef, undef, undef, undef, undef, undef, undef, undef, undef, undef] Try.func18 rfl rfl rfl ?_
  intro w Q hQr hQn hQp
  replace H := topE H
  unfold laws_eqIntS.f at H
  refine HT_seq_k ?_
  intro K1 hK1
  refine HT_region ?_
  refine HL_cons rfl ?_
  refine o_assign ?_
  try dsimp only [putL, setL, evL, getL]
  refine HL_nil ?_
  refine hK1 _ _ ?_
  refine HT_seq_k ?_
  intro K2 hK2
  refine HT_seq_k ?_
  intro K3 hK3
  refine HT_region ?_
  refine HL_cons rfl ?_
  refine o_move ?_
  try dsimp only [putL, setL, evL, getL]
  refine HL_cons rfl ?_
  refine o_len rfl Try.underlying22 ?_
  try dsimp only [putL, setL, evL, getL]
  refine HL_cons rfl ?_
  refine o_move ?_
  try dsimp only [putL, setL, evL, getL]
  refine HL_cons rfl ?_
  refine o_len rfl Try.underlying22 ?_
  try dsimp only [putL, setL, evL, getL]
  refine HL_cons rfl ?_
  refine o_bin rfl rfl rfl ?_
  try dsimp only [putL, setL, evL, getL]
  refine HL_nil ?_
  refine hK3 _ _ ?_
  rcases Bool.eq_false_or_eq_true ((p0.length : Int) != (p1.length : Int)) with hb4 | hb4
  · replace H := iteT hb4 H
    refine HT_true (congrArg Value.bool hb4) ?_
    refine HT_seq_k ?_
    intro K5 hK5
    refine HT_region ?_
    refine HL_cons rfl ?_
    refine o_assign ?_
    try dsimp only [putL, setL, evL, getL]
    refine HL_nil ?_
    refine hK5 _ _ ?_
    refine HT_ret ?_
    obtain rfl := Option.some.inj (show some _ = some r from H)
    exact hQr _ _ [.bool false] ⟨rfl, trivial⟩ ⟨rfl, hH⟩
  · replace H := iteF hb4 H
    refine HT_false (congrArg Value.bool hb4) ?_
    refine HT_skip ?_
    refine hK2 _ _ ?_
    refine HT_seq_k ?_
    intro K6 hK6
    refine HT_seq_k ?_
    intro K7 hK7
    refine HT_region ?_
    refine HL_cons rfl ?_
    refine o_assign ?_
    try dsimp only [putL, setL, evL, getL]
    refine HL_nil ?_
    refine hK7 _ _ ?_
    refine joinH H fun G8 hG8 H => ?_
    refine HT_toK (fun l' s' => G8 (.go ()) = some r ∧ l' = [.slice A0p p0.length c0p, .slice A1p p1.length c1p, undef, undef, getL l' 4, getL l' 5, .slice A0p p0.length c0p, .int .i64 (p0.length : Int), .slice A1p p1.length c1p, .int .i64 (p1.length : Int), .bool ((p0.length : Int) != (p1.length : Int)), getL l' 11, getL l' 12, getL l' 13, getL l' 14, getL l' 15, getL l' 16, getL l' 17, getL l' 18, getL l' 19, getL l' 20, getL l' 21, getL l' 22, getL l' 23, getL l' 24, getL l' 25] ∧ Hp sb s F0 s' []) ?_ ?_
    · intro K8 hK8
      refine HT_block ?_
      refine HT_loopK (fun kf l' s' => ∃ (x48 : Int), (laws_eqIntS.l1 p0 p1 kf x48).bind G8 = some r ∧ l' = [.slice A0p p0.length c0p, .slice A1p p1.length c1p, undef, undef, getL l' 4, .int .i64 x48, .slice A0p p0.length c0p, .int .i64 (p0.length : Int), .slice A1p p1.length c1p, .int .i64 (p1.length : Int), .bool ((p0.length : Int) != (p1.length : Int)), getL l' 11, getL l' 12, getL l' 13, getL l' 14, getL l' 15, getL l' 16, getL l' 17, getL l' 18, getL l' 19, getL l' 20, getL l' 21, getL l' 22, getL l' 23, getL l' 24, getL l' 25] ∧ Hp sb s F0 s' []) ((((p0.length : Int)) - (0)).toNat + 2) ⟨0, H, rfl, hH⟩ ?_
      rintro kf l' s59 ⟨x48, H, hl, hH⟩ K59 hK59
      generalize getL l' 4 = j4, getL l' 11 = j11, getL l' 12 = j12, getL l' 13 = j13, getL l' 14 = j14, getL l' 15 = j15, getL l' 16 = j16, getL l' 17 = j17, getL l' 18 = j18, getL l' 19 = j19, getL l' 20 = j20, getL l' 21 = j21, getL l' 22 = j22, getL l' 23 = j23, getL l' 24 = j24, getL l' 25 = j25 at hl
      subst hl
      cases kf with
      | zero => simp [laws_eqIntS.l1] at H
      | succ kf =>
        rw [laws_eqIntS.l1] at H
        refine HT_seq_k ?_
        intro K60 hK60
        refine HT_seq_k ?_
        intro K61 hK61
        refine HT_region ?_
        refine HL_cons rfl ?_
        refine o_move ?_
        try dsimp only [putL, setL, evL, getL]
        refine HL_cons rfl ?_
        refine o_move ?_
        try dsimp only [putL, setL, evL, getL]
        refine HL_cons rfl ?_
        refine o_len rfl Try.underlying22 ?_
        try dsimp only [putL, setL, evL, getL]
        refine HL_cons rfl ?_
        refine o_bin rfl rfl rfl ?_
        try dsimp only [putL, setL, evL, getL]
        refine HL_nil ?_
        refine hK61 _ _ ?_
        rcases Bool.eq_false_or_eq_true (decide (x48 < (p0.length : Int))) with hb62 | hb62
        · replace H := iteT hb62 H
          refine HT_true (congrArg Value.bool hb62) ?_
          refine HT_skip ?_
          refine hK60 _ _ ?_
          refine HT_seq_k ?_
          intro K63 hK63
          refine HT_block ?_
          refine HT_seq_k ?_
          intro K64 hK64
          refine HK_draw (fun s' => Gro s59 s') 10 hMix ?_
          have hR := Gro.refl s59
          have hH0 := hH
          refine HK_readP 0 (v := .slice A0p p0.length c0p) rfl (by kernel_rfl) (fun c l s h => hQp c l s h) rfl (fun s' K hK => ?_) rfl rfl (fun _ => hR) ?_
          · refine o_move ?_
            exact hK
          try dsimp only [putL, setL, evL, getL]
          refine HK_readP 1 (v := .int .i64 x48) rfl (by kernel_rfl) (fun c l s h => hQp c l s h) rfl (fun s' K hK => ?_) rfl rfl (fun _ => hR) ?_
          · refine o_move ?_
            exact hK
          try dsimp only [putL, setL, evL, getL]
          obtain ⟨u65, hu65, H⟩ := headE H
          obtain ⟨b65, o65, cs65, hr65, hh65, hel65⟩ := Rd.elb HRp0 hu65
          obtain rfl := hr65
          refine HK_readP 2 (v := .pointer (some ⟨b65, o65, none⟩)) rfl (by kernel_rfl) (fun c l s h => hQp c l s h) rfl (fun s' K hK => ?_) rfl rfl (fun _ => hR) ?_
          · refine hel65 s' rfl rfl Try.underlying22 tI3 ?_
            exact hK
          try dsimp only [putL, setL, evL, getL]
          refine HK_read 3 (v := .int .i64 u65) rfl (by kernel_rfl) (fun c l s h => hQp c l s h) rfl (fun s' hR' K hK => ?_) rfl rfl hR ?_
          · refine o_load' rfl Try.underlying3 rfl ((hh65 (hH0.bs.mono.trans hR'.mono)) 0 _ rfl) ?_
            exact hK
          try dsimp only [putL, setL, evL, getL]
          refine HK_readP 4 (v := .slice A1p p1.length c1p) rfl (by kernel_rfl) (fun c l s h => hQp c l s h) rfl (fun s' K hK => ?_) rfl rfl (fun _ => hR) ?_
          · refine o_move ?_
            exact hK
          try dsimp only [putL, setL, evL, getL]
          refine HK_readP 5 (v := .int .i64 x48) rfl (by kernel_rfl) (fun c l s h => hQp c l s h) rfl (fun s' K hK => ?_) rfl rfl (fun _ => hR) ?_
          · refine o_move ?_
            exact hK
          try dsimp only [putL, setL, evL, getL]
          obtain ⟨u66, hu66, H⟩ := headE H
          obtain ⟨b66, o66, cs66, hr66, hh66, hel66⟩ := Rd.elb HRp1 hu66
          obtain rfl := hr66
          refine HK_readP 6 (v := .pointer (some ⟨b66, o66, none⟩)) rfl (by kernel_rfl) (fun c l s h => hQp c l s h) rfl (fun s' K hK => ?_) rfl rfl (fun _ => hR) ?_
          · refine hel66 s' rfl rfl Try.underlying22 tI3 ?_
            exact hK
          try dsimp only [putL, setL, evL, getL]
          refine HK_read 7 (v := .int .i64 u66) rfl (by kernel_rfl) (fun c l s h => hQp c l s h) rfl (fun s' hR' K hK => ?_) rfl rfl hR ?_
          · refine o_load' rfl Try.underlying3 rfl ((hh66 (hH0.bs.mono.trans hR'.mono)) 0 _ rfl) ?_
            exact hK
          try dsimp only [putL, setL, evL, getL]
          refine HK_readP 8 (v := .bool (u65 != u66)) rfl (by kernel_rfl) (fun c l s h => hQp c l s h) rfl (fun s' K hK => ?_) rfl rfl (fun _ => hR) ?_
          · refine o_bin rfl rfl rfl ?_
            exact hK
          try dsimp only [putL, setL, evL, getL]
          refine HK_done (fun _ => hR) (by kernel_rfl) ?_
          refine hK64 _ _ ?_
          rcases Bool.eq_false_or_eq_true (u65 != u66) with hb67 | hb67
          · replace H := iteT hb67 H
            refine HT_true (congrArg Value.bool hb67) ?_
            refine HT_seq_k ?_
            intro K68 hK68
            refine HT_region ?_
            refine HL_cons rfl ?_
            refine o_assign ?_
            try dsimp only [putL, setL, evL, getL]
            refine HL_nil ?_
            refine hK68 _ _ ?_
            refine HT_ret ?_
            replace H := escH (fun z hz => hG8 _ hz) H
            obtain rfl := Option.some.inj (show some _ = some r from H)
            exact hQr _ _ [.bool false] ⟨rfl, trivial⟩ ⟨rfl, hH⟩
          · replace H := iteF hb67 H
            refine HT_false (congrArg Value.bool hb67) ?_
            refine HT_skip ?_
            refine hK63 _ _ ?_
            refine HT_region ?_
            refine HL_cons rfl ?_
            refine o_move ?_
            try dsimp only [putL, setL, evL, getL]
            refine HL_cons rfl ?_
            refine o_bin rfl rfl rfl ?_
            try dsimp only [putL, setL, evL, getL]
            refine HL_cons rfl ?_
            refine o_assign ?_
            try dsimp only [putL, setL, evL, getL]
            refine HL_nil ?_
            exact hK59 _ _ ⟨kf, Nat.lt_succ_self kf, IntKind.i64.wrap (x48 + 1), H, rfl, hH⟩
        · replace H := iteF hb62 H
          refine HT_false (congrArg Value.bool hb62) ?_
          refine HT_exit ?_
          exact hK8 _ _ ⟨H, rfl, hH⟩
    · rintro l' s69 ⟨H, hl, hH⟩
      generalize getL l' 4 = j4, getL l' 5 = j5, getL l' 11 = j11, getL l' 12 = j12, getL l' 13 = j13, getL l' 14 = j14, getL l' 15 = j15, getL l' 16 = j16, getL l' 17 = j17, getL l' 18 = j18, getL l' 19 = j19, getL l' 20 = j20, getL l' 21 = j21, getL l' 22 = j22, getL l' 23 = j23, getL l' 24 = j24, getL l' 25 = j25 at hl
      subst hl
      replace H := hG8 _ H
      try dsimp only at H
      refine hK6 _ _ ?_
      refine HT_seq_k ?_
      intro K70 hK70
      refine HT_region ?_
      refine HL_cons rfl ?_
      refine o_assign ?_
      try dsimp only [putL, setL, evL, getL]
      refine HL_nil ?_
      refine hK70 _ _ ?_
      refine HT_ret ?_
      obtain rfl := Option.some.inj (show some _ = some r from H)
      exact hQr _ _ [.bool true] ⟨rfl, trivial⟩ ⟨rfl, hH⟩
def laws_eqEdit.f (p0_0 : Int) (p0_1 : List (Int)) (p1_0 : Int) (p1_1 : List (Int)) : Option Bool := if (p0_0 != p1_0) = true then (some false) else ((laws_eqIntS.f p0_1 p1_1).bind fun u10 => if (!u10) = true then (some false) else (some true))
def laws_eqEdit.post (sb s : St) (F0 : Fp) (r : Bool) : Value → St → Prop := fun v s' => v = .bool r ∧ Hp sb s F0 s' []
set_option maxRecDepth 100000 in
set_option maxHeartbeats 4000000 in
theorem laws_eqEdit.ok (sb s : St) (F0 : Fp) (p0_0 : Int) (A0_1p : Option Addr) (c0_1p : Nat) (p0_1 : List (Int)) (p1_0 : Int) (A1_1p : Option Addr) (c1_1p : Nat) (p1_1 : List (Int)) (HRp0_1 : Rd KI sb A0_1p c0_1p p0_1) (HRp1_1 : Rd KI sb A1_1p c1_1p p1_1) (hH : Hp sb s F0 s []) (r : Bool) (H : laws_eqEdit.f p0_0 p0_1 p1_0 p1_1 = some r) : GCall Try.prog 95 #[.agg #[.int .i64 p0_0, .slice A0_1p p0_1.length c0_1p], .agg #[.int .i64 p1_0, .slice A1_1p p1_1.length c1_1p]] s (laws_eqEdit.post sb s F0 r) := by
  refine GCall_ofk [.tmp 4] [.agg #[.int .i64 p0_0, .slice A0_1p p0_1.length c0_1p], .agg #[.int .i64 p1_0, .slice A1_1p p1_1.length c1_1p], undef, undef, undef, undef, undef, undef, undef, undef, undef, undef, undef, undef, undef, undef] Try.func95 rfl rfl rfl ?_
  intro w Q hQr hQn hQp
  replace H := topE H
  unfold laws_eqEdit.f at H
  refine HT_seq_k ?_
  intro K1 hK1
  refine HT_region ?_
  refine HL_cons rfl ?_
  refine o_boxH hH rfl ?_
  intro b2 s2 hH' hG
  replace hH : Hp sb s F0 s2 [Ck.ov b2 [.int .i64 p0_0, .slice A0_1p p0_1.length c0_1p] 99] := hH'
  clear hH' hG
  try dsimp only [putL, setL, evL, getL]
  refine HL_cons rfl ?_
  refine o_boxH hH rfl ?_
  intro b3 s3 hH' hG
  replace hH : Hp sb s F0 s3 [Ck.ov b2 [.int .i64 p0_0, .slice A0_1p p0_1.length c0_1p] 99, Ck.ov b3 [.int .i64 p1_0, .slice A1_1p p1_1.length c1_1p] 99] := hH'
  clear hH' hG
  try dsimp only [putL, setL, evL, getL]
  refine HL_cons rfl ?_
  refine o_assign ?_
  try dsimp only [putL, setL, evL, getL]
  refine HL_nil ?_
  refine hK1 _ _ ?_
  refine HT_seq_k ?_
  intro K4 hK4
  refine HT_seq_k ?_
  intro K5 hK5
  refine HT_region ?_
  refine HL_cons rfl ?_
  refine o_faddr' (ft := 3) (off := 0) rfl Try.underlying99 rfl tI3 (by decide) ?_
  try dsimp only [putL, setL, evL, getL]
  refine HL_cons rfl ?_
  refine o_load' rfl Try.underlying3 rfl (hH.hasv 0 rfl rfl) ?_
  try dsimp only [putL, setL, evL, getL]
  refine HL_cons rfl ?_
  refine o_faddr' (ft := 3) (off := 0) rfl Try.underlying99 rfl tI3 (by decide) ?_
  try dsimp only [putL, setL, evL, getL]
  refine HL_cons rfl ?_
  refine o_load' rfl Try.underlying3 rfl (hH.hasv 1 rfl rfl) ?_
  try dsimp only [putL, setL, evL, getL]
  refine HL_cons rfl ?_
  refine o_bin rfl rfl rfl ?_
  try dsimp only [putL, setL, evL, getL]
  refine HL_nil ?_
  refine hK5 _ _ ?_
  rcases Bool.eq_false_or_eq_true (p0_0 != p1_0) with hb6 | hb6
  · replace H := iteT hb6 H
    refine HT_true (congrArg Value.bool hb6) ?_
    refine HT_seq_k ?_
    intro K7 hK7
    refine HT_region ?_
    refine HL_cons rfl ?_
    refine o_assign ?_
    try dsimp only [putL, setL, evL, getL]
    refine HL_nil ?_
    refine hK7 _ _ ?_
    refine HT_ret ?_
    obtain rfl := Option.some.inj (show some _ = some r from H)
    exact hQr _ _ [.bool false] ⟨rfl, trivial⟩ ⟨rfl, hH.sel [] (by decide)⟩
  · replace H := iteF hb6 H
    refine HT_false (congrArg Value.bool hb6) ?_
    refine HT_skip ?_
    refine hK4 _ _ ?_
    refine HT_seq_k ?_
    intro K8 hK8
    refine HT_seq_k ?_
    intro K9 hK9
    refine HT_region ?_
    refine HL_cons rfl ?_
    refine o_faddr' (ft := 22) (off := 1) rfl Try.underlying99 rfl tI22 (by decide) ?_
    try dsimp only [putL, setL, evL, getL]
    refine HL_cons rfl ?_
    refine o_load' rfl Try.underlying22 rfl (hH.hasv 0 rfl rfl) ?_
    try dsimp only [putL, setL, evL, getL]
    refine HL_cons rfl ?_
    refine o_faddr' (ft := 22) (off := 1) rfl Try.underlying99 rfl tI22 (by decide) ?_
    try dsimp only [putL, setL, evL, getL]
    refine HL_cons rfl ?_
    refine o_load' rfl Try.underlying22 rfl (hH.hasv 1 rfl rfl) ?_
    try dsimp only [putL, setL, evL, getL]
    obtain ⟨u10, hu10, H⟩ := headE H
    refine HL_cons rfl ?_
    refine o_call (args := #[.slice A0_1p p0_1.length c0_1p, .slice A1_1p p1_1.length c1_1p]) Try.func18 rfl rfl rfl (laws_eqIntS.ok sb s3 no A0_1p c0_1p p0_1 A1_1p c1_1p p1_1 HRp0_1 HRp1_1 (Hp.own hH.bs) _ hu10) ?_
    rintro _ s10 ⟨rfl, hD⟩
    replace hH := hH.back0 hD (Up.refl _ _ _)
    clear hD
    dsimp only [addC, setC, rmC, selC, getC] at hH
    try dsimp only [putL, setL, evL, getL]
    refine HL_cons rfl ?_
    refine o_not rfl ?_
    try dsimp only [putL, setL, evL, getL]
    refine HL_nil ?_
    refine hK9 _ _ ?_
    rcases Bool.eq_false_or_eq_true (!u10) with hb11 | hb11
    · replace H := iteT hb11 H
      refine HT_true (congrArg Value.bool hb11) ?_
      refine HT_seq_k ?_
      intro K12 hK12
      refine HT_region ?_
      refine HL_cons rfl ?_
      refine o_assign ?_
      try dsimp only [putL, setL, evL, getL]
      refine HL_nil ?_
      refine hK12 _ _ ?_
      refine HT_ret ?_
      obtain rfl := Option.some.inj (show some _ = some r from H)
      exact hQr _ _ [.bool false] ⟨rfl, trivial⟩ ⟨rfl, hH.sel [] (by decide)⟩
    · replace H := iteF hb11 H
      refine HT_false (congrArg Value.bool hb11) ?_
      refine HT_skip ?_
      refine hK8 _ _ ?_
      refine HT_seq_k ?_
      intro K13 hK13
      refine HT_region ?_
      refine HL_cons rfl ?_
      refine o_assign ?_
      try dsimp only [putL, setL, evL, getL]
      refine HL_nil ?_
      refine hK13 _ _ ?_
      refine HT_ret ?_
      obtain rfl := Option.some.inj (show some _ = some r from H)
      exact hQr _ _ [.bool true] ⟨rfl, trivial⟩ ⟨rfl, hH.sel [] (by decide)⟩
def laws_eqEditS.l1 (p0 : List ((Int) × (List (Int)))) (p1 : List ((Int) × (List (Int)))) : Nat → Int → Option (Lo Unit Bool)
  | 0, _ => none
  | kf + 1, x60 => if (decide (x60 < (p0.length : Int))) = true then ((rd? p0 x60).bind fun u80 => (rd? p1 x60).bind fun u82 => (laws_eqEdit.f u80.1 u80.2 u82.1 u82.2).bind fun u84 => if (!u84) = true then ((some false).bind fun z => some (Lo.ret z)) else (laws_eqEditS.l1 p0 p1 kf (IntKind.i64.wrap (x60 + 1)))) else (some (Lo.go ()))
def laws_eqEditS.f (p0 : List ((Int) × (List (Int)))) (p1 : List ((Int) × (List (Int)))) : Option Bool := if ((p0.length : Int) != (p1.length : Int)) = true then (some false) else ((laws_eqEditS.l1 p0 p1 ((((p0.length : Int)) - (0)).toNat + 2) 0).bind fun (o : Lo Unit Bool) => match o with | .go () => (some true) | .ret z => some z)
def laws_eqEditS.post (sb s : St) (F0 : Fp) (r : Bool) : Value → St → Prop := fun v s' => v = .bool r ∧ Hp sb s F0 s' []
set_option maxRecDepth 100000 in
set_option maxHeartbeats 4000000 in
theorem laws_eqEditS.ok (sb s : St) (F0 : Fp) (A0p : Option Addr) (c0p : Nat) (p0 : List ((Int) × (List (Int)))) (A1p : Option Addr) (c1p : Nat) (p1 : List ((Int) × (List (Int)))) (HRp0 : Rd KS99 sb A0p c0p p0) (HRp1 : Rd KS99 sb A1p c1p p1) (hH : Hp sb s F0 s []) (r : Bool) (H : laws_eqEditS.f p0 p1 = some r) : GCall Try.prog 32 #[.slice A0p p0.length c0p, .slice A1p p1.length c1p] s (laws_eqEditS.post sb s F0 r) := by
  refine GCall_ofk [.tmp 4] [.slice A0p p0.length c0p, .slice A1p p1.length c1p, undef, undef, undef, undef, undef, undef, undef, undef, undef, undef, undef, undef, undef, undef, undef, undef, undef, undef, undef, undef, undef, undef, undef, undef, undef] Try.func32 rfl rfl rfl ?_
  intro w Q hQr hQn hQp
  replace H := topE H
  unfold laws_eqEditS.f at H
  refine HT_seq_k ?_
  intro K1 hK1
  refine HT_region ?_
  refine HL_cons rfl ?_
  refine o_assign ?_
  try dsimp only [putL, setL, evL, getL]
  refine HL_nil ?_
  refine hK1 _ _ ?_
  refine HT_seq_k ?_
  intro K2 hK2
  refine HT_seq_k ?_
  intro K3 hK3
  refine HT_region ?_
  refine HL_cons rfl ?_
  refine o_move ?_
  try dsimp only [putL, setL, evL, getL]
  refine HL_cons rfl ?_
  refine o_len rfl Try.underlying40 ?_
  try dsimp only [putL, setL, evL, getL]
  refine HL_cons rfl ?_
  refine o_move ?_
  try dsimp only [putL, setL, evL, getL]
  refine HL_cons rfl ?_
  refine o_len rfl Try.underlying40 ?_
  try dsimp only [putL, setL, evL, getL]
  refine HL_cons rfl ?_
  refine o_bin rfl rfl rfl ?_
  try dsimp only [putL, setL, evL, getL]
  refine HL_nil ?_
  refine hK3 _ _ ?_
  rcases Bool.eq_false_or_eq_true ((p0.length : Int) != (p1.length : Int)) with hb4 | hb4
  · replace H := iteT hb4 H
    refine HT_true (congrArg Value.bool hb4) ?_
    refine HT_seq_k ?_
    intro K5 hK5
    refine HT_region ?_
    refine HL_cons rfl ?_
    refine o_assign ?_
    try dsimp only [putL, setL, evL, getL]
    refine HL_nil ?_
    refine hK5 _ _ ?_
    refine HT_ret ?_
    obtain rfl := Option.some.inj (show some _ = some r from H)
    exact hQr _ _ [.bool false] ⟨rfl, trivial⟩ ⟨rfl, hH⟩
  · replace H := iteF hb4 H
    refine HT_false (congrArg Value.bool hb4) ?_
    refine HT_skip ?_
    refine hK2 _ _ ?_
    refine HT_seq_k ?_
    intro K6 hK6
    refine HT_seq_k ?_
    intro K7 hK7
    refine HT_region ?_
    refine HL_cons rfl ?_
    refine o_assign ?_
    try dsimp only [putL, setL, evL, getL]
    refine HL_nil ?_
    refine hK7 _ _ ?_
    refine joinH H fun G8 hG8 H => ?_
    refine HT_toK (fun l' s' => G8 (.go ()) = some r ∧ l' = [.slice A0p p0.length c0p, .slice A1p p1.length c1p, undef, undef, getL l' 4, getL l' 5, .slice A0p p0.length c0p, .int .i64 (p0.length : Int), .slice A1p p1.length c1p, .int .i64 (p1.length : Int), .bool ((p0.length : Int) != (p1.length : Int)), getL l' 11, getL l' 12, getL l' 13, getL l' 14, getL l' 15, getL l' 16, getL l' 17, getL l' 18, getL l' 19, getL l' 20, getL l' 21, getL l' 22, getL l' 23, getL l' 24, getL l' 25, getL l' 26] ∧ Hp sb s F0 s' []) ?_ ?_
    · intro K8 hK8
      refine HT_block ?_
      refine HT_loopK (fun kf l' s' => ∃ (x60 : Int), (laws_eqEditS.l1 p0 p1 kf x60).bind G8 = some r ∧ l' = [.slice A0p p0.length c0p, .slice A1p p1.length c1p, undef, undef, getL l' 4, .int .i64 x60, .slice A0p p0.length c0p, .int .i64 (p0.length : Int), .slice A1p p1.length c1p, .int .i64 (p1.length : Int), .bool ((p0.length : Int) != (p1.length : Int)), getL l' 11, getL l' 12, getL l' 13, getL l' 14, getL l' 15, getL l' 16, getL l' 17, getL l' 18, getL l' 19, getL l' 20, getL l' 21, getL l' 22, getL l' 23, getL l' 24, getL l' 25, getL l' 26] ∧ Hp sb s F0 s' []) ((((p0.length : Int)) - (0)).toNat + 2) ⟨0, H, rfl, hH⟩ ?_
      rintro kf l' s74 ⟨x60, H, hl, hH⟩ K74 hK74
      generalize getL l' 4 = j4, getL l' 11 = j11, getL l' 12 = j12, getL l' 13 = j13, getL l' 14 = j14, getL l' 15 = j15, getL l' 16 = j16, getL l' 17 = j17, getL l' 18 = j18, getL l' 19 = j19, getL l' 20 = j20, getL l' 21 = j21, getL l' 22 = j22, getL l' 23 = j23, getL l' 24 = j24, getL l' 25 = j25, getL l' 26 = j26 at hl
      subst hl
      cases kf with
      | zero => simp [laws_eqEditS.l1] at H
      | succ kf =>
        rw [laws_eqEditS.l1] at H
        refine HT_seq_k ?_
        intro K75 hK75
        refine HT_seq_k ?_
        intro K76 hK76
        refine HT_region ?_
        refine HL_cons rfl ?_
        refine o_move ?_
        try dsimp only [putL, setL, evL, getL]
        refine HL_cons rfl ?_
        refine o_move ?_
        try dsimp only [putL, setL, evL, getL]
        refine HL_cons rfl ?_
        refine o_len rfl Try.underlying40 ?_
        try dsimp only [putL, setL, evL, getL]
        refine HL_cons rfl ?_
        refine o_bin rfl rfl rfl ?_
        try dsimp only [putL, setL, evL, getL]
        refine HL_nil ?_
        refine hK76 _ _ ?_
        rcases Bool.eq_false_or_eq_true (decide (x60 < (p0.length : Int))) with hb77 | hb77
        · replace H := iteT hb77 H
          refine HT_true (congrArg Value.bool hb77) ?_
          refine HT_skip ?_
          refine hK75 _ _ ?_
          refine HT_seq_k ?_
          intro K78 hK78
          refine HT_block ?_
          refine HT_seq_k ?_
          intro K79 hK79
          refine HK_draw (fun s' => Gro s74 s') 11 hMix ?_
          have hR := Gro.refl s74
          have hH0 := hH
          refine HK_readP 0 (v := .slice A0p p0.length c0p) rfl (by kernel_rfl) (fun c l s h => hQp c l s h) rfl (fun s' K hK => ?_) rfl rfl (fun _ => hR) ?_
          · refine o_move ?_
            exact hK
          try dsimp only [putL, setL, evL, getL]
          refine HK_readP 1 (v := .int .i64 x60) rfl (by kernel_rfl) (fun c l s h => hQp c l s h) rfl (fun s' K hK => ?_) rfl rfl (fun _ => hR) ?_
          · refine o_move ?_
            exact hK
          try dsimp only [putL, setL, evL, getL]
          obtain ⟨u80, hu80, H⟩ := headE H
          obtain ⟨b80, o80, cs80, hr80, hh80, hel80⟩ := Rd.elb HRp0 hu80
          obtain ⟨_, _, rfl, rfl, ⟨A81, c81, rfl, D81⟩⟩ := hr80
          refine HK_readP 2 (v := .pointer (some ⟨b80, o80, none⟩)) rfl (by kernel_rfl) (fun c l s h => hQp c l s h) rfl (fun s' K hK => ?_) rfl rfl (fun _ => hR) ?_
          · refine hel80 s' rfl rfl Try.underlying40 tI99 ?_
            exact hK
          try dsimp only [putL, setL, evL, getL]
          refine HK_read 3 (v := .agg #[.int .i64 u80.1, .slice A81 u80.2.length c81]) rfl (by kernel_rfl) (fun c l s h => hQp c l s h) rfl (fun s' hR' K hK => ?_) rfl rfl hR ?_
          · refine o_loads' [.int .i64 u80.1, .slice A81 u80.2.length c81] rfl Try.underlying99 rfl tI99 rfl (fun j v hj => (hh80 (hH0.bs.mono.trans hR'.mono)) j v hj) ?_
            exact hK
          try dsimp only [putL, setL, evL, getL]
          refine HK_readP 4 (v := .slice A1p p1.length c1p) rfl (by kernel_rfl) (fun c l s h => hQp c l s h) rfl (fun s' K hK => ?_) rfl rfl (fun _ => hR) ?_
          · refine o_move ?_
            exact hK
          try dsimp only [putL, setL, evL, getL]
          refine HK_readP 5 (v := .int .i64 x60) rfl (by kernel_rfl) (fun c l s h => hQp c l s h) rfl (fun s' K hK => ?_) rfl rfl (fun _ => hR) ?_
          · refine o_move ?_
            exact hK
          try dsimp only [putL, setL, evL, getL]
          obtain ⟨u82, hu82, H⟩ := headE H
          obtain ⟨b82, o82, cs82, hr82, hh82, hel82⟩ := Rd.elb HRp1 hu82
          obtain ⟨_, _, rfl, rfl, ⟨A83, c83, rfl, D83⟩⟩ := hr82
          refine HK_readP 6 (v := .pointer (some ⟨b82, o82, none⟩)) rfl (by kernel_rfl) (fun c l s h => hQp c l s h) rfl (fun s' K hK => ?_) rfl rfl (fun _ => hR) ?_
          · refine hel82 s' rfl rfl Try.underlying40 tI99 ?_
            exact hK
          try dsimp only [putL, setL, evL, getL]
          refine HK_read 7 (v := .agg #[.int .i64 u82.1, .slice A83 u82.2.length c83]) rfl (by kernel_rfl) (fun c l s h => hQp c l s h) rfl (fun s' hR' K hK => ?_) rfl rfl hR ?_
          · refine o_loads' [.int .i64 u82.1, .slice A83 u82.2.length c83] rfl Try.underlying99 rfl tI99 rfl (fun j v hj => (hh82 (hH0.bs.mono.trans hR'.mono)) j v hj) ?_
            exact hK
          try dsimp only [putL, setL, evL, getL]
          obtain ⟨u84, hu84, H⟩ := headE H
          refine HK_one 8 (by kernel_rfl) rfl (fun _ => hR) rfl ?_
          refine o_call (args := #[.agg #[.int .i64 u80.1, .slice A81 u80.2.length c81], .agg #[.int .i64 u82.1, .slice A83 u82.2.length c83]]) Try.func95 rfl rfl rfl (laws_eqEdit.ok sb s74 no u80.1 A81 c81 u80.2 u82.1 A83 c83 u82.2 D81 D83 (Hp.own hH.bs) _ hu84) ?_
          rintro _ s84 ⟨rfl, hD⟩
          replace hR := hR.trans hD.gro
          replace hH := hH.back0 hD (Up.refl _ _ _)
          clear hD
          dsimp only [addC, setC, rmC, selC, getC] at hH
          try dsimp only [putL, setL, evL, getL]
          refine HK_readP 9 (v := .bool (!u84)) rfl (by kernel_rfl) (fun c l s h => hQp c l s h) rfl (fun s' K hK => ?_) rfl rfl (fun _ => hR) ?_
          · refine o_not rfl ?_
            exact hK
          try dsimp only [putL, setL, evL, getL]
          refine HK_done (fun _ => hR) (by kernel_rfl) ?_
          refine hK79 _ _ ?_
          rcases Bool.eq_false_or_eq_true (!u84) with hb85 | hb85
          · replace H := iteT hb85 H
            refine HT_true (congrArg Value.bool hb85) ?_
            refine HT_seq_k ?_
            intro K86 hK86
            refine HT_region ?_
            refine HL_cons rfl ?_
            refine o_assign ?_
            try dsimp only [putL, setL, evL, getL]
            refine HL_nil ?_
            refine hK86 _ _ ?_
            refine HT_ret ?_
            replace H := escH (fun z hz => hG8 _ hz) H
            obtain rfl := Option.some.inj (show some _ = some r from H)
            exact hQr _ _ [.bool false] ⟨rfl, trivial⟩ ⟨rfl, hH⟩
          · replace H := iteF hb85 H
            refine HT_false (congrArg Value.bool hb85) ?_
            refine HT_skip ?_
            refine hK78 _ _ ?_
            refine HT_region ?_
            refine HL_cons rfl ?_
            refine o_move ?_
            try dsimp only [putL, setL, evL, getL]
            refine HL_cons rfl ?_
            refine o_bin rfl rfl rfl ?_
            try dsimp only [putL, setL, evL, getL]
            refine HL_cons rfl ?_
            refine o_assign ?_
            try dsimp only [putL, setL, evL, getL]
            refine HL_nil ?_
            exact hK74 _ _ ⟨kf, Nat.lt_succ_self kf, IntKind.i64.wrap (x60 + 1), H, rfl, hH⟩
        · replace H := iteF hb77 H
          refine HT_false (congrArg Value.bool hb77) ?_
          refine HT_exit ?_
          exact hK8 _ _ ⟨H, rfl, hH⟩
    · rintro l' s87 ⟨H, hl, hH⟩
      generalize getL l' 4 = j4, getL l' 5 = j5, getL l' 11 = j11, getL l' 12 = j12, getL l' 13 = j13, getL l' 14 = j14, getL l' 15 = j15, getL l' 16 = j16, getL l' 17 = j17, getL l' 18 = j18, getL l' 19 = j19, getL l' 20 = j20, getL l' 21 = j21, getL l' 22 = j22, getL l' 23 = j23, getL l' 24 = j24, getL l' 25 = j25, getL l' 26 = j26 at hl
      subst hl
      replace H := hG8 _ H
      try dsimp only at H
      refine hK6 _ _ ?_
      refine HT_seq_k ?_
      intro K88 hK88
      refine HT_region ?_
      refine HL_cons rfl ?_
      refine o_assign ?_
      try dsimp only [putL, setL, evL, getL]
      refine HL_nil ?_
      refine hK88 _ _ ?_
      refine HT_ret ?_
      obtain rfl := Option.some.inj (show some _ = some r from H)
      exact hQr _ _ [.bool true] ⟨rfl, trivial⟩ ⟨rfl, hH⟩
def laws_markIntS.l1 (p0 : List (Int)) : Nat → (List (Int)) → Int → Int → Option (Int × (List (Int)))
  | 0, _, _, _ => none
  | kf + 1, x42, x43, x44 => if (decide (x44 < (p0.length : Int))) = true then ((rd? x42 x44).bind fun u61 => (st? x42 x44 x43).bind fun x62 => laws_markIntS.l1 p0 kf x62 (IntKind.i64.wrap (x43 + 1)) (IntKind.i64.wrap (x44 + 1))) else (some (x43, x42))
def laws_markIntS.f (p0 : List (Int)) (p1 : Int) : Option (Int × (List (Int))) := (laws_markIntS.l1 p0 ((((p0.length : Int)) - (0)).toNat + 2) p0 p1 0).bind fun (o : Int × (List (Int))) => match o with | (x33, x34) => (some (x33, x34))
def laws_markIntS.post (sb s : St) (F0 : Fp) (A0p : Option Addr) (c0p : Nat) (p0 : List (Int)) (r : Int × (List (Int))) : Value → St → Prop := fun v s' => v = .int .i64 r.1 ∧ Hp sb s F0 s' [Ck.ol OI 3 A0p c0p r.2] ∧ r.2.length = p0.length
set_option maxRecDepth 100000 in
set_option maxHeartbeats 4000000 in
theorem laws_markIntS.ok (sb s : St) (F0 : Fp) (A0p : Option Addr) (c0p : Nat) (p0 : List (Int)) (p1 : Int) (hH : Hp sb s F0 s [Ck.ol OI 3 A0p c0p p0]) (r : Int × (List (Int))) (H : laws_markIntS.f p0 p1 = some r) : GCall Try.prog 19 #[.slice A0p p0.length c0p, .int .i64 p1] s (laws_markIntS.post sb s F0 A0p c0p p0 r) := by
  refine GCall_ofk [.tmp 4] [.slice A0p p0.length c0p, .int .i64 p1, undef, undef, undef, undef, undef, undef, undef, undef, undef, undef, undef, undef, undef, undef, undef, undef, undef] Try.func19 rfl rfl rfl ?_
  intro w Q hQr hQn hQp
  replace H := topE H
  unfold laws_markIntS.f at H
  refine HT_seq_k ?_
  intro K1 hK1
  refine HT_region ?_
  refine HL_cons rfl ?_
  refine o_assign ?_
  try dsimp only [putL, setL, evL, getL]
  refine HL_nil ?_
  refine hK1 _ _ ?_
  refine HT_seq_k ?_
  intro K2 hK2
  refine HT_seq_k ?_
  intro K3 hK3
  refine HT_region ?_
  refine HL_cons rfl ?_
  refine o_assign ?_
  try dsimp only [putL, setL, evL, getL]
  refine HL_nil ?_
  refine hK3 _ _ ?_
  refine joinH H fun G4 hG4 H => ?_
  refine HT_toK (fun l' s' => ∃ (x33 : Int) (x34 : List (Int)), G4 (x33, x34) = some r ∧ l' = [.slice A0p p0.length c0p, .int .i64 x33, undef, undef, .int .i64 0, getL l' 5, getL l' 6, getL l' 7, getL l' 8, getL l' 9, getL l' 10, getL l' 11, getL l' 12, getL l' 13, getL l' 14, getL l' 15, getL l' 16, getL l' 17, undef] ∧ Hp sb s F0 s' [Ck.ol OI 3 A0p c0p x34] ∧ x34.length = p0.length) ?_ ?_
  · intro K4 hK4
    refine HT_block ?_
    refine HT_loopK (fun kf l' s' => ∃ (x42 : List (Int)) (x43 : Int) (x44 : Int), (laws_markIntS.l1 p0 kf x42 x43 x44).bind G4 = some r ∧ l' = [.slice A0p p0.length c0p, .int .i64 x43, undef, undef, .int .i64 0, .int .i64 x44, getL l' 6, getL l' 7, getL l' 8, getL l' 9, getL l' 10, getL l' 11, getL l' 12, getL l' 13, getL l' 14, getL l' 15, getL l' 16, getL l' 17, undef] ∧ Hp sb s F0 s' [Ck.ol OI 3 A0p c0p x42] ∧ x42.length = p0.length) ((((p0.length : Int)) - (0)).toNat + 2) ⟨p0, p1, 0, H, rfl, hH, rfl⟩ ?_
    rintro kf l' s55 ⟨x42, x43, x44, H, hl, hH, hl42⟩ K55 hK55
    generalize getL l' 6 = j6, getL l' 7 = j7, getL l' 8 = j8, getL l' 9 = j9, getL l' 10 = j10, getL l' 11 = j11, getL l' 12 = j12, getL l' 13 = j13, getL l' 14 = j14, getL l' 15 = j15, getL l' 16 = j16, getL l' 17 = j17 at hl
    subst hl
    cases kf with
    | zero => simp [laws_markIntS.l1] at H
    | succ kf =>
      rw [laws_markIntS.l1] at H
      refine HT_seq_k ?_
      intro K56 hK56
      refine HT_seq_k ?_
      intro K57 hK57
      refine HT_region ?_
      refine HL_cons rfl ?_
      refine o_move ?_
      try dsimp only [putL, setL, evL, getL]
      refine HL_cons rfl ?_
      refine o_move ?_
      try dsimp only [putL, setL, evL, getL]
      refine HL_cons rfl ?_
      refine o_len rfl Try.underlying22 ?_
      try dsimp only [putL, setL, evL, getL]
      refine HL_cons rfl ?_
      refine o_bin rfl rfl rfl ?_
      try dsimp only [putL, setL, evL, getL]
      refine HL_nil ?_
      refine hK57 _ _ ?_
      rcases Bool.eq_false_or_eq_true (decide (x44 < (p0.length : Int))) with hb58 | hb58
      · replace H := iteT hb58 H
        refine HT_true (congrArg Value.bool hb58) ?_
        refine HT_skip ?_
        refine hK56 _ _ ?_
        refine HT_seq_k ?_
        intro K59 hK59
        refine HT_block ?_
        refine HT_seq_k ?_
        intro K60 hK60
        refine HT_region ?_
        refine HL_cons rfl ?_
        refine o_move ?_
        try dsimp only [putL, setL, evL, getL]
        refine HL_cons rfl ?_
        refine o_move ?_
        try dsimp only [putL, setL, evL, getL]
        refine HL_cons rfl ?_
        refine o_move ?_
        try dsimp only [putL, setL, evL, getL]
        obtain ⟨u61, hu61, H⟩ := headE H
        obtain ⟨b61, o61, cs61, hA61, hr61, hh61, hel61⟩ := hH.elo 0 rfl hu61
        obtain rfl := hr61
        refine HL_cons rfl ?_
        refine hel61 s55 (sliceLen hl42) rfl Try.underlying22 tI3 ?_
        try dsimp only [putL, setL, evL, getL]
        obtain ⟨x62, hx62, H⟩ := headE H
        refine HL_cons rfl ?_
        refine o_setF (vs := [.int .i64 x43]) (u := x43) hH 0 rfl rfl rfl rfl rfl tI3 hA61 hx62 (Ent.own (Ent.flat rfl)) ?_
        intro s62 hH'
        have hl62 := (st?_len hx62).trans hl42
        replace hH : Hp sb s F0 s62 [Ck.ol OI 3 A0p c0p x62] := hH'
        clear hH'
        try dsimp only [putL, setL, evL, getL]
        refine HL_nil ?_
        refine hK60 _ _ ?_
        refine HT_region ?_
        refine HL_cons rfl ?_
        refine o_move ?_
        try dsimp only [putL, setL, evL, getL]
        refine HL_cons rfl ?_
        refine o_bin rfl rfl rfl ?_
        try dsimp only [putL, setL, evL, getL]
        refine HL_cons rfl ?_
        refine o_assign ?_
        try dsimp only [putL, setL, evL, getL]
        refine HL_nil ?_
        refine hK59 _ _ ?_
        refine HT_region ?_
        refine HL_cons rfl ?_
        refine o_move ?_
        try dsimp only [putL, setL, evL, getL]
        refine HL_cons rfl ?_
        refine o_bin rfl rfl rfl ?_
        try dsimp only [putL, setL, evL, getL]
        refine HL_cons rfl ?_
        refine o_assign ?_
        try dsimp only [putL, setL, evL, getL]
        refine HL_nil ?_
        exact hK55 _ _ ⟨kf, Nat.lt_succ_self kf, x62, IntKind.i64.wrap (x43 + 1), IntKind.i64.wrap (x44 + 1), H, rfl, hH, hl62⟩
      · replace H := iteF hb58 H
        refine HT_false (congrArg Value.bool hb58) ?_
        refine HT_exit ?_
        exact hK4 _ _ ⟨x43, x42, H, rfl, hH, hl42⟩
  · rintro l' s63 ⟨x33, x34, H, hl, hH, hl34⟩
    generalize getL l' 5 = j5, getL l' 6 = j6, getL l' 7 = j7, getL l' 8 = j8, getL l' 9 = j9, getL l' 10 = j10, getL l' 11 = j11, getL l' 12 = j12, getL l' 13 = j13, getL l' 14 = j14, getL l' 15 = j15, getL l' 16 = j16, getL l' 17 = j17 at hl
    subst hl
    replace H := hG4 _ H
    try dsimp only at H
    refine hK2 _ _ ?_
    refine HT_seq_k ?_
    intro K64 hK64
    refine HT_region ?_
    refine HL_cons rfl ?_
    refine o_move ?_
    try dsimp only [putL, setL, evL, getL]
    refine HL_cons rfl ?_
    refine o_assign ?_
    try dsimp only [putL, setL, evL, getL]
    refine HL_nil ?_
    refine hK64 _ _ ?_
    refine HT_ret ?_
    obtain rfl := Option.some.inj (show some _ = some r from H)
    exact hQr _ _ [.int .i64 x33] ⟨rfl, trivial⟩ ⟨rfl, hH, hl34⟩
def laws_markEditS.l1 (p0 : List ((Int) × (List (Int)))) : Nat → (List ((Int) × (List (Int)))) → Int → Int → Option (Int × (List ((Int) × (List (Int)))))
  | 0, _, _, _ => none
  | kf + 1, x78, x79, x80 => if (decide (x80 < (p0.length : Int))) = true then ((rd? x78 x80).bind fun u106 => (st? x78 x80 (x79, u106.2)).bind fun x108 => (rd? x108 x80).bind fun u110 => (laws_markIntS.f u110.2 (IntKind.i64.wrap (x79 + 1))).bind fun u114 => (st? x108 x80 (u110.1, u114.2)).bind fun x116 => laws_markEditS.l1 p0 kf x116 u114.1 (IntKind.i64.wrap (x80 + 1))) else (some (x79, x78))
def laws_markEditS.f (p0 : List ((Int) × (List (Int)))) (p1 : Int) : Option (Int × (List ((Int) × (List (Int))))) := (laws_markEditS.l1 p0 ((((p0.length : Int)) - (0)).toNat + 2) p0 p1 0).bind fun (o : Int × (List ((Int) × (List (Int))))) => match o with | (x60, x61) => (some (x60, x61))
def laws_markEditS.post (sb s : St) (F0 : Fp) (A0p : Option Addr) (c0p : Nat) (p0 : List ((Int) × (List (Int)))) (r : Int × (List ((Int) × (List (Int))))) : Value → St → Prop := fun v s' => v = .int .i64 r.1 ∧ Hp sb s F0 s' [Ck.ol OS99 99 A0p c0p r.2] ∧ r.2.length = p0.length
set_option maxRecDepth 100000 in
set_option maxHeartbeats 4000000 in
theorem laws_markEditS.ok (sb s : St) (F0 : Fp) (A0p : Option Addr) (c0p : Nat) (p0 : List ((Int) × (List (Int)))) (p1 : Int) (hH : Hp sb s F0 s [Ck.ol OS99 99 A0p c0p p0]) (r : Int × (List ((Int) × (List (Int))))) (H : laws_markEditS.f p0 p1 = some r) : GCall Try.prog 33 #[.slice A0p p0.length c0p, .int .i64 p1] s (laws_markEditS.post sb s F0 A0p c0p p0 r) := by
  refine GCall_ofk [.tmp 4] [.slice A0p p0.length c0p, .int .i64 p1, undef, undef, undef, undef, undef, undef, undef, undef, undef, undef, undef, undef, undef, undef, undef, undef, undef, undef, undef, undef, undef, undef, undef, undef, undef] Try.func33 rfl rfl rfl ?_
  intro w Q hQr hQn hQp
  replace H := topE H
  unfold laws_markEditS.f at H
  refine HT_seq_k ?_
  intro K1 hK1
  refine HT_region ?_
  refine HL_cons rfl ?_
  refine o_assign ?_
  try dsimp only [putL, setL, evL, getL]
  refine HL_nil ?_
  refine hK1 _ _ ?_
  refine HT_seq_k ?_
  intro K2 hK2
  refine HT_seq_k ?_
  intro K3 hK3
  refine HT_region ?_
  refine HL_cons rfl ?_
  refine o_assign ?_
  try dsimp only [putL, setL, evL, getL]
  refine HL_nil ?_
  refine hK3 _ _ ?_
  refine joinH H fun G4 hG4 H => ?_
  refine HT_toK (fun l' s' => ∃ (x60 : Int) (x61 : List ((Int) × (List (Int)))), G4 (x60, x61) = some r ∧ l' = [.slice A0p p0.length c0p, .int .i64 x60, undef, undef, .int .i64 0, getL l' 5, getL l' 6, getL l' 7, getL l' 8, getL l' 9, getL l' 10, getL l' 11, getL l' 12, getL l' 13, getL l' 14, getL l' 15, getL l' 16, getL l' 17, getL l' 18, getL l' 19, getL l' 20, getL l' 21, getL l' 22, getL l' 23, getL l' 24, getL l' 25, undef] ∧ Hp sb s F0 s' [Ck.ol OS99 99 A0p c0p x61] ∧ x61.length = p0.length) ?_ ?_
  · intro K4 hK4
    refine HT_block ?_
    refine HT_loopK (fun kf l' s' => ∃ (x78 : List ((Int) × (List (Int)))) (x79 : Int) (x80 : Int), (laws_markEditS.l1 p0 kf x78 x79 x80).bind G4 = some r ∧ l' = [.slice A0p p0.length c0p, .int .i64 x79, undef, undef, .int .i64 0, .int .i64 x80, getL l' 6, getL l' 7, getL l' 8, getL l' 9, getL l' 10, getL l' 11, getL l' 12, getL l' 13, getL l' 14, getL l' 15, getL l' 16, getL l' 17, getL l' 18, getL l' 19, getL l' 20, getL l' 21, getL l' 22, getL l' 23, getL l' 24, getL l' 25, undef] ∧ Hp sb s F0 s' [Ck.ol OS99 99 A0p c0p x78] ∧ x78.length = p0.length) ((((p0.length : Int)) - (0)).toNat + 2) ⟨p0, p1, 0, H, rfl, hH, rfl⟩ ?_
    rintro kf l' s100 ⟨x78, x79, x80, H, hl, hH, hl78⟩ K100 hK100
    generalize getL l' 6 = j6, getL l' 7 = j7, getL l' 8 = j8, getL l' 9 = j9, getL l' 10 = j10, getL l' 11 = j11, getL l' 12 = j12, getL l' 13 = j13, getL l' 14 = j14, getL l' 15 = j15, getL l' 16 = j16, getL l' 17 = j17, getL l' 18 = j18, getL l' 19 = j19, getL l' 20 = j20, getL l' 21 = j21, getL l' 22 = j22, getL l' 23 = j23, getL l' 24 = j24, getL l' 25 = j25 at hl
    subst hl
    cases kf with
    | zero => simp [laws_markEditS.l1] at H
    | succ kf =>
      rw [laws_markEditS.l1] at H
      refine HT_seq_k ?_
      intro K101 hK101
      refine HT_seq_k ?_
      intro K102 hK102
      refine HT_region ?_
      refine HL_cons rfl ?_
      refine o_move ?_
      try dsimp only [putL, setL, evL, getL]
      refine HL_cons rfl ?_
      refine o_move ?_
      try dsimp only [putL, setL, evL, getL]
      refine HL_cons rfl ?_
      refine o_len rfl Try.underlying40 ?_
      try dsimp only [putL, setL, evL, getL]
      refine HL_cons rfl ?_
      refine o_bin rfl rfl rfl ?_
      try dsimp only [putL, setL, evL, getL]
      refine HL_nil ?_
      refine hK102 _ _ ?_
      rcases Bool.eq_false_or_eq_true (decide (x80 < (p0.length : Int))) with hb103 | hb103
      · replace H := iteT hb103 H
        refine HT_true (congrArg Value.bool hb103) ?_
        refine HT_skip ?_
        refine hK101 _ _ ?_
        refine HT_seq_k ?_
        intro K104 hK104
        refine HT_block ?_
        refine HT_seq_k ?_
        intro K105 hK105
        refine HT_region ?_
        refine HL_cons rfl ?_
        refine o_move ?_
        try dsimp only [putL, setL, evL, getL]
        refine HL_cons rfl ?_
        refine o_move ?_
        try dsimp only [putL, setL, evL, getL]
        refine HL_cons rfl ?_
        refine o_move ?_
        try dsimp only [putL, setL, evL, getL]
        obtain ⟨u106, hu106, H⟩ := headE H
        obtain ⟨b106, o106, cs106, hA106, hr106, hh106, hel106⟩ := hH.elo 0 rfl hu106
        obtain ⟨_, _, rfl, rfl, ⟨A107, c107, rfl, D107⟩⟩ := hr106
        refine HL_cons rfl ?_
        refine hel106 s100 (sliceLen hl78) rfl Try.underlying40 tI99 ?_
        try dsimp only [putL, setL, evL, getL]
        refine HL_cons rfl ?_
        refine o_faddr' (ft := 3) (off := 0) rfl Try.underlying99 rfl tI3 (by decide) ?_
        try dsimp only [putL, setL, evL, getL]
        obtain ⟨x108, hx108, H⟩ := headE H
        refine HL_cons rfl ?_
        refine o_setf (u := u106) (u' := (x79, u106.2)) (off := 0) hH 0 rfl rfl rfl rfl tI3 hA106 hu106 (Fup.left Fup.int) hx108 ?_
        intro s108 hH'
        have hl108 := (st?_len hx108).trans hl78
        replace hH : Hp sb s F0 s108 [Ck.ol OS99 99 A0p c0p x108] := hH'
        clear hH'
        try dsimp only [putL, setL, evL, getL]
        refine HL_nil ?_
        refine hK105 _ _ ?_
        refine HT_seq_k ?_
        intro K109 hK109
        refine HT_region ?_
        refine HL_cons rfl ?_
        refine o_move ?_
        try dsimp only [putL, setL, evL, getL]
        refine HL_cons rfl ?_
        refine o_bin rfl rfl rfl ?_
        try dsimp only [putL, setL, evL, getL]
        refine HL_cons rfl ?_
        refine o_assign ?_
        try dsimp only [putL, setL, evL, getL]
        refine HL_nil ?_
        refine hK109 _ _ ?_
        refine HT_region ?_
        refine HL_cons rfl ?_
        refine o_move ?_
        try dsimp only [putL, setL, evL, getL]
        refine HL_cons rfl ?_
        refine o_move ?_
        try dsimp only [putL, setL, evL, getL]
        obtain ⟨u110, hu110, H⟩ := headE H
        obtain ⟨b110, o110, vs110, hA110, -, hH⟩ := hH.open 0 rfl rfl hu110
        dsimp only [addC, setC, rmC, selC, getC] at hH
        obtain ⟨v111, v112, rfl, hH⟩ := hH.el_pair 1 rfl rfl
        dsimp only [addC, setC, rmC, selC, getC] at hH
        obtain rfl := hH.el_rep 1 rfl
        replace hH := hH.drop 1 rfl
        dsimp only [addC, setC, rmC, selC, getC] at hH
        obtain ⟨A113, c113, rfl, hH⟩ := hH.el_sl 2 rfl rfl
        dsimp only [addC, setC, rmC, selC, getC] at hH
        replace hH : Hp sb s F0 s108 [Ck.oh OS99 99 A0p c0p x108 (Int.toNat x80) [.int .i64 u110.1, .slice A113 u110.2.length c113], Ck.emp, Ck.ol OI 3 A113 c113 u110.2] := hH
        refine HL_cons rfl ?_
        refine iaddr_of (K := KS99) hA110 hu110 s108 (sliceLen hl108) rfl Try.underlying40 tI99 ?_
        try dsimp only [putL, setL, evL, getL]
        refine HL_cons rfl ?_
        refine o_faddr' (ft := 22) (off := 1) rfl Try.underlying99 rfl tI22 (by decide) ?_
        try dsimp only [putL, setL, evL, getL]
        refine HL_cons rfl ?_
        refine o_load' rfl Try.underlying22 rfl (hH.hasoh 0 rfl hA110 1 _ rfl) ?_
        try dsimp only [putL, setL, evL, getL]
        refine HL_cons rfl ?_
        refine o_move ?_
        try dsimp only [putL, setL, evL, getL]
        obtain ⟨u114, hu114, H⟩ := headE H
        obtain ⟨F1, hA, hB⟩ := hH.take [2] (by decide)
        dsimp only [addC, setC, rmC, selC, getC] at hA
        refine HL_cons rfl ?_
        refine o_call (args := #[.slice A113 u110.2.length c113, .int .i64 (IntKind.i64.wrap (x79 + 1))]) Try.func19 rfl rfl rfl (laws_markIntS.ok sb s108 F1 A113 c113 u110.2 (IntKind.i64.wrap (x79 + 1)) hA _ hu114) ?_
        rintro _ s114 ⟨rfl, hD, hl115⟩
        replace hH := hB _ _ _ (Up.refl _ _ _) hD
        clear hD hA hB
        dsimp only [addC, setC, rmC, selC, getC] at hH
        try dsimp only [putL, setL, evL, getL]
        refine HL_cons rfl ?_
        refine o_assign ?_
        try dsimp only [putL, setL, evL, getL]
        refine HL_nil ?_
        refine hK104 _ _ ?_
        refine HT_region ?_
        refine HL_cons rfl ?_
        refine o_move ?_
        try dsimp only [putL, setL, evL, getL]
        refine HL_cons rfl ?_
        refine o_bin rfl rfl rfl ?_
        try dsimp only [putL, setL, evL, getL]
        refine HL_cons rfl ?_
        refine o_assign ?_
        try dsimp only [putL, setL, evL, getL]
        refine HL_nil ?_
        replace hH := hH.conv [3] (by decide) (d := Ck.el OS99 [.int .i64 u110.1, .slice A113 u110.2.length c113] (u110.1, u114.2)) (Ent.pair (v1 := [.int .i64 u110.1]) (v2 := [.slice A113 u110.2.length c113]) (x1 := u110.1) (x2 := u114.2) (Ent.flat rfl) (Ent.slL hl115))
        dsimp only [addC, setC, rmC, selC, getC] at hH
        obtain ⟨x116, hx116, H⟩ := headE H
        replace hH := hH.close (i := x80) 0 4 (by decide) rfl rfl rfl hx116
        dsimp only [addC, setC, rmC, selC, getC] at hH
        have hl116 := (st?_len hx116).trans hl108
        replace hH : Hp sb s F0 s114 [Ck.ol OS99 99 A0p c0p x116, Ck.emp, Ck.emp, Ck.emp, Ck.emp] := hH
        exact hK100 _ _ ⟨kf, Nat.lt_succ_self kf, x116, u114.1, IntKind.i64.wrap (x80 + 1), H, rfl, hH.sel [0] (by decide), hl116⟩
      · replace H := iteF hb103 H
        refine HT_false (congrArg Value.bool hb103) ?_
        refine HT_exit ?_
        exact hK4 _ _ ⟨x79, x78, H, rfl, hH, hl78⟩
  · rintro l' s117 ⟨x60, x61, H, hl, hH, hl61⟩
    generalize getL l' 5 = j5, getL l' 6 = j6, getL l' 7 = j7, getL l' 8 = j8, getL l' 9 = j9, getL l' 10 = j10, getL l' 11 = j11, getL l' 12 = j12, getL l' 13 = j13, getL l' 14 = j14, getL l' 15 = j15, getL l' 16 = j16, getL l' 17 = j17, getL l' 18 = j18, getL l' 19 = j19, getL l' 20 = j20, getL l' 21 = j21, getL l' 22 = j22, getL l' 23 = j23, getL l' 24 = j24, getL l' 25 = j25 at hl
    subst hl
    replace H := hG4 _ H
    try dsimp only at H
    refine hK2 _ _ ?_
    refine HT_seq_k ?_
    intro K118 hK118
    refine HT_region ?_
    refine HL_cons rfl ?_
    refine o_move ?_
    try dsimp only [putL, setL, evL, getL]
    refine HL_cons rfl ?_
    refine o_assign ?_
    try dsimp only [putL, setL, evL, getL]
    refine HL_nil ?_
    refine hK118 _ _ ?_
    refine HT_ret ?_
    obtain rfl := Option.some.inj (show some _ = some r from H)
    exact hQr _ _ [.int .i64 x60] ⟨rfl, trivial⟩ ⟨rfl, hH, hl61⟩
end Go.Proofs.Ytopecknfnhocpaa
