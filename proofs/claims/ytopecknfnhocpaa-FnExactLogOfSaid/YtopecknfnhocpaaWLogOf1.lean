/- The functions that the law reaches, as plain functions, each with its contract: printed by a program of the prover's. No conditions: lemmas. -/
import Derived.Test.YtopecknfnhocpaaWLogOf0
set_option linter.unusedVariables false
set_option linter.unusedSimpArgs false
namespace Go.Proofs.Ytopecknfnhocpaa
open Go Go.Proofs.GL
def laws_markSaidS.l1 (p0 : List ((Int) × ((Int) × (Int) × (Int) × (Int) × (List (Int))))) : Nat → (List ((Int) × ((Int) × (Int) × (Int) × (Int) × (List (Int))))) → Int → Int → Option (Int × (List ((Int) × ((Int) × (Int) × (Int) × (Int) × (List (Int))))))
  | 0, _, _, _ => none
  | kf + 1, x190, x191, x192 => if (decide (x192 < (p0.length : Int))) = true then ((rd? x190 x192).bind fun u246 => (st? x190 x192 (x191, (u246.2.1, u246.2.2.1, u246.2.2.2.1, u246.2.2.2.2.1, u246.2.2.2.2.2))).bind fun x248 => (rd? x248 x192).bind fun u251 => (st? x248 x192 (u251.1, (IntKind.i64.wrap (x191 + 1), u251.2.2.1, u251.2.2.2.1, u251.2.2.2.2.1, u251.2.2.2.2.2))).bind fun x253 => (rd? x253 x192).bind fun u256 => (st? x253 x192 (u256.1, (u256.2.1, IntKind.i64.wrap ((IntKind.i64.wrap (x191 + 1)) + 1), u256.2.2.2.1, u256.2.2.2.2.1, u256.2.2.2.2.2))).bind fun x258 => (rd? x258 x192).bind fun u261 => (st? x258 x192 (u261.1, (u261.2.1, u261.2.2.1, IntKind.i64.wrap ((IntKind.i64.wrap ((IntKind.i64.wrap (x191 + 1)) + 1)) + 1), u261.2.2.2.2.1, u261.2.2.2.2.2))).bind fun x263 => (rd? x263 x192).bind fun u266 => (st? x263 x192 (u266.1, (u266.2.1, u266.2.2.1, u266.2.2.2.1, IntKind.i64.wrap ((IntKind.i64.wrap ((IntKind.i64.wrap ((IntKind.i64.wrap (x191 + 1)) + 1)) + 1)) + 1), u266.2.2.2.2.2))).bind fun x268 => (rd? x268 x192).bind fun u270 => (laws_markIntS.f u270.2.2.2.2.2 (IntKind.i64.wrap ((IntKind.i64.wrap ((IntKind.i64.wrap ((IntKind.i64.wrap ((IntKind.i64.wrap (x191 + 1)) + 1)) + 1)) + 1)) + 1))).bind fun u282 => (st? x268 x192 (u270.1, (u270.2.1, u270.2.2.1, u270.2.2.2.1, u270.2.2.2.2.1, u282.2))).bind fun x284 => laws_markSaidS.l1 p0 kf x284 u282.1 (IntKind.i64.wrap (x192 + 1))) else (some (x191, x190))
def laws_markSaidS.f (p0 : List ((Int) × ((Int) × (Int) × (Int) × (Int) × (List (Int))))) (p1 : Int) : Option (Int × (List ((Int) × ((Int) × (Int) × (Int) × (Int) × (List (Int)))))) := (laws_markSaidS.l1 p0 ((((p0.length : Int)) - (0)).toNat + 2) p0 p1 0).bind fun (o : Int × (List ((Int) × ((Int) × (Int) × (Int) × (Int) × (List (Int)))))) => match o with | (x144, x145) => (some (x144, x145))
def laws_markSaidS.post (sb s : St) (F0 : Fp) (A0p : Option Addr) (c0p : Nat) (p0 : List ((Int) × ((Int) × (Int) × (Int) × (Int) × (List (Int))))) (r : Int × (List ((Int) × ((Int) × (Int) × (Int) × (Int) × (List (Int)))))) : Value → St → Prop := fun v s' => v = .int .i64 r.1 ∧ Hp sb s F0 s' [Ck.ol OS139 139 A0p c0p r.2] ∧ r.2.length = p0.length
set_option maxRecDepth 100000 in
set_option maxHeartbeats 4000000 in
theorem laws_markSaidS.ok (sb s : St) (F0 : Fp) (A0p : Option Addr) (c0p : Nat) (p0 : List ((Int) × ((Int) × (Int) × (Int) × (Int) × (List (Int))))) (p1 : Int) (hH : Hp sb s F0 s [Ck.ol OS139 139 A0p c0p p0]) (r : Int × (List ((Int) × ((Int) × (Int) × (Int) × (Int) × (List (Int)))))) (H : laws_markSaidS.f p0 p1 = some r) : GCall Try.prog 62 #[.slice A0p p0.length c0p, .int .i64 p1] s (laws_markSaidS.post sb s F0 A0p c0p p0 r) := by
  refine GCall_ofk [.tmp 4] [.slice A0p p0.length c0p, .int .i64 p1, undef, undef, undef, undef, undef, undef, undef, undef, undef, undef, undef, undef, undef, undef, undef, undef, undef, undef, undef, undef, undef, undef, undef, undef, undef, undef, undef, undef, undef, undef, undef, undef, undef, undef, undef, undef, undef, undef, undef, undef, undef, undef, undef, undef, undef, undef, undef, undef, undef, undef, undef, undef, undef, undef, undef, undef, undef, undef] Try.func62 rfl rfl rfl ?_
  intro w Q hQr hQn hQp
  replace H := topE H
  unfold laws_markSaidS.f at H
  refine HT_seq_k ?_
  intro K1 hK1
  refine HT_region ?_
  refine HL_cons rfl ?_
  refine o_assign ?_
  try dsimp only [putL, setL, evL, getL]
  refine HL_nil ?_
  refine hK1 _ _ ?_
  refine HT_seq_k ?_
  intro K2 hK2
  refine HT_seq_k ?_
  intro K3 hK3
  refine HT_region ?_
  refine HL_cons rfl ?_
  refine o_assign ?_
  try dsimp only [putL, setL, evL, getL]
  refine HL_nil ?_
  refine hK3 _ _ ?_
  refine joinH H fun G4 hG4 H => ?_
  refine HT_toK (fun l' s' => ∃ (x144 : Int) (x145 : List ((Int) × ((Int) × (Int) × (Int) × (Int) × (List (Int))))), G4 (x144, x145) = some r ∧ l' = [.slice A0p p0.length c0p, .int .i64 x144, undef, undef, .int .i64 0, getL l' 5, getL l' 6, getL l' 7, getL l' 8, getL l' 9, getL l' 10, getL l' 11, getL l' 12, getL l' 13, getL l' 14, getL l' 15, getL l' 16, getL l' 17, getL l' 18, getL l' 19, getL l' 20, getL l' 21, getL l' 22, getL l' 23, getL l' 24, getL l' 25, getL l' 26, getL l' 27, getL l' 28, getL l' 29, getL l' 30, getL l' 31, getL l' 32, getL l' 33, getL l' 34, getL l' 35, getL l' 36, getL l' 37, getL l' 38, getL l' 39, getL l' 40, getL l' 41, getL l' 42, getL l' 43, getL l' 44, getL l' 45, getL l' 46, getL l' 47, getL l' 48, getL l' 49, getL l' 50, getL l' 51, getL l' 52, getL l' 53, getL l' 54, getL l' 55, getL l' 56, getL l' 57, getL l' 58, undef] ∧ Hp sb s F0 s' [Ck.ol OS139 139 A0p c0p x145] ∧ x145.length = p0.length) ?_ ?_
  · intro K4 hK4
    refine HT_block ?_
    refine HT_loopK (fun kf l' s' => ∃ (x190 : List ((Int) × ((Int) × (Int) × (Int) × (Int) × (List (Int))))) (x191 : Int) (x192 : Int), (laws_markSaidS.l1 p0 kf x190 x191 x192).bind G4 = some r ∧ l' = [.slice A0p p0.length c0p, .int .i64 x191, undef, undef, .int .i64 0, .int .i64 x192, getL l' 6, getL l' 7, getL l' 8, getL l' 9, getL l' 10, getL l' 11, getL l' 12, getL l' 13, getL l' 14, getL l' 15, getL l' 16, getL l' 17, getL l' 18, getL l' 19, getL l' 20, getL l' 21, getL l' 22, getL l' 23, getL l' 24, getL l' 25, getL l' 26, getL l' 27, getL l' 28, getL l' 29, getL l' 30, getL l' 31, getL l' 32, getL l' 33, getL l' 34, getL l' 35, getL l' 36, getL l' 37, getL l' 38, getL l' 39, getL l' 40, getL l' 41, getL l' 42, getL l' 43, getL l' 44, getL l' 45, getL l' 46, getL l' 47, getL l' 48, getL l' 49, getL l' 50, getL l' 51, getL l' 52, getL l' 53, getL l' 54, getL l' 55, getL l' 56, getL l' 57, getL l' 58, undef] ∧ Hp sb s F0 s' [Ck.ol OS139 139 A0p c0p x190] ∧ x190.length = p0.length) ((((p0.length : Int)) - (0)).toNat + 2) ⟨p0, p1, 0, H, rfl, hH, rfl⟩ ?_
    rintro kf l' s240 ⟨x190, x191, x192, H, hl, hH, hl190⟩ K240 hK240
    generalize getL l' 6 = j6, getL l' 7 = j7, getL l' 8 = j8, getL l' 9 = j9, getL l' 10 = j10, getL l' 11 = j11, getL l' 12 = j12, getL l' 13 = j13, getL l' 14 = j14, getL l' 15 = j15, getL l' 16 = j16, getL l' 17 = j17, getL l' 18 = j18, getL l' 19 = j19, getL l' 20 = j20, getL l' 21 = j21, getL l' 22 = j22, getL l' 23 = j23, getL l' 24 = j24, getL l' 25 = j25, getL l' 26 = j26, getL l' 27 = j27, getL l' 28 = j28, getL l' 29 = j29, getL l' 30 = j30, getL l' 31 = j31, getL l' 32 = j32, getL l' 33 = j33, getL l' 34 = j34, getL l' 35 = j35, getL l' 36 = j36, getL l' 37 = j37, getL l' 38 = j38, getL l' 39 = j39, getL l' 40 = j40, getL l' 41 = j41, getL l' 42 = j42, getL l' 43 = j43, getL l' 44 = j44, getL l' 45 = j45, getL l' 46 = j46, getL l' 47 = j47, getL l' 48 = j48, getL l' 49 = j49, getL l' 50 = j50, getL l' 51 = j51, getL l' 52 = j52, getL l' 53 = j53, getL l' 54 = j54, getL l' 55 = j55, getL l' 56 = j56, getL l' 57 = j57, getL l' 58 = j58 at hl
    subst hl
    cases kf with
    | zero => simp [laws_markSaidS.l1] at H
    | succ kf =>
      rw [laws_markSaidS.l1] at H
      refine HT_seq_k ?_
      intro K241 hK241
      refine HT_seq_k ?_
      intro K242 hK242
      refine HT_region ?_
      refine HL_cons rfl ?_
      refine o_move ?_
      try dsimp only [putL, setL, evL, getL]
      refine HL_cons rfl ?_
      refine o_move ?_
      try dsimp only [putL, setL, evL, getL]
      refine HL_cons rfl ?_
      refine o_len rfl Try.underlying77 ?_
      try dsimp only [putL, setL, evL, getL]
      refine HL_cons rfl ?_
      refine o_bin rfl rfl rfl ?_
      try dsimp only [putL, setL, evL, getL]
      refine HL_nil ?_
      refine hK242 _ _ ?_
      rcases Bool.eq_false_or_eq_true (decide (x192 < (p0.length : Int))) with hb243 | hb243
      · replace H := iteT hb243 H
        refine HT_true (congrArg Value.bool hb243) ?_
        refine HT_skip ?_
        refine hK241 _ _ ?_
        refine HT_seq_k ?_
        intro K244 hK244
        refine HT_block ?_
        refine HT_seq_k ?_
        intro K245 hK245
        refine HT_region ?_
        refine HL_cons rfl ?_
        refine o_move ?_
        try dsimp only [putL, setL, evL, getL]
        refine HL_cons rfl ?_
        refine o_move ?_
        try dsimp only [putL, setL, evL, getL]
        refine HL_cons rfl ?_
        refine o_move ?_
        try dsimp only [putL, setL, evL, getL]
        obtain ⟨u246, hu246, H⟩ := headE H
        obtain ⟨b246, o246, cs246, hA246, hr246, hh246, hel246⟩ := hH.elo 0 rfl hu246
        obtain ⟨_, _, rfl, rfl, ⟨_, _, rfl, rfl, ⟨_, _, rfl, rfl, ⟨_, _, rfl, rfl, ⟨_, _, rfl, rfl, ⟨A247, c247, rfl, D247⟩⟩⟩⟩⟩⟩ := hr246
        refine HL_cons rfl ?_
        refine hel246 s240 (sliceLen hl190) rfl Try.underlying77 tI139 ?_
        try dsimp only [putL, setL, evL, getL]
        refine HL_cons rfl ?_
        refine o_faddr' (ft := 3) (off := 0) rfl Try.underlying139 rfl tI3 (by decide) ?_
        try dsimp only [putL, setL, evL, getL]
        obtain ⟨x248, hx248, H⟩ := headE H
        refine HL_cons rfl ?_
        refine o_setf (u := u246) (u' := (x191, (u246.2.1, u246.2.2.1, u246.2.2.2.1, u246.2.2.2.2.1, u246.2.2.2.2.2))) (off := 0) hH 0 rfl rfl rfl rfl tI3 hA246 hu246 (Fup.left Fup.int) hx248 ?_
        intro s248 hH'
        have hl248 := (st?_len hx248).trans hl190
        replace hH : Hp sb s F0 s248 [Ck.ol OS139 139 A0p c0p x248] := hH'
        clear hH'
        try dsimp only [putL, setL, evL, getL]
        refine HL_nil ?_
        refine hK245 _ _ ?_
        refine HT_seq_k ?_
        intro K249 hK249
        refine HT_region ?_
        refine HL_cons rfl ?_
        refine o_move ?_
        try dsimp only [putL, setL, evL, getL]
        refine HL_cons rfl ?_
        refine o_bin rfl rfl rfl ?_
        try dsimp only [putL, setL, evL, getL]
        refine HL_cons rfl ?_
        refine o_assign ?_
        try dsimp only [putL, setL, evL, getL]
        refine HL_nil ?_
        refine hK249 _ _ ?_
        refine HT_seq_k ?_
        intro K250 hK250
        refine HT_region ?_
        refine HL_cons rfl ?_
        refine o_move ?_
        try dsimp only [putL, setL, evL, getL]
        refine HL_cons rfl ?_
        refine o_move ?_
        try dsimp only [putL, setL, evL, getL]
        refine HL_cons rfl ?_
        refine o_move ?_
        try dsimp only [putL, setL, evL, getL]
        obtain ⟨u251, hu251, H⟩ := headE H
        obtain ⟨b251, o251, cs251, hA251, hr251, hh251, hel251⟩ := hH.elo 0 rfl hu251
        obtain ⟨_, _, rfl, rfl, ⟨_, _, rfl, rfl, ⟨_, _, rfl, rfl, ⟨_, _, rfl, rfl, ⟨_, _, rfl, rfl, ⟨A252, c252, rfl, D252⟩⟩⟩⟩⟩⟩ := hr251
        refine HL_cons rfl ?_
        refine hel251 s248 (sliceLen hl248) rfl Try.underlying77 tI139 ?_
        try dsimp only [putL, setL, evL, getL]
        refine HL_cons rfl ?_
        refine o_faddr' (ft := 137) (off := 1) rfl Try.underlying139 rfl tI137 (by decide) ?_
        try dsimp only [putL, setL, evL, getL]
        refine HL_cons rfl ?_
        refine o_faddr' (ft := 3) (off := 0) rfl Try.underlying137 rfl tI3 (by decide) ?_
        try dsimp only [putL, setL, evL, getL]
        obtain ⟨x253, hx253, H⟩ := headE H
        refine HL_cons rfl ?_
        refine o_setf (u := u251) (u' := (u251.1, (IntKind.i64.wrap (x191 + 1), u251.2.2.1, u251.2.2.2.1, u251.2.2.2.2.1, u251.2.2.2.2.2))) (off := 1) hH 0 rfl rfl rfl rfl tI3 hA251 hu251 (Fup.right (Fup.left Fup.int)) hx253 ?_
        intro s253 hH'
        have hl253 := (st?_len hx253).trans hl248
        replace hH : Hp sb s F0 s253 [Ck.ol OS139 139 A0p c0p x253] := hH'
        clear hH'
        try dsimp only [putL, setL, evL, getL]
        refine HL_nil ?_
        refine hK250 _ _ ?_
        refine HT_seq_k ?_
        intro K254 hK254
        refine HT_region ?_
        refine HL_cons rfl ?_
        refine o_move ?_
        try dsimp only [putL, setL, evL, getL]
        refine HL_cons rfl ?_
        refine o_bin rfl rfl rfl ?_
        try dsimp only [putL, setL, evL, getL]
        refine HL_cons rfl ?_
        refine o_assign ?_
        try dsimp only [putL, setL, evL, getL]
        refine HL_nil ?_
        refine hK254 _ _ ?_
        refine HT_seq_k ?_
        intro K255 hK255
        refine HT_region ?_
        refine HL_cons rfl ?_
        refine o_move ?_
        try dsimp only [putL, setL, evL, getL]
        refine HL_cons rfl ?_
        refine o_move ?_
        try dsimp only [putL, setL, evL, getL]
        refine HL_cons rfl ?_
        refine o_move ?_
        try dsimp only [putL, setL, evL, getL]
        obtain ⟨u256, hu256, H⟩ := headE H
        obtain ⟨b256, o256, cs256, hA256, hr256, hh256, hel256⟩ := hH.elo 0 rfl hu256
        obtain ⟨_, _, rfl, rfl, ⟨_, _, rfl, rfl, ⟨_, _, rfl, rfl, ⟨_, _, rfl, rfl, ⟨_, _, rfl, rfl, ⟨A257, c257, rfl, D257⟩⟩⟩⟩⟩⟩ := hr256
        refine HL_cons rfl ?_
        refine hel256 s253 (sliceLen hl253) rfl Try.underlying77 tI139 ?_
        try dsimp only [putL, setL, evL, getL]
        refine HL_cons rfl ?_
        refine o_faddr' (ft := 137) (off := 1) rfl Try.underlying139 rfl tI137 (by decide) ?_
        try dsimp only [putL, setL, evL, getL]
        refine HL_cons rfl ?_
        refine o_faddr' (ft := 3) (off := 1) rfl Try.underlying137 rfl tI3 (by decide) ?_
        try dsimp only [putL, setL, evL, getL]
        obtain ⟨x258, hx258, H⟩ := headE H
        refine HL_cons rfl ?_
        refine o_setf (u := u256) (u' := (u256.1, (u256.2.1, IntKind.i64.wrap ((IntKind.i64.wrap (x191 + 1)) + 1), u256.2.2.2.1, u256.2.2.2.2.1, u256.2.2.2.2.2))) (off := 2) hH 0 rfl rfl rfl rfl tI3 hA256 hu256 (Fup.right (Fup.right (Fup.left Fup.int))) hx258 ?_
        intro s258 hH'
        have hl258 := (st?_len hx258).trans hl253
        replace hH : Hp sb s F0 s258 [Ck.ol OS139 139 A0p c0p x258] := hH'
        clear hH'
        try dsimp only [putL, setL, evL, getL]
        refine HL_nil ?_
        refine hK255 _ _ ?_
        refine HT_seq_k ?_
        intro K259 hK259
        refine HT_region ?_
        refine HL_cons rfl ?_
        refine o_move ?_
        try dsimp only [putL, setL, evL, getL]
        refine HL_cons rfl ?_
        refine o_bin rfl rfl rfl ?_
        try dsimp only [putL, setL, evL, getL]
        refine HL_cons rfl ?_
        refine o_assign ?_
        try dsimp only [putL, setL, evL, getL]
        refine HL_nil ?_
        refine hK259 _ _ ?_
        refine HT_seq_k ?_
        intro K260 hK260
        refine HT_region ?_
        refine HL_cons rfl ?_
        refine o_move ?_
        try dsimp only [putL, setL, evL, getL]
        refine HL_cons rfl ?_
        refine o_move ?_
        try dsimp only [putL, setL, evL, getL]
        refine HL_cons rfl ?_
        refine o_move ?_
        try dsimp only [putL, setL, evL, getL]
        obtain ⟨u261, hu261, H⟩ := headE H
        obtain ⟨b261, o261, cs261, hA261, hr261, hh261, hel261⟩ := hH.elo 0 rfl hu261
        obtain ⟨_, _, rfl, rfl, ⟨_, _, rfl, rfl, ⟨_, _, rfl, rfl, ⟨_, _, rfl, rfl, ⟨_, _, rfl, rfl, ⟨A262, c262, rfl, D262⟩⟩⟩⟩⟩⟩ := hr261
        refine HL_cons rfl ?_
        refine hel261 s258 (sliceLen hl258) rfl Try.underlying77 tI139 ?_
        try dsimp only [putL, setL, evL, getL]
        refine HL_cons rfl ?_
        refine o_faddr' (ft := 137) (off := 1) rfl Try.underlying139 rfl tI137 (by decide) ?_
        try dsimp only [putL, setL, evL, getL]
        refine HL_cons rfl ?_
        refine o_faddr' (ft := 3) (off := 2) rfl Try.underlying137 rfl tI3 (by decide) ?_
        try dsimp only [putL, setL, evL, getL]
        obtain ⟨x263, hx263, H⟩ := headE H
        refine HL_cons rfl ?_
        refine o_setf (u := u261) (u' := (u261.1, (u261.2.1, u261.2.2.1, IntKind.i64.wrap ((IntKind.i64.wrap ((IntKind.i64.wrap (x191 + 1)) + 1)) + 1), u261.2.2.2.2.1, u261.2.2.2.2.2))) (off := 3) hH 0 rfl rfl rfl rfl tI3 hA261 hu261 (Fup.right (Fup.right (Fup.right (Fup.left Fup.int)))) hx263 ?_
        intro s263 hH'
        have hl263 := (st?_len hx263).trans hl258
        replace hH : Hp sb s F0 s263 [Ck.ol OS139 139 A0p c0p x263] := hH'
        clear hH'
        try dsimp only [putL, setL, evL, getL]
        refine HL_nil ?_
        refine hK260 _ _ ?_
        refine HT_seq_k ?_
        intro K264 hK264
        refine HT_region ?_
        refine HL_cons rfl ?_
        refine o_move ?_
        try dsimp only [putL, setL, evL, getL]
        refine HL_cons rfl ?_
        refine o_bin rfl rfl rfl ?_
        try dsimp only [putL, setL, evL, getL]
        refine HL_cons rfl ?_
        refine o_assign ?_
        try dsimp only [putL, setL, evL, getL]
        refine HL_nil ?_
        refine hK264 _ _ ?_
        refine HT_seq_k ?_
        intro K265 hK265
        refine HT_region ?_
        refine HL_cons rfl ?_
        refine o_move ?_
        try dsimp only [putL, setL, evL, getL]
        refine HL_cons rfl ?_
        refine o_move ?_
        try dsimp only [putL, setL, evL, getL]
        refine HL_cons rfl ?_
        refine o_move ?_
        try dsimp only [putL, setL, evL, getL]
        obtain ⟨u266, hu266, H⟩ := headE H
        obtain ⟨b266, o266, cs266, hA266, hr266, hh266, hel266⟩ := hH.elo 0 rfl hu266
        obtain ⟨_, _, rfl, rfl, ⟨_, _, rfl, rfl, ⟨_, _, rfl, rfl, ⟨_, _, rfl, rfl, ⟨_, _, rfl, rfl, ⟨A267, c267, rfl, D267⟩⟩⟩⟩⟩⟩ := hr266
        refine HL_cons rfl ?_
        refine hel266 s263 (sliceLen hl263) rfl Try.underlying77 tI139 ?_
        try dsimp only [putL, setL, evL, getL]
        refine HL_cons rfl ?_
        refine o_faddr' (ft := 137) (off := 1) rfl Try.underlying139 rfl tI137 (by decide) ?_
        try dsimp only [putL, setL, evL, getL]
        refine HL_cons rfl ?_
        refine o_faddr' (ft := 3) (off := 3) rfl Try.underlying137 rfl tI3 (by decide) ?_
        try dsimp only [putL, setL, evL, getL]
        obtain ⟨x268, hx268, H⟩ := headE H
        refine HL_cons rfl ?_
        refine o_setf (u := u266) (u' := (u266.1, (u266.2.1, u266.2.2.1, u266.2.2.2.1, IntKind.i64.wrap ((IntKind.i64.wrap ((IntKind.i64.wrap ((IntKind.i64.wrap (x191 + 1)) + 1)) + 1)) + 1), u266.2.2.2.2.2))) (off := 4) hH 0 rfl rfl rfl rfl tI3 hA266 hu266 (Fup.right (Fup.right (Fup.right (Fup.right (Fup.left Fup.int))))) hx268 ?_
        intro s268 hH'
        have hl268 := (st?_len hx268).trans hl263
        replace hH : Hp sb s F0 s268 [Ck.ol OS139 139 A0p c0p x268] := hH'
        clear hH'
        try dsimp only [putL, setL, evL, getL]
        refine HL_nil ?_
        refine hK265 _ _ ?_
        refine HT_seq_k ?_
        intro K269 hK269
        refine HT_region ?_
        refine HL_cons rfl ?_
        refine o_move ?_
        try dsimp only [putL, setL, evL, getL]
        refine HL_cons rfl ?_
        refine o_bin rfl rfl rfl ?_
        try dsimp only [putL, setL, evL, getL]
        refine HL_cons rfl ?_
        refine o_assign ?_
        try dsimp only [putL, setL, evL, getL]
        refine HL_nil ?_
        refine hK269 _ _ ?_
        refine HT_region ?_
        refine HL_cons rfl ?_
        refine o_move ?_
        try dsimp only [putL, setL, evL, getL]
        refine HL_cons rfl ?_
        refine o_move ?_
        try dsimp only [putL, setL, evL, getL]
        obtain ⟨u270, hu270, H⟩ := headE H
        obtain ⟨b270, o270, vs270, hA270, -, hH⟩ := hH.open 0 rfl rfl hu270
        dsimp only [addC, setC, rmC, selC, getC] at hH
        obtain ⟨v271, v272, rfl, hH⟩ := hH.el_pair 1 rfl rfl
        dsimp only [addC, setC, rmC, selC, getC] at hH
        obtain rfl := hH.el_rep 1 rfl
        replace hH := hH.drop 1 rfl
        dsimp only [addC, setC, rmC, selC, getC] at hH
        obtain ⟨v273, v274, rfl, hH⟩ := hH.el_pair 2 rfl rfl
        dsimp only [addC, setC, rmC, selC, getC] at hH
        obtain rfl := hH.el_rep 2 rfl
        replace hH := hH.drop 2 rfl
        dsimp only [addC, setC, rmC, selC, getC] at hH
        obtain ⟨v275, v276, rfl, hH⟩ := hH.el_pair 3 rfl rfl
        dsimp only [addC, setC, rmC, selC, getC] at hH
        obtain rfl := hH.el_rep 3 rfl
        replace hH := hH.drop 3 rfl
        dsimp only [addC, setC, rmC, selC, getC] at hH
        obtain ⟨v277, v278, rfl, hH⟩ := hH.el_pair 4 rfl rfl
        dsimp only [addC, setC, rmC, selC, getC] at hH
        obtain rfl := hH.el_rep 4 rfl
        replace hH := hH.drop 4 rfl
        dsimp only [addC, setC, rmC, selC, getC] at hH
        obtain ⟨v279, v280, rfl, hH⟩ := hH.el_pair 5 rfl rfl
        dsimp only [addC, setC, rmC, selC, getC] at hH
        obtain rfl := hH.el_rep 5 rfl
        replace hH := hH.drop 5 rfl
        dsimp only [addC, setC, rmC, selC, getC] at hH
        obtain ⟨A281, c281, rfl, hH⟩ := hH.el_sl 6 rfl rfl
        dsimp only [addC, setC, rmC, selC, getC] at hH
        replace hH : Hp sb s F0 s268 [Ck.oh OS139 139 A0p c0p x268 (Int.toNat x192) [.int .i64 u270.1, .int .i64 u270.2.1, .int .i64 u270.2.2.1, .int .i64 u270.2.2.2.1, .int .i64 u270.2.2.2.2.1, .slice A281 u270.2.2.2.2.2.length c281], Ck.emp, Ck.emp, Ck.emp, Ck.emp, Ck.emp, Ck.ol OI 3 A281 c281 u270.2.2.2.2.2] := hH
        refine HL_cons rfl ?_
        refine iaddr_of (K := KS139) hA270 hu270 s268 (sliceLen hl268) rfl Try.underlying77 tI139 ?_
        try dsimp only [putL, setL, evL, getL]
        refine HL_cons rfl ?_
        refine o_faddr' (ft := 137) (off := 1) rfl Try.underlying139 rfl tI137 (by decide) ?_
        try dsimp only [putL, setL, evL, getL]
        refine HL_cons rfl ?_
        refine o_faddr' (ft := 22) (off := 4) rfl Try.underlying137 rfl tI22 (by decide) ?_
        try dsimp only [putL, setL, evL, getL]
        refine HL_cons rfl ?_
        refine o_load' rfl Try.underlying22 rfl (hH.hasoh 0 rfl hA270 5 _ rfl) ?_
        try dsimp only [putL, setL, evL, getL]
        refine HL_cons rfl ?_
        refine o_move ?_
        try dsimp only [putL, setL, evL, getL]
        obtain ⟨u282, hu282, H⟩ := headE H
        obtain ⟨F1, hA, hB⟩ := hH.take [6] (by decide)
        dsimp only [addC, setC, rmC, selC, getC] at hA
        refine HL_cons rfl ?_
        refine o_call (args := #[.slice A281 u270.2.2.2.2.2.length c281, .int .i64 (IntKind.i64.wrap ((IntKind.i64.wrap ((IntKind.i64.wrap ((IntKind.i64.wrap ((IntKind.i64.wrap (x191 + 1)) + 1)) + 1)) + 1)) + 1))]) Try.func19 rfl rfl rfl (laws_markIntS.ok sb s268 F1 A281 c281 u270.2.2.2.2.2 (IntKind.i64.wrap ((IntKind.i64.wrap ((IntKind.i64.wrap ((IntKind.i64.wrap ((IntKind.i64.wrap (x191 + 1)) + 1)) + 1)) + 1)) + 1)) hA _ hu282) ?_
        rintro _ s282 ⟨rfl, hD, hl283⟩
        replace hH := hB _ _ _ (Up.refl _ _ _) hD
        clear hD hA hB
        dsimp only [addC, setC, rmC, selC, getC] at hH
        try dsimp only [putL, setL, evL, getL]
        refine HL_cons rfl ?_
        refine o_assign ?_
        try dsimp only [putL, setL, evL, getL]
        refine HL_nil ?_
        refine hK244 _ _ ?_
        refine HT_region ?_
        refine HL_cons rfl ?_
        refine o_move ?_
        try dsimp only [putL, setL, evL, getL]
        refine HL_cons rfl ?_
        refine o_bin rfl rfl rfl ?_
        try dsimp only [putL, setL, evL, getL]
        refine HL_cons rfl ?_
        refine o_assign ?_
        try dsimp only [putL, setL, evL, getL]
        refine HL_nil ?_
        replace hH := hH.conv [7] (by decide) (d := Ck.el OS139 [.int .i64 u270.1, .int .i64 u270.2.1, .int .i64 u270.2.2.1, .int .i64 u270.2.2.2.1, .int .i64 u270.2.2.2.2.1, .slice A281 u270.2.2.2.2.2.length c281] (u270.1, (u270.2.1, u270.2.2.1, u270.2.2.2.1, u270.2.2.2.2.1, u282.2))) (Ent.pair (v1 := [.int .i64 u270.1]) (v2 := [.int .i64 u270.2.1, .int .i64 u270.2.2.1, .int .i64 u270.2.2.2.1, .int .i64 u270.2.2.2.2.1, .slice A281 u270.2.2.2.2.2.length c281]) (x1 := u270.1) (x2 := (u270.2.1, (u270.2.2.1, (u270.2.2.2.1, (u270.2.2.2.2.1, u282.2))))) (Ent.flat rfl) (Ent.pair (v1 := [.int .i64 u270.2.1]) (v2 := [.int .i64 u270.2.2.1, .int .i64 u270.2.2.2.1, .int .i64 u270.2.2.2.2.1, .slice A281 u270.2.2.2.2.2.length c281]) (x1 := u270.2.1) (x2 := (u270.2.2.1, (u270.2.2.2.1, (u270.2.2.2.2.1, u282.2)))) (Ent.flat rfl) (Ent.pair (v1 := [.int .i64 u270.2.2.1]) (v2 := [.int .i64 u270.2.2.2.1, .int .i64 u270.2.2.2.2.1, .slice A281 u270.2.2.2.2.2.length c281]) (x1 := u270.2.2.1) (x2 := (u270.2.2.2.1, (u270.2.2.2.2.1, u282.2))) (Ent.flat rfl) (Ent.pair (v1 := [.int .i64 u270.2.2.2.1]) (v2 := [.int .i64 u270.2.2.2.2.1, .slice A281 u270.2.2.2.2.2.length c281]) (x1 := u270.2.2.2.1) (x2 := (u270.2.2.2.2.1, u282.2)) (Ent.flat rfl) (Ent.pair (v1 := [.int .i64 u270.2.2.2.2.1]) (v2 := [.slice A281 u270.2.2.2.2.2.length c281]) (x1 := u270.2.2.2.2.1) (x2 := u282.2) (Ent.flat rfl) (Ent.slL hl283))))))
        dsimp only [addC, setC, rmC, selC, getC] at hH
        obtain ⟨x284, hx284, H⟩ := headE H
        replace hH := hH.close (i := x192) 0 8 (by decide) rfl rfl rfl hx284
        dsimp only [addC, setC, rmC, selC, getC] at hH
        have hl284 := (st?_len hx284).trans hl268
        replace hH : Hp sb s F0 s282 [Ck.ol OS139 139 A0p c0p x284, Ck.emp, Ck.emp, Ck.emp, Ck.emp, Ck.emp, Ck.emp, Ck.emp, Ck.emp] := hH
        exact hK240 _ _ ⟨kf, Nat.lt_succ_self kf, x284, u282.1, IntKind.i64.wrap (x192 + 1), H, rfl, hH.sel [0] (by decide), hl284⟩
      · replace H := iteF hb243 H
        refine HT_false (congrArg Value.bool hb243) ?_
        refine HT_exit ?_
        exact hK4 _ _ ⟨x191, x190, H, rfl, hH, hl190⟩
  · rintro l' s285 ⟨x144, x145, H, hl, hH, hl145⟩
    generalize getL l' 5 = j5, getL l' 6 = j6, getL l' 7 = j7, getL l' 8 = j8, getL l' 9 = j9, getL l' 10 = j10, getL l' 11 = j11, getL l' 12 = j12, getL l' 13 = j13, getL l' 14 = j14, getL l' 15 = j15, getL l' 16 = j16, getL l' 17 = j17, getL l' 18 = j18, getL l' 19 = j19, getL l' 20 = j20, getL l' 21 = j21, getL l' 22 = j22, getL l' 23 = j23, getL l' 24 = j24, getL l' 25 = j25, getL l' 26 = j26, getL l' 27 = j27, getL l' 28 = j28, getL l' 29 = j29, getL l' 30 = j30, getL l' 31 = j31, getL l' 32 = j32, getL l' 33 = j33, getL l' 34 = j34, getL l' 35 = j35, getL l' 36 = j36, getL l' 37 = j37, getL l' 38 = j38, getL l' 39 = j39, getL l' 40 = j40, getL l' 41 = j41, getL l' 42 = j42, getL l' 43 = j43, getL l' 44 = j44, getL l' 45 = j45, getL l' 46 = j46, getL l' 47 = j47, getL l' 48 = j48, getL l' 49 = j49, getL l' 50 = j50, getL l' 51 = j51, getL l' 52 = j52, getL l' 53 = j53, getL l' 54 = j54, getL l' 55 = j55, getL l' 56 = j56, getL l' 57 = j57, getL l' 58 = j58 at hl
    subst hl
    replace H := hG4 _ H
    try dsimp only at H
    refine hK2 _ _ ?_
    refine HT_seq_k ?_
    intro K286 hK286
    refine HT_region ?_
    refine HL_cons rfl ?_
    refine o_move ?_
    try dsimp only [putL, setL, evL, getL]
    refine HL_cons rfl ?_
    refine o_assign ?_
    try dsimp only [putL, setL, evL, getL]
    refine HL_nil ?_
    refine hK286 _ _ ?_
    refine HT_ret ?_
    obtain rfl := Option.some.inj (show some _ = some r from H)
    exact hQr _ _ [.int .i64 x144] ⟨rfl, trivial⟩ ⟨rfl, hH, hl145⟩
def laws_markEventS.l1 (p0 : List ((Int) × (Int) × (Int) × (Int) × (List (Int)))) : Nat → (List ((Int) × (Int) × (Int) × (Int) × (List (Int)))) → Int → Int → Option (Int × (List ((Int) × (Int) × (Int) × (Int) × (List (Int)))))
  | 0, _, _, _ => none
  | kf + 1, x162, x163, x164 => if (decide (x164 < (p0.length : Int))) = true then ((rd? x162 x164).bind fun u211 => (st? x162 x164 (x163, u211.2.1, u211.2.2.1, u211.2.2.2.1, u211.2.2.2.2)).bind fun x213 => (rd? x213 x164).bind fun u216 => (st? x213 x164 (u216.1, IntKind.i64.wrap (x163 + 1), u216.2.2.1, u216.2.2.2.1, u216.2.2.2.2)).bind fun x218 => (rd? x218 x164).bind fun u221 => (st? x218 x164 (u221.1, u221.2.1, IntKind.i64.wrap ((IntKind.i64.wrap (x163 + 1)) + 1), u221.2.2.2.1, u221.2.2.2.2)).bind fun x223 => (rd? x223 x164).bind fun u226 => (st? x223 x164 (u226.1, u226.2.1, u226.2.2.1, IntKind.i64.wrap ((IntKind.i64.wrap ((IntKind.i64.wrap (x163 + 1)) + 1)) + 1), u226.2.2.2.2)).bind fun x228 => (rd? x228 x164).bind fun u230 => (laws_markIntS.f u230.2.2.2.2 (IntKind.i64.wrap ((IntKind.i64.wrap ((IntKind.i64.wrap ((IntKind.i64.wrap (x163 + 1)) + 1)) + 1)) + 1))).bind fun u240 => (st? x228 x164 (u230.1, u230.2.1, u230.2.2.1, u230.2.2.2.1, u240.2)).bind fun x242 => laws_markEventS.l1 p0 kf x242 u240.1 (IntKind.i64.wrap (x164 + 1))) else (some (x163, x162))
def laws_markEventS.f (p0 : List ((Int) × (Int) × (Int) × (Int) × (List (Int)))) (p1 : Int) : Option (Int × (List ((Int) × (Int) × (Int) × (Int) × (List (Int))))) := (laws_markEventS.l1 p0 ((((p0.length : Int)) - (0)).toNat + 2) p0 p1 0).bind fun (o : Int × (List ((Int) × (Int) × (Int) × (Int) × (List (Int))))) => match o with | (x123, x124) => (some (x123, x124))
def laws_markEventS.post (sb s : St) (F0 : Fp) (A0p : Option Addr) (c0p : Nat) (p0 : List ((Int) × (Int) × (Int) × (Int) × (List (Int)))) (r : Int × (List ((Int) × (Int) × (Int) × (Int) × (List (Int))))) : Value → St → Prop := fun v s' => v = .int .i64 r.1 ∧ Hp sb s F0 s' [Ck.ol OS137 137 A0p c0p r.2] ∧ r.2.length = p0.length
set_option maxRecDepth 100000 in
set_option maxHeartbeats 4000000 in
theorem laws_markEventS.ok (sb s : St) (F0 : Fp) (A0p : Option Addr) (c0p : Nat) (p0 : List ((Int) × (Int) × (Int) × (Int) × (List (Int)))) (p1 : Int) (hH : Hp sb s F0 s [Ck.ol OS137 137 A0p c0p p0]) (r : Int × (List ((Int) × (Int) × (Int) × (Int) × (List (Int))))) (H : laws_markEventS.f p0 p1 = some r) : GCall Try.prog 63 #[.slice A0p p0.length c0p, .int .i64 p1] s (laws_markEventS.post sb s F0 A0p c0p p0 r) := by
  refine GCall_ofk [.tmp 4] [.slice A0p p0.length c0p, .int .i64 p1, undef, undef, undef, undef, undef, undef, undef, undef, undef, undef, undef, undef, undef, undef, undef, undef, undef, undef, undef, undef, undef, undef, undef, undef, undef, undef, undef, undef, undef, undef, undef, undef, undef, undef, undef, undef, undef, undef, undef, undef, undef, undef, undef, undef, undef, undef] Try.func63 rfl rfl rfl ?_
  intro w Q hQr hQn hQp
  replace H := topE H
  unfold laws_markEventS.f at H
  refine HT_seq_k ?_
  intro K1 hK1
  refine HT_region ?_
  refine HL_cons rfl ?_
  refine o_assign ?_
  try dsimp only [putL, setL, evL, getL]
  refine HL_nil ?_
  refine hK1 _ _ ?_
  refine HT_seq_k ?_
  intro K2 hK2
  refine HT_seq_k ?_
  intro K3 hK3
  refine HT_region ?_
  refine HL_cons rfl ?_
  refine o_assign ?_
  try dsimp only [putL, setL, evL, getL]
  refine HL_nil ?_
  refine hK3 _ _ ?_
  refine joinH H fun G4 hG4 H => ?_
  refine HT_toK (fun l' s' => ∃ (x123 : Int) (x124 : List ((Int) × (Int) × (Int) × (Int) × (List (Int)))), G4 (x123, x124) = some r ∧ l' = [.slice A0p p0.length c0p, .int .i64 x123, undef, undef, .int .i64 0, getL l' 5, getL l' 6, getL l' 7, getL l' 8, getL l' 9, getL l' 10, getL l' 11, getL l' 12, getL l' 13, getL l' 14, getL l' 15, getL l' 16, getL l' 17, getL l' 18, getL l' 19, getL l' 20, getL l' 21, getL l' 22, getL l' 23, getL l' 24, getL l' 25, getL l' 26, getL l' 27, getL l' 28, getL l' 29, getL l' 30, getL l' 31, getL l' 32, getL l' 33, getL l' 34, getL l' 35, getL l' 36, getL l' 37, getL l' 38, getL l' 39, getL l' 40, getL l' 41, getL l' 42, getL l' 43, getL l' 44, getL l' 45, getL l' 46, undef] ∧ Hp sb s F0 s' [Ck.ol OS137 137 A0p c0p x124] ∧ x124.length = p0.length) ?_ ?_
  · intro K4 hK4
    refine HT_block ?_
    refine HT_loopK (fun kf l' s' => ∃ (x162 : List ((Int) × (Int) × (Int) × (Int) × (List (Int)))) (x163 : Int) (x164 : Int), (laws_markEventS.l1 p0 kf x162 x163 x164).bind G4 = some r ∧ l' = [.slice A0p p0.length c0p, .int .i64 x163, undef, undef, .int .i64 0, .int .i64 x164, getL l' 6, getL l' 7, getL l' 8, getL l' 9, getL l' 10, getL l' 11, getL l' 12, getL l' 13, getL l' 14, getL l' 15, getL l' 16, getL l' 17, getL l' 18, getL l' 19, getL l' 20, getL l' 21, getL l' 22, getL l' 23, getL l' 24, getL l' 25, getL l' 26, getL l' 27, getL l' 28, getL l' 29, getL l' 30, getL l' 31, getL l' 32, getL l' 33, getL l' 34, getL l' 35, getL l' 36, getL l' 37, getL l' 38, getL l' 39, getL l' 40, getL l' 41, getL l' 42, getL l' 43, getL l' 44, getL l' 45, getL l' 46, undef] ∧ Hp sb s F0 s' [Ck.ol OS137 137 A0p c0p x162] ∧ x162.length = p0.length) ((((p0.length : Int)) - (0)).toNat + 2) ⟨p0, p1, 0, H, rfl, hH, rfl⟩ ?_
    rintro kf l' s205 ⟨x162, x163, x164, H, hl, hH, hl162⟩ K205 hK205
    generalize getL l' 6 = j6, getL l' 7 = j7, getL l' 8 = j8, getL l' 9 = j9, getL l' 10 = j10, getL l' 11 = j11, getL l' 12 = j12, getL l' 13 = j13, getL l' 14 = j14, getL l' 15 = j15, getL l' 16 = j16, getL l' 17 = j17, getL l' 18 = j18, getL l' 19 = j19, getL l' 20 = j20, getL l' 21 = j21, getL l' 22 = j22, getL l' 23 = j23, getL l' 24 = j24, getL l' 25 = j25, getL l' 26 = j26, getL l' 27 = j27, getL l' 28 = j28, getL l' 29 = j29, getL l' 30 = j30, getL l' 31 = j31, getL l' 32 = j32, getL l' 33 = j33, getL l' 34 = j34, getL l' 35 = j35, getL l' 36 = j36, getL l' 37 = j37, getL l' 38 = j38, getL l' 39 = j39, getL l' 40 = j40, getL l' 41 = j41, getL l' 42 = j42, getL l' 43 = j43, getL l' 44 = j44, getL l' 45 = j45, getL l' 46 = j46 at hl
    subst hl
    cases kf with
    | zero => simp [laws_markEventS.l1] at H
    | succ kf =>
      rw [laws_markEventS.l1] at H
      refine HT_seq_k ?_
      intro K206 hK206
      refine HT_seq_k ?_
      intro K207 hK207
      refine HT_region ?_
      refine HL_cons rfl ?_
      refine o_move ?_
      try dsimp only [putL, setL, evL, getL]
      refine HL_cons rfl ?_
      refine o_move ?_
      try dsimp only [putL, setL, evL, getL]
      refine HL_cons rfl ?_
      refine o_len rfl Try.underlying74 ?_
      try dsimp only [putL, setL, evL, getL]
      refine HL_cons rfl ?_
      refine o_bin rfl rfl rfl ?_
      try dsimp only [putL, setL, evL, getL]
      refine HL_nil ?_
      refine hK207 _ _ ?_
      rcases Bool.eq_false_or_eq_true (decide (x164 < (p0.length : Int))) with hb208 | hb208
      · replace H := iteT hb208 H
        refine HT_true (congrArg Value.bool hb208) ?_
        refine HT_skip ?_
        refine hK206 _ _ ?_
        refine HT_seq_k ?_
        intro K209 hK209
        refine HT_block ?_
        refine HT_seq_k ?_
        intro K210 hK210
        refine HT_region ?_
        refine HL_cons rfl ?_
        refine o_move ?_
        try dsimp only [putL, setL, evL, getL]
        refine HL_cons rfl ?_
        refine o_move ?_
        try dsimp only [putL, setL, evL, getL]
        refine HL_cons rfl ?_
        refine o_move ?_
        try dsimp only [putL, setL, evL, getL]
        obtain ⟨u211, hu211, H⟩ := headE H
        obtain ⟨b211, o211, cs211, hA211, hr211, hh211, hel211⟩ := hH.elo 0 rfl hu211
        obtain ⟨_, _, rfl, rfl, ⟨_, _, rfl, rfl, ⟨_, _, rfl, rfl, ⟨_, _, rfl, rfl, ⟨A212, c212, rfl, D212⟩⟩⟩⟩⟩ := hr211
        refine HL_cons rfl ?_
        refine hel211 s205 (sliceLen hl162) rfl Try.underlying74 tI137 ?_
        try dsimp only [putL, setL, evL, getL]
        refine HL_cons rfl ?_
        refine o_faddr' (ft := 3) (off := 0) rfl Try.underlying137 rfl tI3 (by decide) ?_
        try dsimp only [putL, setL, evL, getL]
        obtain ⟨x213, hx213, H⟩ := headE H
        refine HL_cons rfl ?_
        refine o_setf (u := u211) (u' := (x163, u211.2.1, u211.2.2.1, u211.2.2.2.1, u211.2.2.2.2)) (off := 0) hH 0 rfl rfl rfl rfl tI3 hA211 hu211 (Fup.left Fup.int) hx213 ?_
        intro s213 hH'
        have hl213 := (st?_len hx213).trans hl162
        replace hH : Hp sb s F0 s213 [Ck.ol OS137 137 A0p c0p x213] := hH'
        clear hH'
        try dsimp only [putL, setL, evL, getL]
        refine HL_nil ?_
        refine hK210 _ _ ?_
        refine HT_seq_k ?_
        intro K214 hK214
        refine HT_region ?_
        refine HL_cons rfl ?_
        refine o_move ?_
        try dsimp only [putL, setL, evL, getL]
        refine HL_cons rfl ?_
        refine o_bin rfl rfl rfl ?_
        try dsimp only [putL, setL, evL, getL]
        refine HL_cons rfl ?_
        refine o_assign ?_
        try dsimp only [putL, setL, evL, getL]
        refine HL_nil ?_
        refine hK214 _ _ ?_
        refine HT_seq_k ?_
        intro K215 hK215
        refine HT_region ?_
        refine HL_cons rfl ?_
        refine o_move ?_
        try dsimp only [putL, setL, evL, getL]
        refine HL_cons rfl ?_
        refine o_move ?_
        try dsimp only [putL, setL, evL, getL]
        refine HL_cons rfl ?_
        refine o_move ?_
        try dsimp only [putL, setL, evL, getL]
        obtain ⟨u216, hu216, H⟩ := headE H
        obtain ⟨b216, o216, cs216, hA216, hr216, hh216, hel216⟩ := hH.elo 0 rfl hu216
        obtain ⟨_, _, rfl, rfl, ⟨_, _, rfl, rfl, ⟨_, _, rfl, rfl, ⟨_, _, rfl, rfl, ⟨A217, c217, rfl, D217⟩⟩⟩⟩⟩ := hr216
        refine HL_cons rfl ?_
        refine hel216 s213 (sliceLen hl213) rfl Try.underlying74 tI137 ?_
        try dsimp only [putL, setL, evL, getL]
        refine HL_cons rfl ?_
        refine o_faddr' (ft := 3) (off := 1) rfl Try.underlying137 rfl tI3 (by decide) ?_
        try dsimp only [putL, setL, evL, getL]
        obtain ⟨x218, hx218, H⟩ := headE H
        refine HL_cons rfl ?_
        refine o_setf (u := u216) (u' := (u216.1, IntKind.i64.wrap (x163 + 1), u216.2.2.1, u216.2.2.2.1, u216.2.2.2.2)) (off := 1) hH 0 rfl rfl rfl rfl tI3 hA216 hu216 (Fup.right (Fup.left Fup.int)) hx218 ?_
        intro s218 hH'
        have hl218 := (st?_len hx218).trans hl213
        replace hH : Hp sb s F0 s218 [Ck.ol OS137 137 A0p c0p x218] := hH'
        clear hH'
        try dsimp only [putL, setL, evL, getL]
        refine HL_nil ?_
        refine hK215 _ _ ?_
        refine HT_seq_k ?_
        intro K219 hK219
        refine HT_region ?_
        refine HL_cons rfl ?_
        refine o_move ?_
        try dsimp only [putL, setL, evL, getL]
        refine HL_cons rfl ?_
        refine o_bin rfl rfl rfl ?_
        try dsimp only [putL, setL, evL, getL]
        refine HL_cons rfl ?_
        refine o_assign ?_
        try dsimp only [putL, setL, evL, getL]
        refine HL_nil ?_
        refine hK219 _ _ ?_
        refine HT_seq_k ?_
        intro K220 hK220
        refine HT_region ?_
        refine HL_cons rfl ?_
        refine o_move ?_
        try dsimp only [putL, setL, evL, getL]
        refine HL_cons rfl ?_
        refine o_move ?_
        try dsimp only [putL, setL, evL, getL]
        refine HL_cons rfl ?_
        refine o_move ?_
        try dsimp only [putL, setL, evL, getL]
        obtain ⟨u221, hu221, H⟩ := headE H
        obtain ⟨b221, o221, cs221, hA221, hr221, hh221, hel221⟩ := hH.elo 0 rfl hu221
        obtain ⟨_, _, rfl, rfl, ⟨_, _, rfl, rfl, ⟨_, _, rfl, rfl, ⟨_, _, rfl, rfl, ⟨A222, c222, rfl, D222⟩⟩⟩⟩⟩ := hr221
        refine HL_cons rfl ?_
        refine hel221 s218 (sliceLen hl218) rfl Try.underlying74 tI137 ?_
        try dsimp only [putL, setL, evL, getL]
        refine HL_cons rfl ?_
        refine o_faddr' (ft := 3) (off := 2) rfl Try.underlying137 rfl tI3 (by decide) ?_
        try dsimp only [putL, setL, evL, getL]
        obtain ⟨x223, hx223, H⟩ := headE H
        refine HL_cons rfl ?_
        refine o_setf (u := u221) (u' := (u221.1, u221.2.1, IntKind.i64.wrap ((IntKind.i64.wrap (x163 + 1)) + 1), u221.2.2.2.1, u221.2.2.2.2)) (off := 2) hH 0 rfl rfl rfl rfl tI3 hA221 hu221 (Fup.right (Fup.right (Fup.left Fup.int))) hx223 ?_
        intro s223 hH'
        have hl223 := (st?_len hx223).trans hl218
        replace hH : Hp sb s F0 s223 [Ck.ol OS137 137 A0p c0p x223] := hH'
        clear hH'
        try dsimp only [putL, setL, evL, getL]
        refine HL_nil ?_
        refine hK220 _ _ ?_
        refine HT_seq_k ?_
        intro K224 hK224
        refine HT_region ?_
        refine HL_cons rfl ?_
        refine o_move ?_
        try dsimp only [putL, setL, evL, getL]
        refine HL_cons rfl ?_
        refine o_bin rfl rfl rfl ?_
        try dsimp only [putL, setL, evL, getL]
        refine HL_cons rfl ?_
        refine o_assign ?_
        try dsimp only [putL, setL, evL, getL]
        refine HL_nil ?_
        refine hK224 _ _ ?_
        refine HT_seq_k ?_
        intro K225 hK225
        refine HT_region ?_
        refine HL_cons rfl ?_
        refine o_move ?_
        try dsimp only [putL, setL, evL, getL]
        refine HL_cons rfl ?_
        refine o_move ?_
        try dsimp only [putL, setL, evL, getL]
        refine HL_cons rfl ?_
        refine o_move ?_
        try dsimp only [putL, setL, evL, getL]
        obtain ⟨u226, hu226, H⟩ := headE H
        obtain ⟨b226, o226, cs226, hA226, hr226, hh226, hel226⟩ := hH.elo 0 rfl hu226
        obtain ⟨_, _, rfl, rfl, ⟨_, _, rfl, rfl, ⟨_, _, rfl, rfl, ⟨_, _, rfl, rfl, ⟨A227, c227, rfl, D227⟩⟩⟩⟩⟩ := hr226
        refine HL_cons rfl ?_
        refine hel226 s223 (sliceLen hl223) rfl Try.underlying74 tI137 ?_
        try dsimp only [putL, setL, evL, getL]
        refine HL_cons rfl ?_
        refine o_faddr' (ft := 3) (off := 3) rfl Try.underlying137 rfl tI3 (by decide) ?_
        try dsimp only [putL, setL, evL, getL]
        obtain ⟨x228, hx228, H⟩ := headE H
        refine HL_cons rfl ?_
        refine o_setf (u := u226) (u' := (u226.1, u226.2.1, u226.2.2.1, IntKind.i64.wrap ((IntKind.i64.wrap ((IntKind.i64.wrap (x163 + 1)) + 1)) + 1), u226.2.2.2.2)) (off := 3) hH 0 rfl rfl rfl rfl tI3 hA226 hu226 (Fup.right (Fup.right (Fup.right (Fup.left Fup.int)))) hx228 ?_
        intro s228 hH'
        have hl228 := (st?_len hx228).trans hl223
        replace hH : Hp sb s F0 s228 [Ck.ol OS137 137 A0p c0p x228] := hH'
        clear hH'
        try dsimp only [putL, setL, evL, getL]
        refine HL_nil ?_
        refine hK225 _ _ ?_
        refine HT_seq_k ?_
        intro K229 hK229
        refine HT_region ?_
        refine HL_cons rfl ?_
        refine o_move ?_
        try dsimp only [putL, setL, evL, getL]
        refine HL_cons rfl ?_
        refine o_bin rfl rfl rfl ?_
        try dsimp only [putL, setL, evL, getL]
        refine HL_cons rfl ?_
        refine o_assign ?_
        try dsimp only [putL, setL, evL, getL]
        refine HL_nil ?_
        refine hK229 _ _ ?_
        refine HT_region ?_
        refine HL_cons rfl ?_
        refine o_move ?_
        try dsimp only [putL, setL, evL, getL]
        refine HL_cons rfl ?_
        refine o_move ?_
        try dsimp only [putL, setL, evL, getL]
        obtain ⟨u230, hu230, H⟩ := headE H
        obtain ⟨b230, o230, vs230, hA230, -, hH⟩ := hH.open 0 rfl rfl hu230
        dsimp only [addC, setC, rmC, selC, getC] at hH
        obtain ⟨v231, v232, rfl, hH⟩ := hH.el_pair 1 rfl rfl
        dsimp only [addC, setC, rmC, selC, getC] at hH
        obtain rfl := hH.el_rep 1 rfl
        replace hH := hH.drop 1 rfl
        dsimp only [addC, setC, rmC, selC, getC] at hH
        obtain ⟨v233, v234, rfl, hH⟩ := hH.el_pair 2 rfl rfl
        dsimp only [addC, setC, rmC, selC, getC] at hH
        obtain rfl := hH.el_rep 2 rfl
        replace hH := hH.drop 2 rfl
        dsimp only [addC, setC, rmC, selC, getC] at hH
        obtain ⟨v235, v236, rfl, hH⟩ := hH.el_pair 3 rfl rfl
        dsimp only [addC, setC, rmC, selC, getC] at hH
        obtain rfl := hH.el_rep 3 rfl
        replace hH := hH.drop 3 rfl
        dsimp only [addC, setC, rmC, selC, getC] at hH
        obtain ⟨v237, v238, rfl, hH⟩ := hH.el_pair 4 rfl rfl
        dsimp only [addC, setC, rmC, selC, getC] at hH
        obtain rfl := hH.el_rep 4 rfl
        replace hH := hH.drop 4 rfl
        dsimp only [addC, setC, rmC, selC, getC] at hH
        obtain ⟨A239, c239, rfl, hH⟩ := hH.el_sl 5 rfl rfl
        dsimp only [addC, setC, rmC, selC, getC] at hH
        replace hH : Hp sb s F0 s228 [Ck.oh OS137 137 A0p c0p x228 (Int.toNat x164) [.int .i64 u230.1, .int .i64 u230.2.1, .int .i64 u230.2.2.1, .int .i64 u230.2.2.2.1, .slice A239 u230.2.2.2.2.length c239], Ck.emp, Ck.emp, Ck.emp, Ck.emp, Ck.ol OI 3 A239 c239 u230.2.2.2.2] := hH
        refine HL_cons rfl ?_
        refine iaddr_of (K := KS137) hA230 hu230 s228 (sliceLen hl228) rfl Try.underlying74 tI137 ?_
        try dsimp only [putL, setL, evL, getL]
        refine HL_cons rfl ?_
        refine o_faddr' (ft := 22) (off := 4) rfl Try.underlying137 rfl tI22 (by decide) ?_
        try dsimp only [putL, setL, evL, getL]
        refine HL_cons rfl ?_
        refine o_load' rfl Try.underlying22 rfl (hH.hasoh 0 rfl hA230 4 _ rfl) ?_
        try dsimp only [putL, setL, evL, getL]
        refine HL_cons rfl ?_
        refine o_move ?_
        try dsimp only [putL, setL, evL, getL]
        obtain ⟨u240, hu240, H⟩ := headE H
        obtain ⟨F1, hA, hB⟩ := hH.take [5] (by decide)
        dsimp only [addC, setC, rmC, selC, getC] at hA
        refine HL_cons rfl ?_
        refine o_call (args := #[.slice A239 u230.2.2.2.2.length c239, .int .i64 (IntKind.i64.wrap ((IntKind.i64.wrap ((IntKind.i64.wrap ((IntKind.i64.wrap (x163 + 1)) + 1)) + 1)) + 1))]) Try.func19 rfl rfl rfl (laws_markIntS.ok sb s228 F1 A239 c239 u230.2.2.2.2 (IntKind.i64.wrap ((IntKind.i64.wrap ((IntKind.i64.wrap ((IntKind.i64.wrap (x163 + 1)) + 1)) + 1)) + 1)) hA _ hu240) ?_
        rintro _ s240 ⟨rfl, hD, hl241⟩
        replace hH := hB _ _ _ (Up.refl _ _ _) hD
        clear hD hA hB
        dsimp only [addC, setC, rmC, selC, getC] at hH
        try dsimp only [putL, setL, evL, getL]
        refine HL_cons rfl ?_
        refine o_assign ?_
        try dsimp only [putL, setL, evL, getL]
        refine HL_nil ?_
        refine hK209 _ _ ?_
        refine HT_region ?_
        refine HL_cons rfl ?_
        refine o_move ?_
        try dsimp only [putL, setL, evL, getL]
        refine HL_cons rfl ?_
        refine o_bin rfl rfl rfl ?_
        try dsimp only [putL, setL, evL, getL]
        refine HL_cons rfl ?_
        refine o_assign ?_
        try dsimp only [putL, setL, evL, getL]
        refine HL_nil ?_
        replace hH := hH.conv [6] (by decide) (d := Ck.el OS137 [.int .i64 u230.1, .int .i64 u230.2.1, .int .i64 u230.2.2.1, .int .i64 u230.2.2.2.1, .slice A239 u230.2.2.2.2.length c239] (u230.1, u230.2.1, u230.2.2.1, u230.2.2.2.1, u240.2)) (Ent.pair (v1 := [.int .i64 u230.1]) (v2 := [.int .i64 u230.2.1, .int .i64 u230.2.2.1, .int .i64 u230.2.2.2.1, .slice A239 u230.2.2.2.2.length c239]) (x1 := u230.1) (x2 := (u230.2.1, (u230.2.2.1, (u230.2.2.2.1, u240.2)))) (Ent.flat rfl) (Ent.pair (v1 := [.int .i64 u230.2.1]) (v2 := [.int .i64 u230.2.2.1, .int .i64 u230.2.2.2.1, .slice A239 u230.2.2.2.2.length c239]) (x1 := u230.2.1) (x2 := (u230.2.2.1, (u230.2.2.2.1, u240.2))) (Ent.flat rfl) (Ent.pair (v1 := [.int .i64 u230.2.2.1]) (v2 := [.int .i64 u230.2.2.2.1, .slice A239 u230.2.2.2.2.length c239]) (x1 := u230.2.2.1) (x2 := (u230.2.2.2.1, u240.2)) (Ent.flat rfl) (Ent.pair (v1 := [.int .i64 u230.2.2.2.1]) (v2 := [.slice A239 u230.2.2.2.2.length c239]) (x1 := u230.2.2.2.1) (x2 := u240.2) (Ent.flat rfl) (Ent.slL hl241)))))
        dsimp only [addC, setC, rmC, selC, getC] at hH
        obtain ⟨x242, hx242, H⟩ := headE H
        replace hH := hH.close (i := x164) 0 7 (by decide) rfl rfl rfl hx242
        dsimp only [addC, setC, rmC, selC, getC] at hH
        have hl242 := (st?_len hx242).trans hl228
        replace hH : Hp sb s F0 s240 [Ck.ol OS137 137 A0p c0p x242, Ck.emp, Ck.emp, Ck.emp, Ck.emp, Ck.emp, Ck.emp, Ck.emp] := hH
        exact hK205 _ _ ⟨kf, Nat.lt_succ_self kf, x242, u240.1, IntKind.i64.wrap (x164 + 1), H, rfl, hH.sel [0] (by decide), hl242⟩
      · replace H := iteF hb208 H
        refine HT_false (congrArg Value.bool hb208) ?_
        refine HT_exit ?_
        exact hK4 _ _ ⟨x163, x162, H, rfl, hH, hl162⟩
  · rintro l' s243 ⟨x123, x124, H, hl, hH, hl124⟩
    generalize getL l' 5 = j5, getL l' 6 = j6, getL l' 7 = j7, getL l' 8 = j8, getL l' 9 = j9, getL l' 10 = j10, getL l' 11 = j11, getL l' 12 = j12, getL l' 13 = j13, getL l' 14 = j14, getL l' 15 = j15, getL l' 16 = j16, getL l' 17 = j17, getL l' 18 = j18, getL l' 19 = j19, getL l' 20 = j20, getL l' 21 = j21, getL l' 22 = j22, getL l' 23 = j23, getL l' 24 = j24, getL l' 25 = j25, getL l' 26 = j26, getL l' 27 = j27, getL l' 28 = j28, getL l' 29 = j29, getL l' 30 = j30, getL l' 31 = j31, getL l' 32 = j32, getL l' 33 = j33, getL l' 34 = j34, getL l' 35 = j35, getL l' 36 = j36, getL l' 37 = j37, getL l' 38 = j38, getL l' 39 = j39, getL l' 40 = j40, getL l' 41 = j41, getL l' 42 = j42, getL l' 43 = j43, getL l' 44 = j44, getL l' 45 = j45, getL l' 46 = j46 at hl
    subst hl
    replace H := hG4 _ H
    try dsimp only at H
    refine hK2 _ _ ?_
    refine HT_seq_k ?_
    intro K244 hK244
    refine HT_region ?_
    refine HL_cons rfl ?_
    refine o_move ?_
    try dsimp only [putL, setL, evL, getL]
    refine HL_cons rfl ?_
    refine o_assign ?_
    try dsimp only [putL, setL, evL, getL]
    refine HL_nil ?_
    refine hK244 _ _ ?_
    refine HT_ret ?_
    obtain rfl := Option.some.inj (show some _ = some r from H)
    exact hQr _ _ [.int .i64 x123] ⟨rfl, trivial⟩ ⟨rfl, hH, hl124⟩
def laws_heldIntS.l1 (p0 : List (Int)) : Nat → Int → Int → Option (Lo Int Int)
  | 0, _, _ => none
  | kf + 1, x47, x48 => if (decide (x48 < (p0.length : Int))) = true then ((rd? p0 x48).bind fun u67 => if (u67 != x47) = true then ((some (-1)).bind fun z => some (Lo.ret z)) else (laws_heldIntS.l1 p0 kf (IntKind.i64.wrap (x47 + 1)) (IntKind.i64.wrap (x48 + 1)))) else (some (Lo.go x47))
def laws_heldIntS.f (p0 : List (Int)) (p1 : Int) : Option Int := (laws_heldIntS.l1 p0 ((((p0.length : Int)) - (0)).toNat + 2) p1 0).bind fun (o : Lo Int Int) => match o with | .go x37 => (some x37) | .ret z => some z
def laws_heldIntS.post (sb s : St) (F0 : Fp) (r : Int) : Value → St → Prop := fun v s' => v = .int .i64 r ∧ Hp sb s F0 s' []
set_option maxRecDepth 100000 in
set_option maxHeartbeats 4000000 in
theorem laws_heldIntS.ok (sb s : St) (F0 : Fp) (A0p : Option Addr) (c0p : Nat) (p0 : List (Int)) (p1 : Int) (HRp0 : Rd KI sb A0p c0p p0) (hH : Hp sb s F0 s []) (r : Int) (H : laws_heldIntS.f p0 p1 = some r) : GCall Try.prog 20 #[.slice A0p p0.length c0p, .int .i64 p1] s (laws_heldIntS.post sb s F0 r) := by
  refine GCall_ofk [.tmp 4] [.slice A0p p0.length c0p, .int .i64 p1, undef, undef, undef, undef, undef, undef, undef, undef, undef, undef, undef, undef, undef, undef, undef, undef, undef, undef, undef] Try.func20 rfl rfl rfl ?_
  intro w Q hQr hQn hQp
  replace H := topE H
  unfold laws_heldIntS.f at H
  refine HT_seq_k ?_
  intro K1 hK1
  refine HT_region ?_
  refine HL_cons rfl ?_
  refine o_assign ?_
  try dsimp only [putL, setL, evL, getL]
  refine HL_nil ?_
  refine hK1 _ _ ?_
  refine HT_seq_k ?_
  intro K2 hK2
  refine HT_seq_k ?_
  intro K3 hK3
  refine HT_region ?_
  refine HL_cons rfl ?_
  refine o_assign ?_
  try dsimp only [putL, setL, evL, getL]
  refine HL_nil ?_
  refine hK3 _ _ ?_
  refine joinH H fun G4 hG4 H => ?_
  refine HT_toK (fun l' s' => ∃ (x37 : Int), G4 (.go x37) = some r ∧ l' = [.slice A0p p0.length c0p, .int .i64 x37, undef, undef, getL l' 4, getL l' 5, getL l' 6, getL l' 7, getL l' 8, getL l' 9, getL l' 10, getL l' 11, getL l' 12, getL l' 13, getL l' 14, getL l' 15, getL l' 16, getL l' 17, getL l' 18, getL l' 19, undef] ∧ Hp sb s F0 s' []) ?_ ?_
  · intro K4 hK4
    refine HT_block ?_
    refine HT_loopK (fun kf l' s' => ∃ (x47 : Int) (x48 : Int), (laws_heldIntS.l1 p0 kf x47 x48).bind G4 = some r ∧ l' = [.slice A0p p0.length c0p, .int .i64 x47, undef, undef, getL l' 4, .int .i64 x48, getL l' 6, getL l' 7, getL l' 8, getL l' 9, getL l' 10, getL l' 11, getL l' 12, getL l' 13, getL l' 14, getL l' 15, getL l' 16, getL l' 17, getL l' 18, getL l' 19, undef] ∧ Hp sb s F0 s' []) ((((p0.length : Int)) - (0)).toNat + 2) ⟨p1, 0, H, rfl, hH⟩ ?_
    rintro kf l' s60 ⟨x47, x48, H, hl, hH⟩ K60 hK60
    generalize getL l' 4 = j4, getL l' 6 = j6, getL l' 7 = j7, getL l' 8 = j8, getL l' 9 = j9, getL l' 10 = j10, getL l' 11 = j11, getL l' 12 = j12, getL l' 13 = j13, getL l' 14 = j14, getL l' 15 = j15, getL l' 16 = j16, getL l' 17 = j17, getL l' 18 = j18, getL l' 19 = j19 at hl
    subst hl
    cases kf with
    | zero => simp [laws_heldIntS.l1] at H
    | succ kf =>
      rw [laws_heldIntS.l1] at H
      refine HT_seq_k ?_
      intro K61 hK61
      refine HT_seq_k ?_
      intro K62 hK62
      refine HT_region ?_
      refine HL_cons rfl ?_
      refine o_move ?_
      try dsimp only [putL, setL, evL, getL]
      refine HL_cons rfl ?_
      refine o_move ?_
      try dsimp only [putL, setL, evL, getL]
      refine HL_cons rfl ?_
      refine o_len rfl Try.underlying22 ?_
      try dsimp only [putL, setL, evL, getL]
      refine HL_cons rfl ?_
      refine o_bin rfl rfl rfl ?_
      try dsimp only [putL, setL, evL, getL]
      refine HL_nil ?_
      refine hK62 _ _ ?_
      rcases Bool.eq_false_or_eq_true (decide (x48 < (p0.length : Int))) with hb63 | hb63
      · replace H := iteT hb63 H
        refine HT_true (congrArg Value.bool hb63) ?_
        refine HT_skip ?_
        refine hK61 _ _ ?_
        refine HT_seq_k ?_
        intro K64 hK64
        refine HT_block ?_
        refine HT_seq_k ?_
        intro K65 hK65
        refine HT_seq_k ?_
        intro K66 hK66
        refine HT_region ?_
        refine HL_cons rfl ?_
        refine o_move ?_
        try dsimp only [putL, setL, evL, getL]
        refine HL_cons rfl ?_
        refine o_move ?_
        try dsimp only [putL, setL, evL, getL]
        obtain ⟨u67, hu67, H⟩ := headE H
        obtain ⟨b67, o67, cs67, hr67, hh67, hel67⟩ := Rd.elb HRp0 hu67
        obtain rfl := hr67
        refine HL_cons rfl ?_
        refine hel67 s60 rfl rfl Try.underlying22 tI3 ?_
        try dsimp only [putL, setL, evL, getL]
        refine HL_cons rfl ?_
        refine o_load' rfl Try.underlying3 rfl ((hh67 hH.bs.mono) 0 _ rfl) ?_
        try dsimp only [putL, setL, evL, getL]
        refine HL_cons rfl ?_
        refine o_move ?_
        try dsimp only [putL, setL, evL, getL]
        refine HL_cons rfl ?_
        refine o_bin rfl rfl rfl ?_
        try dsimp only [putL, setL, evL, getL]
        refine HL_nil ?_
        refine hK66 _ _ ?_
        rcases Bool.eq_false_or_eq_true (u67 != x47) with hb68 | hb68
        · replace H := iteT hb68 H
          refine HT_true (congrArg Value.bool hb68) ?_
          refine HT_seq_k ?_
          intro K69 hK69
          refine HT_region ?_
          refine HL_cons rfl ?_
          refine o_assign ?_
          try dsimp only [putL, setL, evL, getL]
          refine HL_nil ?_
          refine hK69 _ _ ?_
          refine HT_ret ?_
          replace H := escH (fun z hz => hG4 _ hz) H
          obtain rfl := Option.some.inj (show some _ = some r from H)
          exact hQr _ _ [.int .i64 (-1)] ⟨rfl, trivial⟩ ⟨rfl, hH⟩
        · replace H := iteF hb68 H
          refine HT_false (congrArg Value.bool hb68) ?_
          refine HT_skip ?_
          refine hK65 _ _ ?_
          refine HT_region ?_
          refine HL_cons rfl ?_
          refine o_move ?_
          try dsimp only [putL, setL, evL, getL]
          refine HL_cons rfl ?_
          refine o_bin rfl rfl rfl ?_
          try dsimp only [putL, setL, evL, getL]
          refine HL_cons rfl ?_
          refine o_assign ?_
          try dsimp only [putL, setL, evL, getL]
          refine HL_nil ?_
          refine hK64 _ _ ?_
          refine HT_region ?_
          refine HL_cons rfl ?_
          refine o_move ?_
          try dsimp only [putL, setL, evL, getL]
          refine HL_cons rfl ?_
          refine o_bin rfl rfl rfl ?_
          try dsimp only [putL, setL, evL, getL]
          refine HL_cons rfl ?_
          refine o_assign ?_
          try dsimp only [putL, setL, evL, getL]
          refine HL_nil ?_
          exact hK60 _ _ ⟨kf, Nat.lt_succ_self kf, IntKind.i64.wrap (x47 + 1), IntKind.i64.wrap (x48 + 1), H, rfl, hH⟩
      · replace H := iteF hb63 H
        refine HT_false (congrArg Value.bool hb63) ?_
        refine HT_exit ?_
        exact hK4 _ _ ⟨x47, H, rfl, hH⟩
  · rintro l' s70 ⟨x37, H, hl, hH⟩
    generalize getL l' 4 = j4, getL l' 5 = j5, getL l' 6 = j6, getL l' 7 = j7, getL l' 8 = j8, getL l' 9 = j9, getL l' 10 = j10, getL l' 11 = j11, getL l' 12 = j12, getL l' 13 = j13, getL l' 14 = j14, getL l' 15 = j15, getL l' 16 = j16, getL l' 17 = j17, getL l' 18 = j18, getL l' 19 = j19 at hl
    subst hl
    replace H := hG4 _ H
    try dsimp only at H
    refine hK2 _ _ ?_
    refine HT_seq_k ?_
    intro K71 hK71
    refine HT_region ?_
    refine HL_cons rfl ?_
    refine o_move ?_
    try dsimp only [putL, setL, evL, getL]
    refine HL_cons rfl ?_
    refine o_assign ?_
    try dsimp only [putL, setL, evL, getL]
    refine HL_nil ?_
    refine hK71 _ _ ?_
    refine HT_ret ?_
    obtain rfl := Option.some.inj (show some _ = some r from H)
    exact hQr _ _ [.int .i64 x37] ⟨rfl, trivial⟩ ⟨rfl, hH⟩
def laws_heldEventS.l1 (p0 : List ((Int) × (Int) × (Int) × (Int) × (List (Int)))) : Nat → Int → Int → Option (Lo Int Int)
  | 0, _, _ => none
  | kf + 1, x167, x168 => if (decide (x168 < (p0.length : Int))) = true then ((rd? p0 x168).bind fun u217 => if (u217.1 != x167) = true then ((some (-1)).bind fun z => some (Lo.ret z)) else ((rd? p0 x168).bind fun u224 => if (u224.2.1 != (IntKind.i64.wrap (x167 + 1))) = true then ((some (-1)).bind fun z => some (Lo.ret z)) else ((rd? p0 x168).bind fun u231 => if (u231.2.2.1 != (IntKind.i64.wrap ((IntKind.i64.wrap (x167 + 1)) + 1))) = true then ((some (-1)).bind fun z => some (Lo.ret z)) else ((rd? p0 x168).bind fun u238 => if (u238.2.2.2.1 != (IntKind.i64.wrap ((IntKind.i64.wrap ((IntKind.i64.wrap (x167 + 1)) + 1)) + 1))) = true then ((some (-1)).bind fun z => some (Lo.ret z)) else ((rd? p0 x168).bind fun u244 => (laws_heldIntS.f u244.2.2.2.2 (IntKind.i64.wrap ((IntKind.i64.wrap ((IntKind.i64.wrap ((IntKind.i64.wrap (x167 + 1)) + 1)) + 1)) + 1))).bind fun u246 => if (decide (u246 < 0)) = true then ((some (-1)).bind fun z => some (Lo.ret z)) else (laws_heldEventS.l1 p0 kf u246 (IntKind.i64.wrap (x168 + 1)))))))) else (some (Lo.go x167))
def laws_heldEventS.f (p0 : List ((Int) × (Int) × (Int) × (Int) × (List (Int)))) (p1 : Int) : Option Int := (laws_heldEventS.l1 p0 ((((p0.length : Int)) - (0)).toNat + 2) p1 0).bind fun (o : Lo Int Int) => match o with | .go x127 => (some x127) | .ret z => some z
def laws_heldEventS.post (sb s : St) (F0 : Fp) (r : Int) : Value → St → Prop := fun v s' => v = .int .i64 r ∧ Hp sb s F0 s' []
set_option maxRecDepth 100000 in
set_option maxHeartbeats 4000000 in
theorem laws_heldEventS.ok (sb s : St) (F0 : Fp) (A0p : Option Addr) (c0p : Nat) (p0 : List ((Int) × (Int) × (Int) × (Int) × (List (Int)))) (p1 : Int) (HRp0 : Rd KS137 sb A0p c0p p0) (hH : Hp sb s F0 s []) (r : Int) (H : laws_heldEventS.f p0 p1 = some r) : GCall Try.prog 64 #[.slice A0p p0.length c0p, .int .i64 p1] s (laws_heldEventS.post sb s F0 r) := by
  refine GCall_ofk [.tmp 4] [.slice A0p p0.length c0p, .int .i64 p1, undef, undef, undef, undef, undef, undef, undef, undef, undef, undef, undef, undef, undef, undef, undef, undef, undef, undef, undef, undef, undef, undef, undef, undef, undef, undef, undef, undef, undef, undef, undef, undef, undef, undef, undef, undef, undef, undef, undef, undef, undef, undef, undef, undef, undef, undef, undef, undef, undef, undef, undef, undef, undef, undef, undef, undef] Try.func64 rfl rfl rfl ?_
  intro w Q hQr hQn hQp
  replace H := topE H
  unfold laws_heldEventS.f at H
  refine HT_seq_k ?_
  intro K1 hK1
  refine HT_region ?_
  refine HL_cons rfl ?_
  refine o_assign ?_
  try dsimp only [putL, setL, evL, getL]
  refine HL_nil ?_
  refine hK1 _ _ ?_
  refine HT_seq_k ?_
  intro K2 hK2
  refine HT_seq_k ?_
  intro K3 hK3
  refine HT_region ?_
  refine HL_cons rfl ?_
  refine o_assign ?_
  try dsimp only [putL, setL, evL, getL]
  refine HL_nil ?_
  refine hK3 _ _ ?_
  refine joinH H fun G4 hG4 H => ?_
  refine HT_toK (fun l' s' => ∃ (x127 : Int), G4 (.go x127) = some r ∧ l' = [.slice A0p p0.length c0p, .int .i64 x127, undef, undef, getL l' 4, getL l' 5, getL l' 6, getL l' 7, getL l' 8, getL l' 9, getL l' 10, getL l' 11, getL l' 12, getL l' 13, getL l' 14, getL l' 15, getL l' 16, getL l' 17, getL l' 18, getL l' 19, getL l' 20, getL l' 21, getL l' 22, getL l' 23, getL l' 24, getL l' 25, getL l' 26, getL l' 27, getL l' 28, getL l' 29, getL l' 30, getL l' 31, getL l' 32, getL l' 33, getL l' 34, getL l' 35, getL l' 36, getL l' 37, getL l' 38, getL l' 39, getL l' 40, getL l' 41, getL l' 42, getL l' 43, getL l' 44, getL l' 45, getL l' 46, getL l' 47, getL l' 48, getL l' 49, getL l' 50, getL l' 51, getL l' 52, getL l' 53, getL l' 54, getL l' 55, getL l' 56, undef] ∧ Hp sb s F0 s' []) ?_ ?_
  · intro K4 hK4
    refine HT_block ?_
    refine HT_loopK (fun kf l' s' => ∃ (x167 : Int) (x168 : Int), (laws_heldEventS.l1 p0 kf x167 x168).bind G4 = some r ∧ l' = [.slice A0p p0.length c0p, .int .i64 x167, undef, undef, getL l' 4, .int .i64 x168, getL l' 6, getL l' 7, getL l' 8, getL l' 9, getL l' 10, getL l' 11, getL l' 12, getL l' 13, getL l' 14, getL l' 15, getL l' 16, getL l' 17, getL l' 18, getL l' 19, getL l' 20, getL l' 21, getL l' 22, getL l' 23, getL l' 24, getL l' 25, getL l' 26, getL l' 27, getL l' 28, getL l' 29, getL l' 30, getL l' 31, getL l' 32, getL l' 33, getL l' 34, getL l' 35, getL l' 36, getL l' 37, getL l' 38, getL l' 39, getL l' 40, getL l' 41, getL l' 42, getL l' 43, getL l' 44, getL l' 45, getL l' 46, getL l' 47, getL l' 48, getL l' 49, getL l' 50, getL l' 51, getL l' 52, getL l' 53, getL l' 54, getL l' 55, getL l' 56, undef] ∧ Hp sb s F0 s' []) ((((p0.length : Int)) - (0)).toNat + 2) ⟨p1, 0, H, rfl, hH⟩ ?_
    rintro kf l' s210 ⟨x167, x168, H, hl, hH⟩ K210 hK210
    generalize getL l' 4 = j4, getL l' 6 = j6, getL l' 7 = j7, getL l' 8 = j8, getL l' 9 = j9, getL l' 10 = j10, getL l' 11 = j11, getL l' 12 = j12, getL l' 13 = j13, getL l' 14 = j14, getL l' 15 = j15, getL l' 16 = j16, getL l' 17 = j17, getL l' 18 = j18, getL l' 19 = j19, getL l' 20 = j20, getL l' 21 = j21, getL l' 22 = j22, getL l' 23 = j23, getL l' 24 = j24, getL l' 25 = j25, getL l' 26 = j26, getL l' 27 = j27, getL l' 28 = j28, getL l' 29 = j29, getL l' 30 = j30, getL l' 31 = j31, getL l' 32 = j32, getL l' 33 = j33, getL l' 34 = j34, getL l' 35 = j35, getL l' 36 = j36, getL l' 37 = j37, getL l' 38 = j38, getL l' 39 = j39, getL l' 40 = j40, getL l' 41 = j41, getL l' 42 = j42, getL l' 43 = j43, getL l' 44 = j44, getL l' 45 = j45, getL l' 46 = j46, getL l' 47 = j47, getL l' 48 = j48, getL l' 49 = j49, getL l' 50 = j50, getL l' 51 = j51, getL l' 52 = j52, getL l' 53 = j53, getL l' 54 = j54, getL l' 55 = j55, getL l' 56 = j56 at hl
    subst hl
    cases kf with
    | zero => simp [laws_heldEventS.l1] at H
    | succ kf =>
      rw [laws_heldEventS.l1] at H
      refine HT_seq_k ?_
      intro K211 hK211
      refine HT_seq_k ?_
      intro K212 hK212
      refine HT_region ?_
      refine HL_cons rfl ?_
      refine o_move ?_
      try dsimp only [putL, setL, evL, getL]
      refine HL_cons rfl ?_
      refine o_move ?_
      try dsimp only [putL, setL, evL, getL]
      refine HL_cons rfl ?_
      refine o_len rfl Try.underlying74 ?_
      try dsimp only [putL, setL, evL, getL]
      refine HL_cons rfl ?_
      refine o_bin rfl rfl rfl ?_
      try dsimp only [putL, setL, evL, getL]
      refine HL_nil ?_
      refine hK212 _ _ ?_
      rcases Bool.eq_false_or_eq_true (decide (x168 < (p0.length : Int))) with hb213 | hb213
      · replace H := iteT hb213 H
        refine HT_true (congrArg Value.bool hb213) ?_
        refine HT_skip ?_
        refine hK211 _ _ ?_
        refine HT_seq_k ?_
        intro K214 hK214
        refine HT_block ?_
        refine HT_seq_k ?_
        intro K215 hK215
        refine HT_seq_k ?_
        intro K216 hK216
        refine HT_region ?_
        refine HL_cons rfl ?_
        refine o_move ?_
        try dsimp only [putL, setL, evL, getL]
        refine HL_cons rfl ?_
        refine o_move ?_
        try dsimp only [putL, setL, evL, getL]
        obtain ⟨u217, hu217, H⟩ := headE H
        obtain ⟨b217, o217, cs217, hr217, hh217, hel217⟩ := Rd.elb HRp0 hu217
        obtain ⟨_, _, rfl, rfl, ⟨_, _, rfl, rfl, ⟨_, _, rfl, rfl, ⟨_, _, rfl, rfl, ⟨A218, c218, rfl, D218⟩⟩⟩⟩⟩ := hr217
        refine HL_cons rfl ?_
        refine hel217 s210 rfl rfl Try.underlying74 tI137 ?_
        try dsimp only [putL, setL, evL, getL]
        refine HL_cons rfl ?_
        refine o_faddr' (ft := 3) (off := 0) rfl Try.underlying137 rfl tI3 (by decide) ?_
        try dsimp only [putL, setL, evL, getL]
        refine HL_cons rfl ?_
        refine o_load' rfl Try.underlying3 rfl ((hh217 hH.bs.mono) 0 _ rfl) ?_
        try dsimp only [putL, setL, evL, getL]
        refine HL_cons rfl ?_
        refine o_move ?_
        try dsimp only [putL, setL, evL, getL]
        refine HL_cons rfl ?_
        refine o_bin rfl rfl rfl ?_
        try dsimp only [putL, setL, evL, getL]
        refine HL_nil ?_
        refine hK216 _ _ ?_
        rcases Bool.eq_false_or_eq_true (u217.1 != x167) with hb219 | hb219
        · replace H := iteT hb219 H
          refine HT_true (congrArg Value.bool hb219) ?_
          refine HT_seq_k ?_
          intro K220 hK220
          refine HT_region ?_
          refine HL_cons rfl ?_
          refine o_assign ?_
          try dsimp only [putL, setL, evL, getL]
          refine HL_nil ?_
          refine hK220 _ _ ?_
          refine HT_ret ?_
          replace H := escH (fun z hz => hG4 _ hz) H
          obtain rfl := Option.some.inj (show some _ = some r from H)
          exact hQr _ _ [.int .i64 (-1)] ⟨rfl, trivial⟩ ⟨rfl, hH⟩
        · replace H := iteF hb219 H
          refine HT_false (congrArg Value.bool hb219) ?_
          refine HT_skip ?_
          refine hK215 _ _ ?_
          refine HT_seq_k ?_
          intro K221 hK221
          refine HT_region ?_
          refine HL_cons rfl ?_
          refine o_move ?_
          try dsimp only [putL, setL, evL, getL]
          refine HL_cons rfl ?_
          refine o_bin rfl rfl rfl ?_
          try dsimp only [putL, setL, evL, getL]
          refine HL_cons rfl ?_
          refine o_assign ?_
          try dsimp only [putL, setL, evL, getL]
          refine HL_nil ?_
          refine hK221 _ _ ?_
          refine HT_seq_k ?_
          intro K222 hK222
          refine HT_seq_k ?_
          intro K223 hK223
          refine HT_region ?_
          refine HL_cons rfl ?_
          refine o_move ?_
          try dsimp only [putL, setL, evL, getL]
          refine HL_cons rfl ?_
          refine o_move ?_
          try dsimp only [putL, setL, evL, getL]
          obtain ⟨u224, hu224, H⟩ := headE H
          obtain ⟨b224, o224, cs224, hr224, hh224, hel224⟩ := Rd.elb HRp0 hu224
          obtain ⟨_, _, rfl, rfl, ⟨_, _, rfl, rfl, ⟨_, _, rfl, rfl, ⟨_, _, rfl, rfl, ⟨A225, c225, rfl, D225⟩⟩⟩⟩⟩ := hr224
          refine HL_cons rfl ?_
          refine hel224 s210 rfl rfl Try.underlying74 tI137 ?_
          try dsimp only [putL, setL, evL, getL]
          refine HL_cons rfl ?_
          refine o_faddr' (ft := 3) (off := 1) rfl Try.underlying137 rfl tI3 (by decide) ?_
          try dsimp only [putL, setL, evL, getL]
          refine HL_cons rfl ?_
          refine o_load' rfl Try.underlying3 rfl ((hh224 hH.bs.mono) 1 _ rfl) ?_
          try dsimp only [putL, setL, evL, getL]
          refine HL_cons rfl ?_
          refine o_move ?_
          try dsimp only [putL, setL, evL, getL]
          refine HL_cons rfl ?_
          refine o_bin rfl rfl rfl ?_
          try dsimp only [putL, setL, evL, getL]
          refine HL_nil ?_
          refine hK223 _ _ ?_
          rcases Bool.eq_false_or_eq_true (u224.2.1 != (IntKind.i64.wrap (x167 + 1))) with hb226 | hb226
          · replace H := iteT hb226 H
            refine HT_true (congrArg Value.bool hb226) ?_
            refine HT_seq_k ?_
            intro K227 hK227
            refine HT_region ?_
            refine HL_cons rfl ?_
            refine o_assign ?_
            try dsimp only [putL, setL, evL, getL]
            refine HL_nil ?_
            refine hK227 _ _ ?_
            refine HT_ret ?_
            replace H := escH (fun z hz => hG4 _ hz) H
            obtain rfl := Option.some.inj (show some _ = some r from H)
            exact hQr _ _ [.int .i64 (-1)] ⟨rfl, trivial⟩ ⟨rfl, hH⟩
          · replace H := iteF hb226 H
            refine HT_false (congrArg Value.bool hb226) ?_
            refine HT_skip ?_
            refine hK222 _ _ ?_
            refine HT_seq_k ?_
            intro K228 hK228
            refine HT_region ?_
            refine HL_cons rfl ?_
            refine o_move ?_
            try dsimp only [putL, setL, evL, getL]
            refine HL_cons rfl ?_
            refine o_bin rfl rfl rfl ?_
            try dsimp only [putL, setL, evL, getL]
            refine HL_cons rfl ?_
            refine o_assign ?_
            try dsimp only [putL, setL, evL, getL]
            refine HL_nil ?_
            refine hK228 _ _ ?_
            refine HT_seq_k ?_
            intro K229 hK229
            refine HT_seq_k ?_
            intro K230 hK230
            refine HT_region ?_
            refine HL_cons rfl ?_
            refine o_move ?_
            try dsimp only [putL, setL, evL, getL]
            refine HL_cons rfl ?_
            refine o_move ?_
            try dsimp only [putL, setL, evL, getL]
            obtain ⟨u231, hu231, H⟩ := headE H
            obtain ⟨b231, o231, cs231, hr231, hh231, hel231⟩ := Rd.elb HRp0 hu231
            obtain ⟨_, _, rfl, rfl, ⟨_, _, rfl, rfl, ⟨_, _, rfl, rfl, ⟨_, _, rfl, rfl, ⟨A232, c232, rfl, D232⟩⟩⟩⟩⟩ := hr231
            refine HL_cons rfl ?_
            refine hel231 s210 rfl rfl Try.underlying74 tI137 ?_
            try dsimp only [putL, setL, evL, getL]
            refine HL_cons rfl ?_
            refine o_faddr' (ft := 3) (off := 2) rfl Try.underlying137 rfl tI3 (by decide) ?_
            try dsimp only [putL, setL, evL, getL]
            refine HL_cons rfl ?_
            refine o_load' rfl Try.underlying3 rfl ((hh231 hH.bs.mono) 2 _ rfl) ?_
            try dsimp only [putL, setL, evL, getL]
            refine HL_cons rfl ?_
            refine o_move ?_
            try dsimp only [putL, setL, evL, getL]
            refine HL_cons rfl ?_
            refine o_bin rfl rfl rfl ?_
            try dsimp only [putL, setL, evL, getL]
            refine HL_nil ?_
            refine hK230 _ _ ?_
            rcases Bool.eq_false_or_eq_true (u231.2.2.1 != (IntKind.i64.wrap ((IntKind.i64.wrap (x167 + 1)) + 1))) with hb233 | hb233
            · replace H := iteT hb233 H
              refine HT_true (congrArg Value.bool hb233) ?_
              refine HT_seq_k ?_
              intro K234 hK234
              refine HT_region ?_
              refine HL_cons rfl ?_
              refine o_assign ?_
              try dsimp only [putL, setL, evL, getL]
              refine HL_nil ?_
              refine hK234 _ _ ?_
              refine HT_ret ?_
              replace H := escH (fun z hz => hG4 _ hz) H
              obtain rfl := Option.some.inj (show some _ = some r from H)
              exact hQr _ _ [.int .i64 (-1)] ⟨rfl, trivial⟩ ⟨rfl, hH⟩
            · replace H := iteF hb233 H
              refine HT_false (congrArg Value.bool hb233) ?_
              refine HT_skip ?_
              refine hK229 _ _ ?_
              refine HT_seq_k ?_
              intro K235 hK235
              refine HT_region ?_
              refine HL_cons rfl ?_
              refine o_move ?_
              try dsimp only [putL, setL, evL, getL]
              refine HL_cons rfl ?_
              refine o_bin rfl rfl rfl ?_
              try dsimp only [putL, setL, evL, getL]
              refine HL_cons rfl ?_
              refine o_assign ?_
              try dsimp only [putL, setL, evL, getL]
              refine HL_nil ?_
              refine hK235 _ _ ?_
              refine HT_seq_k ?_
              intro K236 hK236
              refine HT_seq_k ?_
              intro K237 hK237
              refine HT_region ?_
              refine HL_cons rfl ?_
              refine o_move ?_
              try dsimp only [putL, setL, evL, getL]
              refine HL_cons rfl ?_
              refine o_move ?_
              try dsimp only [putL, setL, evL, getL]
              obtain ⟨u238, hu238, H⟩ := headE H
              obtain ⟨b238, o238, cs238, hr238, hh238, hel238⟩ := Rd.elb HRp0 hu238
              obtain ⟨_, _, rfl, rfl, ⟨_, _, rfl, rfl, ⟨_, _, rfl, rfl, ⟨_, _, rfl, rfl, ⟨A239, c239, rfl, D239⟩⟩⟩⟩⟩ := hr238
              refine HL_cons rfl ?_
              refine hel238 s210 rfl rfl Try.underlying74 tI137 ?_
              try dsimp only [putL, setL, evL, getL]
              refine HL_cons rfl ?_
              refine o_faddr' (ft := 3) (off := 3) rfl Try.underlying137 rfl tI3 (by decide) ?_
              try dsimp only [putL, setL, evL, getL]
              refine HL_cons rfl ?_
              refine o_load' rfl Try.underlying3 rfl ((hh238 hH.bs.mono) 3 _ rfl) ?_
              try dsimp only [putL, setL, evL, getL]
              refine HL_cons rfl ?_
              refine o_move ?_
              try dsimp only [putL, setL, evL, getL]
              refine HL_cons rfl ?_
              refine o_bin rfl rfl rfl ?_
              try dsimp only [putL, setL, evL, getL]
              refine HL_nil ?_
              refine hK237 _ _ ?_
              rcases Bool.eq_false_or_eq_true (u238.2.2.2.1 != (IntKind.i64.wrap ((IntKind.i64.wrap ((IntKind.i64.wrap (x167 + 1)) + 1)) + 1))) with hb240 | hb240
              · replace H := iteT hb240 H
                refine HT_true (congrArg Value.bool hb240) ?_
                refine HT_seq_k ?_
                intro K241 hK241
                refine HT_region ?_
                refine HL_cons rfl ?_
                refine o_assign ?_
                try dsimp only [putL, setL, evL, getL]
                refine HL_nil ?_
                refine hK241 _ _ ?_
                refine HT_ret ?_
                replace H := escH (fun z hz => hG4 _ hz) H
                obtain rfl := Option.some.inj (show some _ = some r from H)
                exact hQr _ _ [.int .i64 (-1)] ⟨rfl, trivial⟩ ⟨rfl, hH⟩
              · replace H := iteF hb240 H
                refine HT_false (congrArg Value.bool hb240) ?_
                refine HT_skip ?_
                refine hK236 _ _ ?_
                refine HT_seq_k ?_
                intro K242 hK242
                refine HT_region ?_
                refine HL_cons rfl ?_
                refine o_move ?_
                try dsimp only [putL, setL, evL, getL]
                refine HL_cons rfl ?_
                refine o_bin rfl rfl rfl ?_
                try dsimp only [putL, setL, evL, getL]
                refine HL_cons rfl ?_
                refine o_assign ?_
                try dsimp only [putL, setL, evL, getL]
                refine HL_nil ?_
                refine hK242 _ _ ?_
                refine HT_seq_k ?_
                intro K243 hK243
                refine HT_region ?_
                refine HL_cons rfl ?_
                refine o_move ?_
                try dsimp only [putL, setL, evL, getL]
                refine HL_cons rfl ?_
                refine o_move ?_
                try dsimp only [putL, setL, evL, getL]
                obtain ⟨u244, hu244, H⟩ := headE H
                obtain ⟨b244, o244, cs244, hr244, hh244, hel244⟩ := Rd.elb HRp0 hu244
                obtain ⟨_, _, rfl, rfl, ⟨_, _, rfl, rfl, ⟨_, _, rfl, rfl, ⟨_, _, rfl, rfl, ⟨A245, c245, rfl, D245⟩⟩⟩⟩⟩ := hr244
                refine HL_cons rfl ?_
                refine hel244 s210 rfl rfl Try.underlying74 tI137 ?_
                try dsimp only [putL, setL, evL, getL]
                refine HL_cons rfl ?_
                refine o_faddr' (ft := 22) (off := 4) rfl Try.underlying137 rfl tI22 (by decide) ?_
                try dsimp only [putL, setL, evL, getL]
                refine HL_cons rfl ?_
                refine o_load' rfl Try.underlying22 rfl ((hh244 hH.bs.mono) 4 _ rfl) ?_
                try dsimp only [putL, setL, evL, getL]
                refine HL_cons rfl ?_
                refine o_move ?_
                try dsimp only [putL, setL, evL, getL]
                obtain ⟨u246, hu246, H⟩ := headE H
                refine HL_cons rfl ?_
                refine o_call (args := #[.slice A245 u244.2.2.2.2.length c245, .int .i64 (IntKind.i64.wrap ((IntKind.i64.wrap ((IntKind.i64.wrap ((IntKind.i64.wrap (x167 + 1)) + 1)) + 1)) + 1))]) Try.func20 rfl rfl rfl (laws_heldIntS.ok sb s210 no A245 c245 u244.2.2.2.2 (IntKind.i64.wrap ((IntKind.i64.wrap ((IntKind.i64.wrap ((IntKind.i64.wrap (x167 + 1)) + 1)) + 1)) + 1)) D245 (Hp.own hH.bs) _ hu246) ?_
                rintro _ s246 ⟨rfl, hD⟩
                replace hH := hH.back0 hD (Up.refl _ _ _)
                clear hD
                dsimp only [addC, setC, rmC, selC, getC] at hH
                try dsimp only [putL, setL, evL, getL]
                refine HL_cons rfl ?_
                refine o_assign ?_
                try dsimp only [putL, setL, evL, getL]
                refine HL_nil ?_
                refine hK243 _ _ ?_
                refine HT_seq_k ?_
                intro K247 hK247
                refine HT_region ?_
                refine HL_cons rfl ?_
                refine o_move ?_
                try dsimp only [putL, setL, evL, getL]
                refine HL_cons rfl ?_
                refine o_bin rfl rfl rfl ?_
                try dsimp only [putL, setL, evL, getL]
                refine HL_nil ?_
                refine hK247 _ _ ?_
                rcases Bool.eq_false_or_eq_true (decide (u246 < 0)) with hb248 | hb248
                · replace H := iteT hb248 H
                  refine HT_true (congrArg Value.bool hb248) ?_
                  refine HT_seq_k ?_
                  intro K249 hK249
                  refine HT_region ?_
                  refine HL_cons rfl ?_
                  refine o_assign ?_
                  try dsimp only [putL, setL, evL, getL]
                  refine HL_nil ?_
                  refine hK249 _ _ ?_
                  refine HT_ret ?_
                  replace H := escH (fun z hz => hG4 _ hz) H
                  obtain rfl := Option.some.inj (show some _ = some r from H)
                  exact hQr _ _ [.int .i64 (-1)] ⟨rfl, trivial⟩ ⟨rfl, hH⟩
                · replace H := iteF hb248 H
                  refine HT_false (congrArg Value.bool hb248) ?_
                  refine HT_skip ?_
                  refine hK214 _ _ ?_
                  refine HT_region ?_
                  refine HL_cons rfl ?_
                  refine o_move ?_
                  try dsimp only [putL, setL, evL, getL]
                  refine HL_cons rfl ?_
                  refine o_bin rfl rfl rfl ?_
                  try dsimp only [putL, setL, evL, getL]
                  refine HL_cons rfl ?_
                  refine o_assign ?_
                  try dsimp only [putL, setL, evL, getL]
                  refine HL_nil ?_
                  exact hK210 _ _ ⟨kf, Nat.lt_succ_self kf, u246, IntKind.i64.wrap (x168 + 1), H, rfl, hH⟩
      · replace H := iteF hb213 H
        refine HT_false (congrArg Value.bool hb213) ?_
        refine HT_exit ?_
        exact hK4 _ _ ⟨x167, H, rfl, hH⟩
  · rintro l' s250 ⟨x127, H, hl, hH⟩
    generalize getL l' 4 = j4, getL l' 5 = j5, getL l' 6 = j6, getL l' 7 = j7, getL l' 8 = j8, getL l' 9 = j9, getL l' 10 = j10, getL l' 11 = j11, getL l' 12 = j12, getL l' 13 = j13, getL l' 14 = j14, getL l' 15 = j15, getL l' 16 = j16, getL l' 17 = j17, getL l' 18 = j18, getL l' 19 = j19, getL l' 20 = j20, getL l' 21 = j21, getL l' 22 = j22, getL l' 23 = j23, getL l' 24 = j24, getL l' 25 = j25, getL l' 26 = j26, getL l' 27 = j27, getL l' 28 = j28, getL l' 29 = j29, getL l' 30 = j30, getL l' 31 = j31, getL l' 32 = j32, getL l' 33 = j33, getL l' 34 = j34, getL l' 35 = j35, getL l' 36 = j36, getL l' 37 = j37, getL l' 38 = j38, getL l' 39 = j39, getL l' 40 = j40, getL l' 41 = j41, getL l' 42 = j42, getL l' 43 = j43, getL l' 44 = j44, getL l' 45 = j45, getL l' 46 = j46, getL l' 47 = j47, getL l' 48 = j48, getL l' 49 = j49, getL l' 50 = j50, getL l' 51 = j51, getL l' 52 = j52, getL l' 53 = j53, getL l' 54 = j54, getL l' 55 = j55, getL l' 56 = j56 at hl
    subst hl
    replace H := hG4 _ H
    try dsimp only at H
    refine hK2 _ _ ?_
    refine HT_seq_k ?_
    intro K251 hK251
    refine HT_region ?_
    refine HL_cons rfl ?_
    refine o_move ?_
    try dsimp only [putL, setL, evL, getL]
    refine HL_cons rfl ?_
    refine o_assign ?_
    try dsimp only [putL, setL, evL, getL]
    refine HL_nil ?_
    refine hK251 _ _ ?_
    refine HT_ret ?_
    obtain rfl := Option.some.inj (show some _ = some r from H)
    exact hQr _ _ [.int .i64 x127] ⟨rfl, trivial⟩ ⟨rfl, hH⟩
def laws_FnExactLogOf.f (p0 : List ((Int) × ((Int) × (Int) × (Int) × (Int) × (List (Int))))) (p1 : Int) : Option Bool := (laws_szSaidS.f p0 1048576).bind fun u4 => if (decide (u4 < 0)) = true then (some true) else ((laws_toSaidS.f p0).bind fun u10 => (spec_LogOf.f u10 p1).bind fun u12 => (laws_toSaidS.f p0).bind fun u15 => (impl_LogOf.f u15 p1).bind fun u18 => ((laws_eqEventS.f u18.1 u12.1).bind fun u35 => if (!u35) = true then (some true) else (some (u18.2 != u12.2))).bind fun (o : Bool) => match o with | x34 => (if x34 = true then (some false) else ((laws_toSaidS.f p0).bind fun u42 => (laws_eqSaidS.f u15 u42).bind fun u44 => if (!u44) = true then (some false) else ((laws_markSaidS.f u15 1).bind fun u49 => (if (decide (u49.1 < 0)) = true then (some true) else ((laws_eqEventS.f u18.1 u12.1).bind fun u70 => if (!u70) = true then (some true) else (some (u18.2 != u12.2)))).bind fun (o : Bool) => match o with | x68 => (if x68 = true then (some false) else ((laws_markEventS.f u18.1 1).bind fun u77 => (laws_heldEventS.f u77.2 1).bind fun u81 => if (decide (u81 < 0)) = true then (some false) else (if (u81 != u77.1) = true then (some false) else ((laws_toSaidS.f p0).bind fun u91 => (impl_LogOf.f u91 p1).bind fun u93 => ((laws_eqEventS.f u93.1 u12.1).bind fun u110 => if (!u110) = true then (some true) else (some (u93.2 != u12.2))).bind fun (o : Bool) => match o with | x109 => (if x109 = true then (some false) else ((laws_heldEventS.f u77.2 1).bind fun u117 => if (decide (u117 < 0)) = true then (some false) else (if (u117 != u77.1) = true then (some false) else (some true))))))))))))
def laws_FnExactLogOf.post (sb s : St) (F0 : Fp) (r : Bool) : Value → St → Prop := fun v s' => v = .bool r ∧ Hp sb s F0 s' []
set_option maxRecDepth 100000 in
set_option maxHeartbeats 4000000 in
theorem laws_FnExactLogOf.ok (sb s : St) (F0 : Fp) (A0p : Option Addr) (c0p : Nat) (p0 : List ((Int) × ((Int) × (Int) × (Int) × (Int) × (List (Int))))) (p1 : Int) (HRp0 : Rd KS136 sb A0p c0p p0) (hH : Hp sb s F0 s []) (r : Bool) (H : laws_FnExactLogOf.f p0 p1 = some r) : GCall Try.prog 11 #[.slice A0p p0.length c0p, .int .i64 p1] s (laws_FnExactLogOf.post sb s F0 r) := by
  refine GCall_ofk [.tmp 4] [.slice A0p p0.length c0p, .int .i64 p1, undef, undef, undef, undef, undef, undef, undef, undef, undef, undef, undef, undef, undef, undef, undef, undef, undef, undef, undef, undef, undef, undef, undef, undef, undef, undef, undef, undef, undef, undef, undef, undef, undef, undef, undef, undef, undef, undef, undef, undef, undef, undef, undef, undef, undef, undef, undef, undef, undef, undef, undef, undef, undef, undef, undef, undef, undef, undef, undef, undef, undef, undef, undef, undef, undef, undef, undef, undef, undef, undef, undef, undef, undef, undef, undef, undef, undef, undef, undef, undef, undef, undef, undef, undef, undef, undef, undef, undef, undef, undef, undef, undef, undef, undef, undef, undef, undef, undef, undef] Try.func11 rfl rfl rfl ?_
  intro w Q hQr hQn hQp
  replace H := topE H
  unfold laws_FnExactLogOf.f at H
  refine HT_seq_k ?_
  intro K1 hK1
  refine HT_region ?_
  refine HL_cons rfl ?_
  refine o_assign ?_
  try dsimp only [putL, setL, evL, getL]
  refine HL_nil ?_
  refine hK1 _ _ ?_
  refine HT_seq_k ?_
  intro K2 hK2
  refine HT_region ?_
  refine HL_cons rfl ?_
  refine o_assign ?_
  try dsimp only [putL, setL, evL, getL]
  refine HL_nil ?_
  refine hK2 _ _ ?_
  refine HT_seq_k ?_
  intro K3 hK3
  refine HT_region ?_
  refine HL_cons rfl ?_
  refine o_move ?_
  try dsimp only [putL, setL, evL, getL]
  refine HL_cons rfl ?_
  refine o_move ?_
  try dsimp only [putL, setL, evL, getL]
  obtain ⟨u4, hu4, H⟩ := headE H
  refine HL_cons rfl ?_
  refine o_call (args := #[.slice A0p p0.length c0p, .int .i64 1048576]) Try.func56 rfl rfl rfl (laws_szSaidS.ok sb s no A0p c0p p0 1048576 HRp0 (Hp.own hH.bs) _ hu4) ?_
  rintro _ s4 ⟨rfl, hD⟩
  replace hH := hH.back0 hD (Up.refl _ _ _)
  clear hD
  dsimp only [addC, setC, rmC, selC, getC] at hH
  try dsimp only [putL, setL, evL, getL]
  refine HL_cons rfl ?_
  refine o_assign ?_
  try dsimp only [putL, setL, evL, getL]
  refine HL_nil ?_
  refine hK3 _ _ ?_
  refine HT_seq_k ?_
  intro K5 hK5
  refine HT_seq_k ?_
  intro K6 hK6
  refine HT_region ?_
  refine HL_cons rfl ?_
  refine o_move ?_
  try dsimp only [putL, setL, evL, getL]
  refine HL_cons rfl ?_
  refine o_bin rfl rfl rfl ?_
  try dsimp only [putL, setL, evL, getL]
  refine HL_nil ?_
  refine hK6 _ _ ?_
  rcases Bool.eq_false_or_eq_true (decide (u4 < 0)) with hb7 | hb7
  · replace H := iteT hb7 H
    refine HT_true (congrArg Value.bool hb7) ?_
    refine HT_seq_k ?_
    intro K8 hK8
    refine HT_region ?_
    refine HL_cons rfl ?_
    refine o_assign ?_
    try dsimp only [putL, setL, evL, getL]
    refine HL_nil ?_
    refine hK8 _ _ ?_
    refine HT_ret ?_
    obtain rfl := Option.some.inj (show some _ = some r from H)
    exact hQr _ _ [.bool true] ⟨rfl, trivial⟩ ⟨rfl, hH⟩
  · replace H := iteF hb7 H
    refine HT_false (congrArg Value.bool hb7) ?_
    refine HT_skip ?_
    refine hK5 _ _ ?_
    refine HT_seq_k ?_
    intro K9 hK9
    refine HT_region ?_
    refine HL_cons rfl ?_
    refine o_move ?_
    try dsimp only [putL, setL, evL, getL]
    obtain ⟨u10, hu10, H⟩ := headE H
    refine HL_cons rfl ?_
    refine o_call (args := #[.slice A0p p0.length c0p]) Try.func58 rfl rfl rfl (laws_toSaidS.ok sb s4 no A0p c0p p0 HRp0 (Hp.own hH.bs) _ hu10) ?_
    rintro _ s10 ⟨A11, c11, rfl, hD⟩
    replace hH := hH.back0 hD (Up.refl _ _ _)
    clear hD
    dsimp only [addC, setC, rmC, selC, getC] at hH
    try dsimp only [putL, setL, evL, getL]
    refine HL_cons rfl ?_
    refine o_move ?_
    try dsimp only [putL, setL, evL, getL]
    obtain ⟨u12, hu12, H⟩ := headE H
    refine HL_cons rfl ?_
    refine o_call (args := #[.slice A11 u10.length c11, .int .i64 p1]) Try.func57 rfl rfl rfl (spec_LogOf.ok s10 s10 no A11 c11 u10 p1 (hH.rd 0 rfl) (Hp.own (Bs.refl s10)) _ hu12) ?_
    rintro _ s12 ⟨A13, c13, rfl, hD⟩
    replace hH := hH.back0T hD
    clear hD
    dsimp only [addC, setC, rmC, selC, getC] at hH
    try dsimp only [putL, setL, evL, getL]
    refine HL_cons rfl ?_
    refine o_move ?_
    try dsimp only [putL, setL, evL, getL]
    refine HL_cons rfl ?_
    refine o_extract rfl rfl ?_
    try dsimp only [putL, setL, evL, getL]
    refine HL_cons rfl ?_
    refine o_extract rfl rfl ?_
    try dsimp only [putL, setL, evL, getL]
    refine HL_cons rfl ?_
    refine o_assign ?_
    try dsimp only [putL, setL, evL, getL]
    refine HL_cons rfl ?_
    refine o_assign ?_
    try dsimp only [putL, setL, evL, getL]
    refine HL_nil ?_
    refine hK9 _ _ ?_
    refine HT_seq_k ?_
    intro K14 hK14
    refine HT_region ?_
    refine HL_cons rfl ?_
    refine o_move ?_
    try dsimp only [putL, setL, evL, getL]
    obtain ⟨u15, hu15, H⟩ := headE H
    refine HL_cons rfl ?_
    refine o_call (args := #[.slice A0p p0.length c0p]) Try.func58 rfl rfl rfl (laws_toSaidS.ok sb s12 no A0p c0p p0 HRp0 (Hp.own hH.bs) _ hu15) ?_
    rintro _ s15 ⟨A16, c16, rfl, hD⟩
    replace hH := hH.back0 hD (Up.refl _ _ _)
    clear hD
    dsimp only [addC, setC, rmC, selC, getC] at hH
    try dsimp only [putL, setL, evL, getL]
    refine HL_cons rfl ?_
    refine o_assign ?_
    try dsimp only [putL, setL, evL, getL]
    refine HL_nil ?_
    refine hK14 _ _ ?_
    refine HT_seq_k ?_
    intro K17 hK17
    refine HT_region ?_
    refine HL_cons rfl ?_
    refine o_move ?_
    try dsimp only [putL, setL, evL, getL]
    refine HL_cons rfl ?_
    refine o_move ?_
    try dsimp only [putL, setL, evL, getL]
    obtain ⟨u18, hu18, H⟩ := headE H
    refine HL_cons rfl ?_
    refine o_call (args := #[.slice A16 u15.length c16, .int .i64 p1]) Try.func59 rfl rfl rfl (impl_LogOf.ok s15 s15 no A16 c16 u15 p1 (hH.rd 2 rfl) (Hp.own (Bs.refl s15)) _ hu18) ?_
    rintro _ s18 ⟨A19, c19, rfl, hD⟩
    replace hH := hH.back0T hD
    clear hD
    dsimp only [addC, setC, rmC, selC, getC] at hH
    try dsimp only [putL, setL, evL, getL]
    refine HL_cons rfl ?_
    refine o_move ?_
    try dsimp only [putL, setL, evL, getL]
    refine HL_cons rfl ?_
    refine o_extract rfl rfl ?_
    try dsimp only [putL, setL, evL, getL]
    refine HL_cons rfl ?_
    refine o_extract rfl rfl ?_
    try dsimp only [putL, setL, evL, getL]
    refine HL_cons rfl ?_
    refine o_assign ?_
    try dsimp only [putL, setL, evL, getL]
    refine HL_cons rfl ?_
    refine o_assign ?_
    try dsimp only [putL, setL, evL, getL]
    refine HL_nil ?_
    refine hK17 _ _ ?_
    refine HT_seq_k ?_
    intro K30 hK30
    refine joinH H fun G31 hG31 H => ?_
    refine HT_joinK (fun l' s' => ∃ (x34 : Bool), G31 x34 = some r ∧ l' = [.slice A0p p0.length c0p, .int .i64 p1, undef, undef, .bool false, .int .i64 u4, .slice A13 u12.1.length c13, .bool u12.2, .slice A16 u15.length c16, .slice A19 u18.1.length c19, .bool u18.2, undef, undef, undef, undef, undef, .slice A0p p0.length c0p, .int .i64 1048576, .int .i64 u4, .int .i64 u4, .bool (decide (u4 < 0)), .tuple #[.slice A13 u12.1.length c13, .bool u12.2], .slice A0p p0.length c0p, .slice A11 u10.length c11, .int .i64 p1, .tuple #[.slice A13 u12.1.length c13, .bool u12.2], .slice A13 u12.1.length c13, .bool u12.2, .slice A0p p0.length c0p, .slice A16 u15.length c16, .tuple #[.slice A19 u18.1.length c19, .bool u18.2], .slice A16 u15.length c16, .int .i64 p1, .tuple #[.slice A19 u18.1.length c19, .bool u18.2], .slice A19 u18.1.length c19, .bool u18.2, getL l' 36, getL l' 37, getL l' 38, getL l' 39, getL l' 40, getL l' 41, getL l' 42, getL l' 43, .bool x34, undef, undef, undef, undef, undef, undef, undef, undef, undef, undef, undef, undef, undef, undef, undef, undef, undef, undef, undef, undef, undef, undef, undef, undef, undef, undef, undef, undef, undef, undef, undef, undef, undef, undef, undef, undef, undef, undef, undef, undef, undef, undef, undef, undef, undef, undef, undef, undef, undef, undef, undef, undef, undef, undef, undef, undef] ∧ Hp sb s F0 s' [Ck.ol OS137 137 A13 c13 u12.1, Ck.ol OS139 139 A16 c16 u15, Ck.ol OS137 137 A19 c19 u18.1]) ?_ ?_
    · intro K31 hK31
      refine HT_region ?_
      refine HL_cons rfl ?_
      refine o_move ?_
      try dsimp only [putL, setL, evL, getL]
      refine HL_cons rfl ?_
      refine o_move ?_
      try dsimp only [putL, setL, evL, getL]
      obtain ⟨u35, hu35, H⟩ := headE H
      refine HL_cons rfl ?_
      refine o_call (args := #[.slice A19 u18.1.length c19, .slice A13 u12.1.length c13]) Try.func60 rfl rfl rfl (laws_eqEventS.ok s18 s18 no A19 c19 u18.1 A13 c13 u12.1 (hH.rd 3 rfl) (hH.rd 1 rfl) (Hp.own (Bs.refl s18)) _ hu35) ?_
      rintro _ s35 ⟨rfl, hD⟩
      replace hH := hH.back0T hD
      clear hD
      dsimp only [addC, setC, rmC, selC, getC] at hH
      try dsimp only [putL, setL, evL, getL]
      refine HL_cons rfl ?_
      refine o_not rfl ?_
      try dsimp only [putL, setL, evL, getL]
      refine HL_cons rfl ?_
      refine o_move ?_
      try dsimp only [putL, setL, evL, getL]
      rcases Bool.eq_false_or_eq_true (!u35) with hb36 | hb36
      · replace H := iteT hb36 H
        refine HL_skip ?_ ?_
        · exact wantF (j := 4) (b := false) (t := 40) (c := !u35) rfl rfl rfl rfl hb36
        try dsimp only [putL, setL, evL, getL]
        refine HL_skip ?_ ?_
        · exact wantF (j := 4) (b := false) (t := 40) (c := !u35) rfl rfl rfl rfl hb36
        try dsimp only [putL, setL, evL, getL]
        refine HL_skip ?_ ?_
        · exact wantF (j := 4) (b := false) (t := 40) (c := !u35) rfl rfl rfl rfl hb36
        try dsimp only [putL, setL, evL, getL]
        refine HL_cons rfl ?_
        refine o_pickT rfl hb36 ?_
        try dsimp only [putL, setL, evL, getL]
        refine HL_nil ?_
        exact hK31 _ _ ⟨true, H, rfl, hH.sel [1, 2, 3] (by decide)⟩
      · replace H := iteF hb36 H
        refine HL_want ?_ ?_
        · exact wantT (j := 4) (b := false) (t := 40) (c := !u35) rfl rfl rfl rfl hb36
        refine o_move ?_
        try dsimp only [putL, setL, evL, getL]
        refine HL_want ?_ ?_
        · exact wantT (j := 4) (b := false) (t := 40) (c := !u35) rfl rfl rfl rfl hb36
        refine o_move ?_
        try dsimp only [putL, setL, evL, getL]
        refine HL_want ?_ ?_
        · exact wantT (j := 4) (b := false) (t := 40) (c := !u35) rfl rfl rfl rfl hb36
        refine o_neb rfl rfl Try.underlying4 ?_
        try dsimp only [putL, setL, evL, getL]
        refine HL_cons rfl ?_
        refine o_pickF rfl hb36 ?_
        try dsimp only [putL, setL, evL, getL]
        refine HL_nil ?_
        exact hK31 _ _ ⟨u18.2 != u12.2, H, rfl, hH.sel [1, 2, 3] (by decide)⟩
    · rintro l' s37 ⟨x34, H, hl, hH⟩
      generalize getL l' 36 = j36, getL l' 37 = j37, getL l' 38 = j38, getL l' 39 = j39, getL l' 40 = j40, getL l' 41 = j41, getL l' 42 = j42, getL l' 43 = j43 at hl
      subst hl
      replace H := hG31 _ H
      try dsimp only at H
      rcases Bool.eq_false_or_eq_true x34 with hb38 | hb38
      · replace H := iteT hb38 H
        refine HT_true (congrArg Value.bool hb38) ?_
        refine HT_seq_k ?_
        intro K39 hK39
        refine HT_region ?_
        refine HL_cons rfl ?_
        refine o_assign ?_
        try dsimp only [putL, setL, evL, getL]
        refine HL_nil ?_
        refine hK39 _ _ ?_
        refine HT_ret ?_
        obtain rfl := Option.some.inj (show some _ = some r from H)
        exact hQr _ _ [.bool false] ⟨rfl, trivial⟩ ⟨rfl, hH.sel [] (by decide)⟩
      · replace H := iteF hb38 H
        refine HT_false (congrArg Value.bool hb38) ?_
        refine HT_skip ?_
        refine hK30 _ _ ?_
        refine HT_seq_k ?_
        intro K40 hK40
        refine HT_seq_k ?_
        intro K41 hK41
        refine HT_region ?_
        refine HL_cons rfl ?_
        refine o_move ?_
        try dsimp only [putL, setL, evL, getL]
        refine HL_cons rfl ?_
        refine o_move ?_
        try dsimp only [putL, setL, evL, getL]
        obtain ⟨u42, hu42, H⟩ := headE H
        refine HL_cons rfl ?_
        refine o_call (args := #[.slice A0p p0.length c0p]) Try.func58 rfl rfl rfl (laws_toSaidS.ok sb s37 no A0p c0p p0 HRp0 (Hp.own hH.bs) _ hu42) ?_
        rintro _ s42 ⟨A43, c43, rfl, hD⟩
        replace hH := hH.back0 hD (Up.refl _ _ _)
        clear hD
        dsimp only [addC, setC, rmC, selC, getC] at hH
        try dsimp only [putL, setL, evL, getL]
        obtain ⟨u44, hu44, H⟩ := headE H
        refine HL_cons rfl ?_
        refine o_call (args := #[.slice A16 u15.length c16, .slice A43 u42.length c43]) Try.func61 rfl rfl rfl (laws_eqSaidS.ok s42 s42 no A16 c16 u15 A43 c43 u42 (hH.rd 1 rfl) (hH.rd 3 rfl) (Hp.own (Bs.refl s42)) _ hu44) ?_
        rintro _ s44 ⟨rfl, hD⟩
        replace hH := hH.back0T hD
        clear hD
        dsimp only [addC, setC, rmC, selC, getC] at hH
        try dsimp only [putL, setL, evL, getL]
        refine HL_cons rfl ?_
        refine o_not rfl ?_
        try dsimp only [putL, setL, evL, getL]
        refine HL_nil ?_
        refine hK41 _ _ ?_
        rcases Bool.eq_false_or_eq_true (!u44) with hb45 | hb45
        · replace H := iteT hb45 H
          refine HT_true (congrArg Value.bool hb45) ?_
          refine HT_seq_k ?_
          intro K46 hK46
          refine HT_region ?_
          refine HL_cons rfl ?_
          refine o_assign ?_
          try dsimp only [putL, setL, evL, getL]
          refine HL_nil ?_
          refine hK46 _ _ ?_
          refine HT_ret ?_
          obtain rfl := Option.some.inj (show some _ = some r from H)
          exact hQr _ _ [.bool false] ⟨rfl, trivial⟩ ⟨rfl, hH.sel [] (by decide)⟩
        · replace H := iteF hb45 H
          refine HT_false (congrArg Value.bool hb45) ?_
          refine HT_skip ?_
          refine hK40 _ _ ?_
          refine HT_seq_k ?_
          intro K47 hK47
          refine HT_region ?_
          refine HL_cons rfl ?_
          refine o_assign ?_
          try dsimp only [putL, setL, evL, getL]
          refine HL_nil ?_
          refine hK47 _ _ ?_
          refine HT_seq_k ?_
          intro K48 hK48
          refine HT_region ?_
          refine HL_cons rfl ?_
          refine o_move ?_
          try dsimp only [putL, setL, evL, getL]
          refine HL_cons rfl ?_
          refine o_move ?_
          try dsimp only [putL, setL, evL, getL]
          obtain ⟨u49, hu49, H⟩ := headE H
          obtain ⟨F1, hA, hB⟩ := hH.take [1] (by decide)
          dsimp only [addC, setC, rmC, selC, getC] at hA
          refine HL_cons rfl ?_
          refine o_call (args := #[.slice A16 u15.length c16, .int .i64 1]) Try.func62 rfl rfl rfl (laws_markSaidS.ok sb s44 F1 A16 c16 u15 1 hA _ hu49) ?_
          rintro _ s49 ⟨rfl, hD, hl50⟩
          replace hH := hB _ _ _ (Up.refl _ _ _) hD
          clear hD hA hB
          dsimp only [addC, setC, rmC, selC, getC] at hH
          try dsimp only [putL, setL, evL, getL]
          refine HL_cons rfl ?_
          refine o_assign ?_
          try dsimp only [putL, setL, evL, getL]
          refine HL_nil ?_
          refine hK48 _ _ ?_
          refine HT_seq_k ?_
          intro K63 hK63
          refine joinH H fun G64 hG64 H => ?_
          refine HT_joinK (fun l' s' => ∃ (x68 : Bool), G64 x68 = some r ∧ l' = [.slice A0p p0.length c0p, .int .i64 p1, undef, undef, .bool false, .int .i64 u4, .slice A13 u12.1.length c13, .bool u12.2, .slice A16 u15.length c16, .slice A19 u18.1.length c19, .bool u18.2, .int .i64 u49.1, undef, undef, undef, undef, .slice A0p p0.length c0p, .int .i64 1048576, .int .i64 u4, .int .i64 u4, .bool (decide (u4 < 0)), .tuple #[.slice A13 u12.1.length c13, .bool u12.2], .slice A0p p0.length c0p, .slice A11 u10.length c11, .int .i64 p1, .tuple #[.slice A13 u12.1.length c13, .bool u12.2], .slice A13 u12.1.length c13, .bool u12.2, .slice A0p p0.length c0p, .slice A16 u15.length c16, .tuple #[.slice A19 u18.1.length c19, .bool u18.2], .slice A16 u15.length c16, .int .i64 p1, .tuple #[.slice A19 u18.1.length c19, .bool u18.2], .slice A19 u18.1.length c19, .bool u18.2, j36, j37, j38, j39, j40, j41, j42, j43, .bool x34, .slice A16 u15.length c16, .slice A0p p0.length c0p, .slice A43 u42.length c43, .bool u44, .bool (!u44), .slice A16 u15.length c16, .int .i64 1, .int .i64 u49.1, getL l' 53, getL l' 54, getL l' 55, getL l' 56, getL l' 57, getL l' 58, getL l' 59, getL l' 60, getL l' 61, getL l' 62, getL l' 63, getL l' 64, .bool x68, undef, undef, undef, undef, undef, undef, undef, undef, undef, undef, undef, undef, undef, undef, undef, undef, undef, undef, undef, undef, undef, undef, undef, undef, undef, undef, undef, undef, undef, undef, undef, undef, undef, undef, undef] ∧ Hp sb s F0 s' [Ck.ol OS137 137 A13 c13 u12.1, Ck.ol OS137 137 A19 c19 u18.1]) ?_ ?_
          · intro K64 hK64
            refine HT_region ?_
            refine HL_cons rfl ?_
            refine o_move ?_
            try dsimp only [putL, setL, evL, getL]
            refine HL_cons rfl ?_
            refine o_bin rfl rfl rfl ?_
            try dsimp only [putL, setL, evL, getL]
            refine HL_cons rfl ?_
            refine o_move ?_
            try dsimp only [putL, setL, evL, getL]
            rcases Bool.eq_false_or_eq_true (decide (u49.1 < 0)) with hb69 | hb69
            · replace H := iteT hb69 H
              refine HL_skip ?_ ?_
              · exact wantF (j := 2) (b := false) (t := 55) (c := decide (u49.1 < 0)) rfl rfl rfl rfl hb69
              try dsimp only [putL, setL, evL, getL]
              refine HL_skip ?_ ?_
              · exact wantF (j := 2) (b := false) (t := 55) (c := decide (u49.1 < 0)) rfl rfl rfl rfl hb69
              try dsimp only [putL, setL, evL, getL]
              refine HL_skip ?_ ?_
              · exact wantF (j := 2) (b := false) (t := 55) (c := decide (u49.1 < 0)) rfl rfl rfl rfl hb69
              try dsimp only [putL, setL, evL, getL]
              refine HL_skip ?_ ?_
              · exact wantF (j := 2) (b := false) (t := 55) (c := decide (u49.1 < 0)) rfl rfl rfl rfl hb69
              try dsimp only [putL, setL, evL, getL]
              refine HL_cons rfl ?_
              refine o_pickT rfl hb69 ?_
              try dsimp only [putL, setL, evL, getL]
              refine HL_cons rfl ?_
              refine o_move ?_
              try dsimp only [putL, setL, evL, getL]
              refine HL_skip ?_ ?_
              · exact wantF (j := 8) (b := false) (t := 61) (c := true) rfl rfl rfl rfl rfl
              try dsimp only [putL, setL, evL, getL]
              refine HL_skip ?_ ?_
              · exact wantF (j := 8) (b := false) (t := 61) (c := true) rfl rfl rfl rfl rfl
              try dsimp only [putL, setL, evL, getL]
              refine HL_skip ?_ ?_
              · exact wantF (j := 8) (b := false) (t := 61) (c := true) rfl rfl rfl rfl rfl
              try dsimp only [putL, setL, evL, getL]
              refine HL_cons rfl ?_
              refine o_pickT rfl rfl ?_
              try dsimp only [putL, setL, evL, getL]
              refine HL_nil ?_
              exact hK64 _ _ ⟨true, H, rfl, hH.sel [0, 2] (by decide)⟩
            · replace H := iteF hb69 H
              refine HL_want ?_ ?_
              · exact wantT (j := 2) (b := false) (t := 55) (c := decide (u49.1 < 0)) rfl rfl rfl rfl hb69
              refine o_move ?_
              try dsimp only [putL, setL, evL, getL]
              refine HL_want ?_ ?_
              · exact wantT (j := 2) (b := false) (t := 55) (c := decide (u49.1 < 0)) rfl rfl rfl rfl hb69
              refine o_move ?_
              try dsimp only [putL, setL, evL, getL]
              obtain ⟨u70, hu70, H⟩ := headE H
              refine HL_want ?_ ?_
              · exact wantT (j := 2) (b := false) (t := 55) (c := decide (u49.1 < 0)) rfl rfl rfl rfl hb69
              refine o_call (args := #[.slice A19 u18.1.length c19, .slice A13 u12.1.length c13]) Try.func60 rfl rfl rfl (laws_eqEventS.ok s49 s49 no A19 c19 u18.1 A13 c13 u12.1 (hH.rd 2 rfl) (hH.rd 0 rfl) (Hp.own (Bs.refl s49)) _ hu70) ?_
              rintro _ s70 ⟨rfl, hD⟩
              replace hH := hH.back0T hD
              clear hD
              dsimp only [addC, setC, rmC, selC, getC] at hH
              try dsimp only [putL, setL, evL, getL]
              refine HL_want ?_ ?_
              · exact wantT (j := 2) (b := false) (t := 55) (c := decide (u49.1 < 0)) rfl rfl rfl rfl hb69
              refine o_not rfl ?_
              try dsimp only [putL, setL, evL, getL]
              refine HL_cons rfl ?_
              refine o_pickF rfl hb69 ?_
              try dsimp only [putL, setL, evL, getL]
              refine HL_cons rfl ?_
              refine o_move ?_
              try dsimp only [putL, setL, evL, getL]
              rcases Bool.eq_false_or_eq_true (!u70) with hb71 | hb71
              · replace H := iteT hb71 H
                refine HL_skip ?_ ?_
                · exact wantF (j := 8) (b := false) (t := 61) (c := !u70) rfl rfl rfl rfl hb71
                try dsimp only [putL, setL, evL, getL]
                refine HL_skip ?_ ?_
                · exact wantF (j := 8) (b := false) (t := 61) (c := !u70) rfl rfl rfl rfl hb71
                try dsimp only [putL, setL, evL, getL]
                refine HL_skip ?_ ?_
                · exact wantF (j := 8) (b := false) (t := 61) (c := !u70) rfl rfl rfl rfl hb71
                try dsimp only [putL, setL, evL, getL]
                refine HL_cons rfl ?_
                refine o_pickT rfl hb71 ?_
                try dsimp only [putL, setL, evL, getL]
                refine HL_nil ?_
                exact hK64 _ _ ⟨true, H, rfl, hH.sel [0, 2] (by decide)⟩
              · replace H := iteF hb71 H
                refine HL_want ?_ ?_
                · exact wantT (j := 8) (b := false) (t := 61) (c := !u70) rfl rfl rfl rfl hb71
                refine o_move ?_
                try dsimp only [putL, setL, evL, getL]
                refine HL_want ?_ ?_
                · exact wantT (j := 8) (b := false) (t := 61) (c := !u70) rfl rfl rfl rfl hb71
                refine o_move ?_
                try dsimp only [putL, setL, evL, getL]
                refine HL_want ?_ ?_
                · exact wantT (j := 8) (b := false) (t := 61) (c := !u70) rfl rfl rfl rfl hb71
                refine o_neb rfl rfl Try.underlying4 ?_
                try dsimp only [putL, setL, evL, getL]
                refine HL_cons rfl ?_
                refine o_pickF rfl hb71 ?_
                try dsimp only [putL, setL, evL, getL]
                refine HL_nil ?_
                exact hK64 _ _ ⟨u18.2 != u12.2, H, rfl, hH.sel [0, 2] (by decide)⟩
          · rintro l' s72 ⟨x68, H, hl, hH⟩
            generalize getL l' 53 = j53, getL l' 54 = j54, getL l' 55 = j55, getL l' 56 = j56, getL l' 57 = j57, getL l' 58 = j58, getL l' 59 = j59, getL l' 60 = j60, getL l' 61 = j61, getL l' 62 = j62, getL l' 63 = j63, getL l' 64 = j64 at hl
            subst hl
            replace H := hG64 _ H
            try dsimp only at H
            rcases Bool.eq_false_or_eq_true x68 with hb73 | hb73
            · replace H := iteT hb73 H
              refine HT_true (congrArg Value.bool hb73) ?_
              refine HT_seq_k ?_
              intro K74 hK74
              refine HT_region ?_
              refine HL_cons rfl ?_
              refine o_assign ?_
              try dsimp only [putL, setL, evL, getL]
              refine HL_nil ?_
              refine hK74 _ _ ?_
              refine HT_ret ?_
              obtain rfl := Option.some.inj (show some _ = some r from H)
              exact hQr _ _ [.bool false] ⟨rfl, trivial⟩ ⟨rfl, hH.sel [] (by decide)⟩
            · replace H := iteF hb73 H
              refine HT_false (congrArg Value.bool hb73) ?_
              refine HT_skip ?_
              refine hK63 _ _ ?_
              refine HT_seq_k ?_
              intro K75 hK75
              refine HT_region ?_
              refine HL_cons rfl ?_
              refine o_assign ?_
              try dsimp only [putL, setL, evL, getL]
              refine HL_nil ?_
              refine hK75 _ _ ?_
              refine HT_seq_k ?_
              intro K76 hK76
              refine HT_region ?_
              refine HL_cons rfl ?_
              refine o_move ?_
              try dsimp only [putL, setL, evL, getL]
              refine HL_cons rfl ?_
              refine o_move ?_
              try dsimp only [putL, setL, evL, getL]
              obtain ⟨u77, hu77, H⟩ := headE H
              obtain ⟨F1, hA, hB⟩ := hH.take [1] (by decide)
              dsimp only [addC, setC, rmC, selC, getC] at hA
              refine HL_cons rfl ?_
              refine o_call (args := #[.slice A19 u18.1.length c19, .int .i64 1]) Try.func63 rfl rfl rfl (laws_markEventS.ok sb s72 F1 A19 c19 u18.1 1 hA _ hu77) ?_
              rintro _ s77 ⟨rfl, hD, hl78⟩
              replace hH := hB _ _ _ (Up.refl _ _ _) hD
              clear hD hA hB
              dsimp only [addC, setC, rmC, selC, getC] at hH
              try dsimp only [putL, setL, evL, getL]
              refine HL_cons rfl ?_
              refine o_assign ?_
              try dsimp only [putL, setL, evL, getL]
              refine HL_nil ?_
              refine hK76 _ _ ?_
              refine HT_seq_k ?_
              intro K79 hK79
              refine HT_region ?_
              refine HL_cons rfl ?_
              refine o_assign ?_
              try dsimp only [putL, setL, evL, getL]
              refine HL_nil ?_
              refine hK79 _ _ ?_
              refine HT_seq_k ?_
              intro K80 hK80
              refine HT_region ?_
              refine HL_cons rfl ?_
              refine o_move ?_
              try dsimp only [putL, setL, evL, getL]
              refine HL_cons rfl ?_
              refine o_move ?_
              try dsimp only [putL, setL, evL, getL]
              obtain ⟨u81, hu81, H⟩ := headE H
              refine HL_cons rfl ?_
              refine o_call (args := #[.slice A19 u77.2.length c19, .int .i64 1]) Try.func64 rfl rfl (by show ([.slice A19 u18.1.length c19, .int .i64 1] : List Value) = [.slice A19 u77.2.length c19, .int .i64 1]; rw [hl78]; first | done | rfl) (laws_heldEventS.ok s77 s77 no A19 c19 u77.2 1 (hH.rd 2 rfl) (Hp.own (Bs.refl s77)) _ hu81) ?_
              rintro _ s81 ⟨rfl, hD⟩
              replace hH := hH.back0T hD
              clear hD
              dsimp only [addC, setC, rmC, selC, getC] at hH
              try dsimp only [putL, setL, evL, getL]
              refine HL_cons rfl ?_
              refine o_assign ?_
              try dsimp only [putL, setL, evL, getL]
              refine HL_nil ?_
              refine hK80 _ _ ?_
              refine HT_seq_k ?_
              intro K82 hK82
              refine HT_seq_k ?_
              intro K83 hK83
              refine HT_region ?_
              refine HL_cons rfl ?_
              refine o_move ?_
              try dsimp only [putL, setL, evL, getL]
              refine HL_cons rfl ?_
              refine o_bin rfl rfl rfl ?_
              try dsimp only [putL, setL, evL, getL]
              refine HL_nil ?_
              refine hK83 _ _ ?_
              rcases Bool.eq_false_or_eq_true (decide (u81 < 0)) with hb84 | hb84
              · replace H := iteT hb84 H
                refine HT_true (congrArg Value.bool hb84) ?_
                refine HT_seq_k ?_
                intro K85 hK85
                refine HT_region ?_
                refine HL_cons rfl ?_
                refine o_assign ?_
                try dsimp only [putL, setL, evL, getL]
                refine HL_nil ?_
                refine hK85 _ _ ?_
                refine HT_ret ?_
                obtain rfl := Option.some.inj (show some _ = some r from H)
                exact hQr _ _ [.bool false] ⟨rfl, trivial⟩ ⟨rfl, hH.sel [] (by decide)⟩
              · replace H := iteF hb84 H
                refine HT_false (congrArg Value.bool hb84) ?_
                refine HT_skip ?_
                refine hK82 _ _ ?_
                refine HT_seq_k ?_
                intro K86 hK86
                refine HT_seq_k ?_
                intro K87 hK87
                refine HT_region ?_
                refine HL_cons rfl ?_
                refine o_move ?_
                try dsimp only [putL, setL, evL, getL]
                refine HL_cons rfl ?_
                refine o_move ?_
                try dsimp only [putL, setL, evL, getL]
                refine HL_cons rfl ?_
                refine o_bin rfl rfl rfl ?_
                try dsimp only [putL, setL, evL, getL]
                refine HL_nil ?_
                refine hK87 _ _ ?_
                rcases Bool.eq_false_or_eq_true (u81 != u77.1) with hb88 | hb88
                · replace H := iteT hb88 H
                  refine HT_true (congrArg Value.bool hb88) ?_
                  refine HT_seq_k ?_
                  intro K89 hK89
                  refine HT_region ?_
                  refine HL_cons rfl ?_
                  refine o_assign ?_
                  try dsimp only [putL, setL, evL, getL]
                  refine HL_nil ?_
                  refine hK89 _ _ ?_
                  refine HT_ret ?_
                  obtain rfl := Option.some.inj (show some _ = some r from H)
                  exact hQr _ _ [.bool false] ⟨rfl, trivial⟩ ⟨rfl, hH.sel [] (by decide)⟩
                · replace H := iteF hb88 H
                  refine HT_false (congrArg Value.bool hb88) ?_
                  refine HT_skip ?_
                  refine hK86 _ _ ?_
                  refine HT_seq_k ?_
                  intro K90 hK90
                  refine HT_region ?_
                  refine HL_cons rfl ?_
                  refine o_move ?_
                  try dsimp only [putL, setL, evL, getL]
                  obtain ⟨u91, hu91, H⟩ := headE H
                  refine HL_cons rfl ?_
                  refine o_call (args := #[.slice A0p p0.length c0p]) Try.func58 rfl rfl rfl (laws_toSaidS.ok sb s81 no A0p c0p p0 HRp0 (Hp.own hH.bs) _ hu91) ?_
                  rintro _ s91 ⟨A92, c92, rfl, hD⟩
                  replace hH := hH.back0 hD (Up.refl _ _ _)
                  clear hD
                  dsimp only [addC, setC, rmC, selC, getC] at hH
                  try dsimp only [putL, setL, evL, getL]
                  refine HL_cons rfl ?_
                  refine o_move ?_
                  try dsimp only [putL, setL, evL, getL]
                  obtain ⟨u93, hu93, H⟩ := headE H
                  refine HL_cons rfl ?_
                  refine o_call (args := #[.slice A92 u91.length c92, .int .i64 p1]) Try.func59 rfl rfl rfl (impl_LogOf.ok s91 s91 no A92 c92 u91 p1 (hH.rd 3 rfl) (Hp.own (Bs.refl s91)) _ hu93) ?_
                  rintro _ s93 ⟨A94, c94, rfl, hD⟩
                  replace hH := hH.back0T hD
                  clear hD
                  dsimp only [addC, setC, rmC, selC, getC] at hH
                  try dsimp only [putL, setL, evL, getL]
                  refine HL_cons rfl ?_
                  refine o_move ?_
                  try dsimp only [putL, setL, evL, getL]
                  refine HL_cons rfl ?_
                  refine o_extract rfl rfl ?_
                  try dsimp only [putL, setL, evL, getL]
                  refine HL_cons rfl ?_
                  refine o_extract rfl rfl ?_
                  try dsimp only [putL, setL, evL, getL]
                  refine HL_cons rfl ?_
                  refine o_assign ?_
                  try dsimp only [putL, setL, evL, getL]
                  refine HL_cons rfl ?_
                  refine o_assign ?_
                  try dsimp only [putL, setL, evL, getL]
                  refine HL_nil ?_
                  refine hK90 _ _ ?_
                  refine HT_seq_k ?_
                  intro K105 hK105
                  refine joinH H fun G106 hG106 H => ?_
                  refine HT_joinK (fun l' s' => ∃ (x109 : Bool), G106 x109 = some r ∧ l' = [.slice A0p p0.length c0p, .int .i64 p1, undef, undef, .bool false, .int .i64 u4, .slice A13 u12.1.length c13, .bool u12.2, .slice A16 u15.length c16, .slice A19 u18.1.length c19, .bool u18.2, .int .i64 u49.1, .int .i64 u77.1, .int .i64 u81, .slice A94 u93.1.length c94, .bool u93.2, .slice A0p p0.length c0p, .int .i64 1048576, .int .i64 u4, .int .i64 u4, .bool (decide (u4 < 0)), .tuple #[.slice A13 u12.1.length c13, .bool u12.2], .slice A0p p0.length c0p, .slice A11 u10.length c11, .int .i64 p1, .tuple #[.slice A13 u12.1.length c13, .bool u12.2], .slice A13 u12.1.length c13, .bool u12.2, .slice A0p p0.length c0p, .slice A16 u15.length c16, .tuple #[.slice A19 u18.1.length c19, .bool u18.2], .slice A16 u15.length c16, .int .i64 p1, .tuple #[.slice A19 u18.1.length c19, .bool u18.2], .slice A19 u18.1.length c19, .bool u18.2, j36, j37, j38, j39, j40, j41, j42, j43, .bool x34, .slice A16 u15.length c16, .slice A0p p0.length c0p, .slice A43 u42.length c43, .bool u44, .bool (!u44), .slice A16 u15.length c16, .int .i64 1, .int .i64 u49.1, j53, j54, j55, j56, j57, j58, j59, j60, j61, j62, j63, j64, .bool x68, .slice A19 u18.1.length c19, .int .i64 1, .int .i64 u77.1, .slice A19 u18.1.length c19, .int .i64 1, .int .i64 u81, .int .i64 u81, .bool (decide (u81 < 0)), .int .i64 u81, .int .i64 u77.1, .bool (u81 != u77.1), .tuple #[.slice A94 u93.1.length c94, .bool u93.2], .slice A0p p0.length c0p, .slice A92 u91.length c92, .int .i64 p1, .tuple #[.slice A94 u93.1.length c94, .bool u93.2], .slice A94 u93.1.length c94, .bool u93.2, getL l' 84, getL l' 85, getL l' 86, getL l' 87, getL l' 88, getL l' 89, getL l' 90, getL l' 91, .bool x109, undef, undef, undef, undef, undef, undef, undef, undef] ∧ Hp sb s F0 s' [Ck.ol OS137 137 A19 c19 u77.2]) ?_ ?_
                  · intro K106 hK106
                    refine HT_region ?_
                    refine HL_cons rfl ?_
                    refine o_move ?_
                    try dsimp only [putL, setL, evL, getL]
                    refine HL_cons rfl ?_
                    refine o_move ?_
                    try dsimp only [putL, setL, evL, getL]
                    obtain ⟨u110, hu110, H⟩ := headE H
                    refine HL_cons rfl ?_
                    refine o_call (args := #[.slice A94 u93.1.length c94, .slice A13 u12.1.length c13]) Try.func60 rfl rfl rfl (laws_eqEventS.ok s93 s93 no A94 c94 u93.1 A13 c13 u12.1 (hH.rd 4 rfl) (hH.rd 0 rfl) (Hp.own (Bs.refl s93)) _ hu110) ?_
                    rintro _ s110 ⟨rfl, hD⟩
                    replace hH := hH.back0T hD
                    clear hD
                    dsimp only [addC, setC, rmC, selC, getC] at hH
                    try dsimp only [putL, setL, evL, getL]
                    refine HL_cons rfl ?_
                    refine o_not rfl ?_
                    try dsimp only [putL, setL, evL, getL]
                    refine HL_cons rfl ?_
                    refine o_move ?_
                    try dsimp only [putL, setL, evL, getL]
                    rcases Bool.eq_false_or_eq_true (!u110) with hb111 | hb111
                    · replace H := iteT hb111 H
                      refine HL_skip ?_ ?_
                      · exact wantF (j := 4) (b := false) (t := 88) (c := !u110) rfl rfl rfl rfl hb111
                      try dsimp only [putL, setL, evL, getL]
                      refine HL_skip ?_ ?_
                      · exact wantF (j := 4) (b := false) (t := 88) (c := !u110) rfl rfl rfl rfl hb111
                      try dsimp only [putL, setL, evL, getL]
                      refine HL_skip ?_ ?_
                      · exact wantF (j := 4) (b := false) (t := 88) (c := !u110) rfl rfl rfl rfl hb111
                      try dsimp only [putL, setL, evL, getL]
                      refine HL_cons rfl ?_
                      refine o_pickT rfl hb111 ?_
                      try dsimp only [putL, setL, evL, getL]
                      refine HL_nil ?_
                      exact hK106 _ _ ⟨true, H, rfl, hH.sel [2] (by decide)⟩
                    · replace H := iteF hb111 H
                      refine HL_want ?_ ?_
                      · exact wantT (j := 4) (b := false) (t := 88) (c := !u110) rfl rfl rfl rfl hb111
                      refine o_move ?_
                      try dsimp only [putL, setL, evL, getL]
                      refine HL_want ?_ ?_
                      · exact wantT (j := 4) (b := false) (t := 88) (c := !u110) rfl rfl rfl rfl hb111
                      refine o_move ?_
                      try dsimp only [putL, setL, evL, getL]
                      refine HL_want ?_ ?_
                      · exact wantT (j := 4) (b := false) (t := 88) (c := !u110) rfl rfl rfl rfl hb111
                      refine o_neb rfl rfl Try.underlying4 ?_
                      try dsimp only [putL, setL, evL, getL]
                      refine HL_cons rfl ?_
                      refine o_pickF rfl hb111 ?_
                      try dsimp only [putL, setL, evL, getL]
                      refine HL_nil ?_
                      exact hK106 _ _ ⟨u93.2 != u12.2, H, rfl, hH.sel [2] (by decide)⟩
                  · rintro l' s112 ⟨x109, H, hl, hH⟩
                    generalize getL l' 84 = j84, getL l' 85 = j85, getL l' 86 = j86, getL l' 87 = j87, getL l' 88 = j88, getL l' 89 = j89, getL l' 90 = j90, getL l' 91 = j91 at hl
                    subst hl
                    replace H := hG106 _ H
                    try dsimp only at H
                    rcases Bool.eq_false_or_eq_true x109 with hb113 | hb113
                    · replace H := iteT hb113 H
                      refine HT_true (congrArg Value.bool hb113) ?_
                      refine HT_seq_k ?_
                      intro K114 hK114
                      refine HT_region ?_
                      refine HL_cons rfl ?_
                      refine o_assign ?_
                      try dsimp only [putL, setL, evL, getL]
                      refine HL_nil ?_
                      refine hK114 _ _ ?_
                      refine HT_ret ?_
                      obtain rfl := Option.some.inj (show some _ = some r from H)
                      exact hQr _ _ [.bool false] ⟨rfl, trivial⟩ ⟨rfl, hH.sel [] (by decide)⟩
                    · replace H := iteF hb113 H
                      refine HT_false (congrArg Value.bool hb113) ?_
                      refine HT_skip ?_
                      refine hK105 _ _ ?_
                      refine HT_seq_k ?_
                      intro K115 hK115
                      refine HT_region ?_
                      refine HL_cons rfl ?_
                      refine o_assign ?_
                      try dsimp only [putL, setL, evL, getL]
                      refine HL_nil ?_
                      refine hK115 _ _ ?_
                      refine HT_seq_k ?_
                      intro K116 hK116
                      refine HT_region ?_
                      refine HL_cons rfl ?_
                      refine o_move ?_
                      try dsimp only [putL, setL, evL, getL]
                      refine HL_cons rfl ?_
                      refine o_move ?_
                      try dsimp only [putL, setL, evL, getL]
                      obtain ⟨u117, hu117, H⟩ := headE H
                      refine HL_cons rfl ?_
                      refine o_call (args := #[.slice A19 u77.2.length c19, .int .i64 1]) Try.func64 rfl rfl (by show ([.slice A19 u18.1.length c19, .int .i64 1] : List Value) = [.slice A19 u77.2.length c19, .int .i64 1]; rw [hl78]; first | done | rfl) (laws_heldEventS.ok s112 s112 no A19 c19 u77.2 1 (hH.rd 0 rfl) (Hp.own (Bs.refl s112)) _ hu117) ?_
                      rintro _ s117 ⟨rfl, hD⟩
                      replace hH := hH.back0T hD
                      clear hD
                      dsimp only [addC, setC, rmC, selC, getC] at hH
                      try dsimp only [putL, setL, evL, getL]
                      refine HL_cons rfl ?_
                      refine o_assign ?_
                      try dsimp only [putL, setL, evL, getL]
                      refine HL_nil ?_
                      refine hK116 _ _ ?_
                      refine HT_seq_k ?_
                      intro K118 hK118
                      refine HT_seq_k ?_
                      intro K119 hK119
                      refine HT_region ?_
                      refine HL_cons rfl ?_
                      refine o_move ?_
                      try dsimp only [putL, setL, evL, getL]
                      refine HL_cons rfl ?_
                      refine o_bin rfl rfl rfl ?_
                      try dsimp only [putL, setL, evL, getL]
                      refine HL_nil ?_
                      refine hK119 _ _ ?_
                      rcases Bool.eq_false_or_eq_true (decide (u117 < 0)) with hb120 | hb120
                      · replace H := iteT hb120 H
                        refine HT_true (congrArg Value.bool hb120) ?_
                        refine HT_seq_k ?_
                        intro K121 hK121
                        refine HT_region ?_
                        refine HL_cons rfl ?_
                        refine o_assign ?_
                        try dsimp only [putL, setL, evL, getL]
                        refine HL_nil ?_
                        refine hK121 _ _ ?_
                        refine HT_ret ?_
                        obtain rfl := Option.some.inj (show some _ = some r from H)
                        exact hQr _ _ [.bool false] ⟨rfl, trivial⟩ ⟨rfl, hH.sel [] (by decide)⟩
                      · replace H := iteF hb120 H
                        refine HT_false (congrArg Value.bool hb120) ?_
                        refine HT_skip ?_
                        refine hK118 _ _ ?_
                        refine HT_seq_k ?_
                        intro K122 hK122
                        refine HT_seq_k ?_
                        intro K123 hK123
                        refine HT_region ?_
                        refine HL_cons rfl ?_
                        refine o_move ?_
                        try dsimp only [putL, setL, evL, getL]
                        refine HL_cons rfl ?_
                        refine o_move ?_
                        try dsimp only [putL, setL, evL, getL]
                        refine HL_cons rfl ?_
                        refine o_bin rfl rfl rfl ?_
                        try dsimp only [putL, setL, evL, getL]
                        refine HL_nil ?_
                        refine hK123 _ _ ?_
                        rcases Bool.eq_false_or_eq_true (u117 != u77.1) with hb124 | hb124
                        · replace H := iteT hb124 H
                          refine HT_true (congrArg Value.bool hb124) ?_
                          refine HT_seq_k ?_
                          intro K125 hK125
                          refine HT_region ?_
                          refine HL_cons rfl ?_
                          refine o_assign ?_
                          try dsimp only [putL, setL, evL, getL]
                          refine HL_nil ?_
                          refine hK125 _ _ ?_
                          refine HT_ret ?_
                          obtain rfl := Option.some.inj (show some _ = some r from H)
                          exact hQr _ _ [.bool false] ⟨rfl, trivial⟩ ⟨rfl, hH.sel [] (by decide)⟩
                        · replace H := iteF hb124 H
                          refine HT_false (congrArg Value.bool hb124) ?_
                          refine HT_skip ?_
                          refine hK122 _ _ ?_
                          refine HT_seq_k ?_
                          intro K126 hK126
                          refine HT_region ?_
                          refine HL_cons rfl ?_
                          refine o_assign ?_
                          try dsimp only [putL, setL, evL, getL]
                          refine HL_nil ?_
                          refine hK126 _ _ ?_
                          refine HT_ret ?_
                          obtain rfl := Option.some.inj (show some _ = some r from H)
                          exact hQr _ _ [.bool true] ⟨rfl, trivial⟩ ⟨rfl, hH.sel [] (by decide)⟩
end Go.Proofs.Ytopecknfnhocpaa
