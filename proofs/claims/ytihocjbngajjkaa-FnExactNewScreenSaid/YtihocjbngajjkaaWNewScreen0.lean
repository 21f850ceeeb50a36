/- The functions that the law reaches, as plain functions, each with its contract: printed by a program of the prover's. No conditions: lemmas. -/
import Derived.Test.YtihocjbngajjkaaProg
import Derived.Test.YtihocjbngajjkaaGG
set_option linter.unusedVariables false
set_option linter.unusedSimpArgs false
namespace Go.Proofs.Ytihocjbngajjkaa
open Go Go.Proofs.GL
theorem tI3 : TI Try.prog 3 (.int .i64 0) 1 8 := by unfold TI; kernel_rfl
theorem tI22 : TI Try.prog 22 (.slice none 0 0) 1 24 := by unfold TI; kernel_rfl
theorem tI27 : TI Try.prog 27 (.agg #[.int .i64 0, .int .i64 0, .slice none 0 0, .int .i64 0, .int .i64 0]) 5 56 := by unfold TI; kernel_rfl
theorem hMix : Try.prog.follows .mixedOrders = true := by kernel_rfl
def spec_l1In.f (p0 : Int) (p1 : Int) (p2 : Int) : Option Bool := if (decide (p0 ≥ p1)) = true then (some (decide (p0 ≤ p2))) else (some false)
def spec_l1In.post (sb s : St) (F0 : Fp) (r : Bool) : Value → St → Prop := fun v s' => v = .bool r ∧ Hp sb s F0 s' []
set_option maxRecDepth 100000 in
set_option maxHeartbeats 4000000 in
theorem spec_l1In.ok (sb s : St) (F0 : Fp) (p0 : Int) (p1 : Int) (p2 : Int) (hH : Hp sb s F0 s []) (r : Bool) (H : spec_l1In.f p0 p1 p2 = some r) : GCall Try.prog 31 #[.int .i64 p0, .int .i64 p1, .int .i64 p2] s (spec_l1In.post sb s F0 r) := by
  refine GCall_ofk [.tmp 6] [.int .i64 p0, .int .i64 p1, .int .i64 p2, undef, undef, undef, undef, undef, undef, undef, undef, undef, undef, undef, undef] Try.func31 rfl rfl rfl ?_
  intro w Q hQr hQn hQp
  replace H := topE H
  unfold spec_l1In.f at H
  refine HT_seq_k ?_
  intro K1 hK1
  refine HT_region ?_
  refine HL_cons rfl ?_
  refine o_assign ?_
  try dsimp only [putL, setL, evL, getL]
  refine HL_nil ?_
  refine hK1 _ _ ?_
  refine HT_seq_k ?_
  intro K2 hK2
  refine HT_region ?_
  refine HL_cons rfl ?_
  refine o_move ?_
  try dsimp only [putL, setL, evL, getL]
  refine HL_cons rfl ?_
  refine o_move ?_
  try dsimp only [putL, setL, evL, getL]
  refine HL_cons rfl ?_
  refine o_bin rfl rfl rfl ?_
  try dsimp only [putL, setL, evL, getL]
  refine HL_cons rfl ?_
  refine o_move ?_
  try dsimp only [putL, setL, evL, getL]
  rcases Bool.eq_false_or_eq_true (decide (p0 ≥ p1)) with hb3 | hb3
  · replace H := iteT hb3 H
    refine HL_want ?_ ?_
    · exact wantT (j := 3) (b := true) (t := 10) (c := decide (p0 ≥ p1)) rfl rfl rfl rfl hb3
    refine o_move ?_
    try dsimp only [putL, setL, evL, getL]
    refine HL_want ?_ ?_
    · exact wantT (j := 3) (b := true) (t := 10) (c := decide (p0 ≥ p1)) rfl rfl rfl rfl hb3
    refine o_move ?_
    try dsimp only [putL, setL, evL, getL]
    refine HL_want ?_ ?_
    · exact wantT (j := 3) (b := true) (t := 10) (c := decide (p0 ≥ p1)) rfl rfl rfl rfl hb3
    refine o_bin rfl rfl rfl ?_
    try dsimp only [putL, setL, evL, getL]
    refine HL_cons rfl ?_
    refine o_pickT rfl hb3 ?_
    try dsimp only [putL, setL, evL, getL]
    refine HL_cons rfl ?_
    refine o_assign ?_
    try dsimp only [putL, setL, evL, getL]
    refine HL_nil ?_
    refine hK2 _ _ ?_
    refine HT_ret ?_
    obtain rfl := Option.some.inj (show some _ = some r from H)
    exact hQr _ _ [.bool (decide (p0 ≤ p2))] ⟨rfl, trivial⟩ ⟨rfl, hH⟩
  · replace H := iteF hb3 H
    refine HL_skip ?_ ?_
    · exact wantF (j := 3) (b := true) (t := 10) (c := decide (p0 ≥ p1)) rfl rfl rfl rfl hb3
    try dsimp only [putL, setL, evL, getL]
    refine HL_skip ?_ ?_
    · exact wantF (j := 3) (b := true) (t := 10) (c := decide (p0 ≥ p1)) rfl rfl rfl rfl hb3
    try dsimp only [putL, setL, evL, getL]
    refine HL_skip ?_ ?_
    · exact wantF (j := 3) (b := true) (t := 10) (c := decide (p0 ≥ p1)) rfl rfl rfl rfl hb3
    try dsimp only [putL, setL, evL, getL]
    refine HL_cons rfl ?_
    refine o_pickF rfl hb3 ?_
    try dsimp only [putL, setL, evL, getL]
    refine HL_cons rfl ?_
    refine o_assign ?_
    try dsimp only [putL, setL, evL, getL]
    refine HL_nil ?_
    refine hK2 _ _ ?_
    refine HT_ret ?_
    obtain rfl := Option.some.inj (show some _ = some r from H)
    exact hQr _ _ [.bool false] ⟨rfl, trivial⟩ ⟨rfl, hH⟩
def spec_l16New.l1 (p0 : Int) (p1 : Int) : Nat → Int → (List (Int)) → Option (List (Int))
  | 0, _, _ => none
  | kf + 1, x45, x46 => if (decide (x45 < (IntKind.i64.wrap (p0 * p1)))) = true then ((app? 17592186044416 x46 [32]).bind fun x62 => spec_l16New.l1 p0 p1 kf (IntKind.i64.wrap (x45 + 1)) x62) else (some x46)
def spec_l16New.f (p0 : Int) (p1 : Int) : Option (Int × Int × (List (Int)) × Int × Int) := (spec_l16New.l1 p0 p1 (((IntKind.i64.wrap (p0 * p1)) - (0)).toNat + 2) 0 []).bind fun (o : (List (Int))) => match o with | x36 => (some (p0, p1, x36, 0, 0))
def spec_l16New.post (sb s : St) (F0 : Fp) (r : Int × Int × (List (Int)) × Int × Int) : Value → St → Prop := fun v s' => ∃ (A2 : Option Addr) (c2 : Nat), v = .agg #[.int .i64 r.1, .int .i64 r.2.1, .slice A2 r.2.2.1.length c2, .int .i64 r.2.2.2.1, .int .i64 r.2.2.2.2] ∧ Hp sb s F0 s' [Ck.ol OI 3 A2 c2 r.2.2.1]
set_option maxRecDepth 100000 in
set_option maxHeartbeats 4000000 in
theorem spec_l16New.ok (sb s : St) (F0 : Fp) (p0 : Int) (p1 : Int) (hH : Hp sb s F0 s []) (r : Int × Int × (List (Int)) × Int × Int) (H : spec_l16New.f p0 p1 = some r) : GCall Try.prog 43 #[.int .i64 p0, .int .i64 p1] s (spec_l16New.post sb s F0 r) := by
  refine GCall_ofk [.cell 4 27] [.int .i64 p0, .int .i64 p1, undef, undef, undef, undef, undef, undef, undef, undef, undef, undef, undef, undef, undef, undef, undef, undef, undef, undef, undef, undef, undef] Try.func43 rfl rfl rfl ?_
  intro w Q hQr hQn hQp
  replace H := topE H
  unfold spec_l16New.f at H
  refine HT_seq_k ?_
  intro K1 hK1
  refine HT_region ?_
  refine HL_cons rfl ?_
  refine o_allocH hH tI27 ?_
  intro b2 s2 hH' hG
  replace hH : Hp sb s F0 s2 [Ck.ov b2 [.int .i64 0, .int .i64 0, .slice none 0 0, .int .i64 0, .int .i64 0] 27] := hH'
  clear hH' hG
  try dsimp only [putL, setL, evL, getL]
  refine HL_nil ?_
  refine hK1 _ _ ?_
  refine HT_seq_k ?_
  intro K3 hK3
  refine HT_region ?_
  refine HL_cons rfl ?_
  refine o_move ?_
  try dsimp only [putL, setL, evL, getL]
  refine HL_cons rfl ?_
  refine o_move ?_
  try dsimp only [putL, setL, evL, getL]
  refine HL_cons rfl ?_
  refine o_build (pl := [(0, 1), (1, 1), (2, 1), (3, 1), (4, 1)]) (cs := #[.int .i64 p0, .int .i64 p1, .slice none 0 0, .int .i64 0, .int .i64 0]) Try.underlying27 tI27 (by kernel_rfl) (by kernel_rfl) rfl ?_
  try dsimp only [putL, setL, evL, getL]
  refine HL_cons rfl ?_
  refine o_allocH hH tI27 ?_
  intro b4 s4 hH' hG
  replace hH : Hp sb s F0 s4 [Ck.ov b2 [.int .i64 0, .int .i64 0, .slice none 0 0, .int .i64 0, .int .i64 0] 27, Ck.ov b4 [.int .i64 0, .int .i64 0, .slice none 0 0, .int .i64 0, .int .i64 0] 27] := hH'
  clear hH' hG
  try dsimp only [putL, setL, evL, getL]
  refine HL_cons rfl ?_
  refine o_stvH (vs := [.int .i64 p0, .int .i64 p1, .slice none 0 0, .int .i64 0, .int .i64 0]) (us' := [.int .i64 p0, .int .i64 p1, .slice none 0 0, .int .i64 0, .int .i64 0]) hH 1 rfl rfl rfl rfl rfl tI27 rfl (List.cons_ne_nil _ _) rfl rfl rfl ?_
  intro s5 hH'
  replace hH : Hp sb s F0 s5 [Ck.ov b2 [.int .i64 0, .int .i64 0, .slice none 0 0, .int .i64 0, .int .i64 0] 27, Ck.ov b4 [.int .i64 p0, .int .i64 p1, .slice none 0 0, .int .i64 0, .int .i64 0] 27] := hH'
  clear hH'
  try dsimp only [putL, setL, evL, getL]
  refine HL_nil ?_
  refine hK3 _ _ ?_
  refine HT_seq_k ?_
  intro K6 hK6
  refine HT_seq_k ?_
  intro K7 hK7
  refine HT_region ?_
  refine HL_cons rfl ?_
  refine o_assign ?_
  try dsimp only [putL, setL, evL, getL]
  refine HL_nil ?_
  refine hK7 _ _ ?_
  refine joinH H fun G8 hG8 H => ?_
  refine HT_toK (fun l' s' => ∃ (x36 : List (Int)) (A36 : Option Addr) (c36 : Nat), G8 x36 = some r ∧ l' = [.int .i64 p0, .int .i64 p1, undef, undef, .pointer (some ⟨b2, 0, none⟩), .pointer (some ⟨b4, 0, none⟩), getL l' 6, .int .i64 p0, .int .i64 p1, .agg #[.int .i64 p0, .int .i64 p1, .slice none 0 0, .int .i64 0, .int .i64 0], getL l' 10, getL l' 11, getL l' 12, getL l' 13, getL l' 14, getL l' 15, getL l' 16, getL l' 17, getL l' 18, getL l' 19, getL l' 20, getL l' 21, undef] ∧ Hp sb s F0 s' [Ck.ol OI 3 A36 c36 x36, Ck.ov b2 [.int .i64 0, .int .i64 0, .slice none 0 0, .int .i64 0, .int .i64 0] 27, Ck.ov b4 [.int .i64 p0, .int .i64 p1, .slice A36 x36.length c36, .int .i64 0, .int .i64 0] 27]) ?_ ?_
  · intro K8 hK8
    refine HT_block ?_
    refine HT_loopK (fun kf l' s' => ∃ (x45 : Int) (x46 : List (Int)) (A46 : Option Addr) (c46 : Nat), (spec_l16New.l1 p0 p1 kf x45 x46).bind G8 = some r ∧ l' = [.int .i64 p0, .int .i64 p1, undef, undef, .pointer (some ⟨b2, 0, none⟩), .pointer (some ⟨b4, 0, none⟩), .int .i64 x45, .int .i64 p0, .int .i64 p1, .agg #[.int .i64 p0, .int .i64 p1, .slice none 0 0, .int .i64 0, .int .i64 0], getL l' 10, getL l' 11, getL l' 12, getL l' 13, getL l' 14, getL l' 15, getL l' 16, getL l' 17, getL l' 18, getL l' 19, getL l' 20, getL l' 21, undef] ∧ Hp sb s F0 s' [Ck.ol OI 3 A46 c46 x46, Ck.ov b2 [.int .i64 0, .int .i64 0, .slice none 0 0, .int .i64 0, .int .i64 0] 27, Ck.ov b4 [.int .i64 p0, .int .i64 p1, .slice A46 x46.length c46, .int .i64 0, .int .i64 0] 27]) (((IntKind.i64.wrap (p0 * p1)) - (0)).toNat + 2) ⟨0, [], none, 0, H, rfl, (hH.nil (K := KI) OI 3).sel [2, 0, 1] (by decide)⟩ ?_
    rintro kf l' s56 ⟨x45, x46, A46, c46, H, hl, hH⟩ K56 hK56
    generalize getL l' 10 = j10, getL l' 11 = j11, getL l' 12 = j12, getL l' 13 = j13, getL l' 14 = j14, getL l' 15 = j15, getL l' 16 = j16, getL l' 17 = j17, getL l' 18 = j18, getL l' 19 = j19, getL l' 20 = j20, getL l' 21 = j21 at hl
    subst hl
    cases kf with
    | zero => simp [spec_l16New.l1] at H
    | succ kf =>
      rw [spec_l16New.l1] at H
      refine HT_seq_k ?_
      intro K57 hK57
      refine HT_seq_k ?_
      intro K58 hK58
      refine HT_region ?_
      refine HL_cons rfl ?_
      refine o_move ?_
      try dsimp only [putL, setL, evL, getL]
      refine HL_cons rfl ?_
      refine o_move ?_
      try dsimp only [putL, setL, evL, getL]
      refine HL_cons rfl ?_
      refine o_move ?_
      try dsimp only [putL, setL, evL, getL]
      refine HL_cons rfl ?_
      refine o_bin rfl rfl rfl ?_
      try dsimp only [putL, setL, evL, getL]
      refine HL_cons rfl ?_
      refine o_bin rfl rfl rfl ?_
      try dsimp only [putL, setL, evL, getL]
      refine HL_nil ?_
      refine hK58 _ _ ?_
      rcases Bool.eq_false_or_eq_true (decide (x45 < (IntKind.i64.wrap (p0 * p1)))) with hb59 | hb59
      · replace H := iteT hb59 H
        refine HT_true (congrArg Value.bool hb59) ?_
        refine HT_skip ?_
        refine hK57 _ _ ?_
        refine HT_seq_k ?_
        intro K60 hK60
        refine HT_block ?_
        refine HT_region ?_
        refine HL_cons rfl ?_
        refine o_faddr' (ft := 22) (off := 2) rfl Try.underlying27 rfl tI22 (by decide) ?_
        try dsimp only [putL, setL, evL, getL]
        refine HL_cons rfl ?_
        refine o_load' rfl Try.underlying22 rfl (hH.hasv 2 rfl rfl) ?_
        try dsimp only [putL, setL, evL, getL]
        refine HL_cons rfl ?_
        refine o_litF (K := KI) (O := OI) (ca := #[.int .i64 32]) [[.int .i64 32]] [32] hH Try.underlying22 tI3 rfl (by decide) rfl rfl rfl rfl ⟨rfl, Ent.own (Ent.flat rfl), trivial⟩ ?_
        intro A61 s61 hH' hG
        replace hH : Hp sb s F0 s61 [Ck.ol OI 3 A46 c46 x46, Ck.ov b2 [.int .i64 0, .int .i64 0, .slice none 0 0, .int .i64 0, .int .i64 0] 27, Ck.ov b4 [.int .i64 p0, .int .i64 p1, .slice A46 x46.length c46, .int .i64 0, .int .i64 0] 27, Ck.ol OI 3 A61 1 [32]] := hH'
        clear hH' hG
        try dsimp only [putL, setL, evL, getL]
        obtain ⟨x62, hx62, H⟩ := headE H
        refine HL_cons rfl ?_
        refine o_appF (K := KI) (n := 17592186044416) (A := A46) (c := c46) (xs := x46) (ys := [32]) (B := A61) (c2 := 1) hH 0 rfl rfl rfl rfl Try.underlying22 tI3 rfl (by decide) (by decide) (by decide) (Src.flat (hH.rd 3 rfl)) hx62 ?_
        intro A62 c62 s62 hH'
        replace hH : Hp sb s F0 s62 [Ck.ol OI 3 A62 c62 x62, Ck.ov b2 [.int .i64 0, .int .i64 0, .slice none 0 0, .int .i64 0, .int .i64 0] 27, Ck.ov b4 [.int .i64 p0, .int .i64 p1, .slice A46 x46.length c46, .int .i64 0, .int .i64 0] 27, Ck.ol OI 3 A61 1 [32]] := hH'
        clear hH'
        try dsimp only [putL, setL, evL, getL]
        refine HL_cons rfl ?_
        refine o_faddr' (ft := 22) (off := 2) rfl Try.underlying27 rfl tI22 (by decide) ?_
        try dsimp only [putL, setL, evL, getL]
        refine HL_cons rfl ?_
        refine o_stvH (vs := [.slice A62 x62.length c62]) (us' := [.int .i64 p0, .int .i64 p1, .slice A62 x62.length c62, .int .i64 0, .int .i64 0]) hH 2 rfl rfl rfl rfl rfl tI22 rfl (List.cons_ne_nil _ _) rfl rfl rfl ?_
        intro s63 hH'
        replace hH : Hp sb s F0 s63 [Ck.ol OI 3 A62 c62 x62, Ck.ov b2 [.int .i64 0, .int .i64 0, .slice none 0 0, .int .i64 0, .int .i64 0] 27, Ck.ov b4 [.int .i64 p0, .int .i64 p1, .slice A62 x62.length c62, .int .i64 0, .int .i64 0] 27, Ck.ol OI 3 A61 1 [32]] := hH'
        clear hH'
        try dsimp only [putL, setL, evL, getL]
        refine HL_nil ?_
        refine hK60 _ _ ?_
        refine HT_region ?_
        refine HL_cons rfl ?_
        refine o_move ?_
        try dsimp only [putL, setL, evL, getL]
        refine HL_cons rfl ?_
        refine o_bin rfl rfl rfl ?_
        try dsimp only [putL, setL, evL, getL]
        refine HL_cons rfl ?_
        refine o_assign ?_
        try dsimp only [putL, setL, evL, getL]
        refine HL_nil ?_
        exact hK56 _ _ ⟨kf, Nat.lt_succ_self kf, IntKind.i64.wrap (x45 + 1), x62, A62, c62, H, rfl, hH.sel [0, 1, 2] (by decide)⟩
      · replace H := iteF hb59 H
        refine HT_false (congrArg Value.bool hb59) ?_
        refine HT_exit ?_
        exact hK8 _ _ ⟨x46, A46, c46, H, rfl, hH⟩
  · rintro l' s64 ⟨x36, A36, c36, H, hl, hH⟩
    generalize getL l' 6 = j6, getL l' 10 = j10, getL l' 11 = j11, getL l' 12 = j12, getL l' 13 = j13, getL l' 14 = j14, getL l' 15 = j15, getL l' 16 = j16, getL l' 17 = j17, getL l' 18 = j18, getL l' 19 = j19, getL l' 20 = j20, getL l' 21 = j21 at hl
    subst hl
    replace H := hG8 _ H
    try dsimp only at H
    refine hK6 _ _ ?_
    refine HT_seq_k ?_
    intro K65 hK65
    refine HT_region ?_
    refine HL_cons rfl ?_
    refine o_loads' [.int .i64 p0, .int .i64 p1, .slice A36 x36.length c36, .int .i64 0, .int .i64 0] rfl Try.underlying27 rfl tI27 rfl (hH.partv 2 rfl (0) [.int .i64 p0, .int .i64 p1, .slice A36 x36.length c36, .int .i64 0, .int .i64 0] rfl) ?_
    try dsimp only [putL, setL, evL, getL]
    refine HL_cons rfl ?_
    refine o_stvH (vs := [.int .i64 p0, .int .i64 p1, .slice A36 x36.length c36, .int .i64 0, .int .i64 0]) (us' := [.int .i64 p0, .int .i64 p1, .slice A36 x36.length c36, .int .i64 0, .int .i64 0]) hH 1 rfl rfl rfl rfl rfl tI27 rfl (List.cons_ne_nil _ _) rfl rfl rfl ?_
    intro s66 hH'
    replace hH : Hp sb s F0 s66 [Ck.ol OI 3 A36 c36 x36, Ck.ov b2 [.int .i64 p0, .int .i64 p1, .slice A36 x36.length c36, .int .i64 0, .int .i64 0] 27, Ck.ov b4 [.int .i64 p0, .int .i64 p1, .slice A36 x36.length c36, .int .i64 0, .int .i64 0] 27] := hH'
    clear hH'
    try dsimp only [putL, setL, evL, getL]
    refine HL_nil ?_
    refine hK65 _ _ ?_
    refine HT_ret ?_
    obtain rfl := Option.some.inj (show some _ = some r from H)
    exact hQr _ _ [.agg #[.int .i64 p0, .int .i64 p1, .slice A36 x36.length c36, .int .i64 0, .int .i64 0]] ⟨ResV.cells rfl Try.underlying27 rfl tI27 (hH.var 1 rfl) rfl, trivial⟩ ⟨A36, c36, rfl, hH.sel [0] (by decide)⟩
def spec_NewScreen.f (p0 : Int) (p1 : Int) : Option (Int × Int × (List (Int)) × Int × Int × Bool) := ((spec_l1In.f p0 1 20).bind fun u22 => if (!u22) = true then (some true) else ((spec_l1In.f p1 1 8).bind fun u24 => some (!u24))).bind fun (o : Bool) => match o with | x21 => (if x21 = true then (some (0, 0, [], 0, 0, false)) else ((spec_l16New.f p0 p1).bind fun u30 => some (u30.1, u30.2.1, u30.2.2.1, u30.2.2.2.1, u30.2.2.2.2, true)))
def spec_NewScreen.post (sb s : St) (F0 : Fp) (r : Int × Int × (List (Int)) × Int × Int × Bool) : Value → St → Prop := fun v s' => ∃ (A2 : Option Addr) (c2 : Nat), v = .tuple #[.agg #[.int .i64 r.1, .int .i64 r.2.1, .slice A2 r.2.2.1.length c2, .int .i64 r.2.2.2.1, .int .i64 r.2.2.2.2.1], .bool r.2.2.2.2.2] ∧ Hp sb s F0 s' [Ck.ol OI 3 A2 c2 r.2.2.1]
set_option maxRecDepth 100000 in
set_option maxHeartbeats 4000000 in
theorem spec_NewScreen.ok (sb s : St) (F0 : Fp) (p0 : Int) (p1 : Int) (hH : Hp sb s F0 s []) (r : Int × Int × (List (Int)) × Int × Int × Bool) (H : spec_NewScreen.f p0 p1 = some r) : GCall Try.prog 18 #[.int .i64 p0, .int .i64 p1] s (spec_NewScreen.post sb s F0 r) := by
  refine GCall_ofk [.cell 4 27, .tmp 5] [.int .i64 p0, .int .i64 p1, undef, undef, undef, undef, undef, undef, undef, undef, undef, undef, undef, undef, undef, undef, undef, undef] Try.func18 rfl rfl rfl ?_
  intro w Q hQr hQn hQp
  replace H := topE H
  unfold spec_NewScreen.f at H
  refine HT_seq_k ?_
  intro K1 hK1
  refine HT_region ?_
  refine HL_cons rfl ?_
  refine o_allocH hH tI27 ?_
  intro b2 s2 hH' hG
  replace hH : Hp sb s F0 s2 [Ck.ov b2 [.int .i64 0, .int .i64 0, .slice none 0 0, .int .i64 0, .int .i64 0] 27] := hH'
  clear hH' hG
  try dsimp only [putL, setL, evL, getL]
  refine HL_cons rfl ?_
  refine o_assign ?_
  try dsimp only [putL, setL, evL, getL]
  refine HL_nil ?_
  refine hK1 _ _ ?_
  refine HT_seq_k ?_
  intro K16 hK16
  refine joinH H fun G17 hG17 H => ?_
  refine HT_joinK (fun l' s' => ∃ (x21 : Bool), G17 x21 = some r ∧ l' = [.int .i64 p0, .int .i64 p1, undef, undef, .pointer (some ⟨b2, 0, none⟩), .bool false, getL l' 6, getL l' 7, getL l' 8, getL l' 9, getL l' 10, getL l' 11, getL l' 12, .bool x21, undef, undef, undef, undef] ∧ Hp sb s F0 s' [Ck.ov b2 [.int .i64 0, .int .i64 0, .slice none 0 0, .int .i64 0, .int .i64 0] 27]) ?_ ?_
  · intro K17 hK17
    refine HT_region ?_
    refine HL_cons rfl ?_
    refine o_move ?_
    try dsimp only [putL, setL, evL, getL]
    obtain ⟨u22, hu22, H⟩ := headE H
    refine HL_cons rfl ?_
    refine o_call (args := #[.int .i64 p0, .int .i64 1, .int .i64 20]) Try.func31 rfl rfl rfl (spec_l1In.ok sb s2 no p0 1 20 (Hp.own hH.bs) _ hu22) ?_
    rintro _ s22 ⟨rfl, hD⟩
    replace hH := hH.back0 hD (Up.refl _ _ _)
    clear hD
    dsimp only [addC, setC, rmC, selC, getC] at hH
    try dsimp only [putL, setL, evL, getL]
    refine HL_cons rfl ?_
    refine o_not rfl ?_
    try dsimp only [putL, setL, evL, getL]
    refine HL_cons rfl ?_
    refine o_move ?_
    try dsimp only [putL, setL, evL, getL]
    rcases Bool.eq_false_or_eq_true (!u22) with hb23 | hb23
    · replace H := iteT hb23 H
      refine HL_skip ?_ ?_
      · exact wantF (j := 3) (b := false) (t := 9) (c := !u22) rfl rfl rfl rfl hb23
      try dsimp only [putL, setL, evL, getL]
      refine HL_skip ?_ ?_
      · exact wantF (j := 3) (b := false) (t := 9) (c := !u22) rfl rfl rfl rfl hb23
      try dsimp only [putL, setL, evL, getL]
      refine HL_skip ?_ ?_
      · exact wantF (j := 3) (b := false) (t := 9) (c := !u22) rfl rfl rfl rfl hb23
      try dsimp only [putL, setL, evL, getL]
      refine HL_cons rfl ?_
      refine o_pickT rfl hb23 ?_
      try dsimp only [putL, setL, evL, getL]
      refine HL_nil ?_
      exact hK17 _ _ ⟨true, H, rfl, hH⟩
    · replace H := iteF hb23 H
      refine HL_want ?_ ?_
      · exact wantT (j := 3) (b := false) (t := 9) (c := !u22) rfl rfl rfl rfl hb23
      refine o_move ?_
      try dsimp only [putL, setL, evL, getL]
      obtain ⟨u24, hu24, H⟩ := headE H
      refine HL_want ?_ ?_
      · exact wantT (j := 3) (b := false) (t := 9) (c := !u22) rfl rfl rfl rfl hb23
      refine o_call (args := #[.int .i64 p1, .int .i64 1, .int .i64 8]) Try.func31 rfl rfl rfl (spec_l1In.ok sb s22 no p1 1 8 (Hp.own hH.bs) _ hu24) ?_
      rintro _ s24 ⟨rfl, hD⟩
      replace hH := hH.back0 hD (Up.refl _ _ _)
      clear hD
      dsimp only [addC, setC, rmC, selC, getC] at hH
      try dsimp only [putL, setL, evL, getL]
      refine HL_want ?_ ?_
      · exact wantT (j := 3) (b := false) (t := 9) (c := !u22) rfl rfl rfl rfl hb23
      refine o_not rfl ?_
      try dsimp only [putL, setL, evL, getL]
      refine HL_cons rfl ?_
      refine o_pickF rfl hb23 ?_
      try dsimp only [putL, setL, evL, getL]
      refine HL_nil ?_
      exact hK17 _ _ ⟨!u24, H, rfl, hH⟩
  · rintro l' s25 ⟨x21, H, hl, hH⟩
    generalize getL l' 6 = j6, getL l' 7 = j7, getL l' 8 = j8, getL l' 9 = j9, getL l' 10 = j10, getL l' 11 = j11, getL l' 12 = j12 at hl
    subst hl
    replace H := hG17 _ H
    try dsimp only at H
    rcases Bool.eq_false_or_eq_true x21 with hb26 | hb26
    · replace H := iteT hb26 H
      refine HT_true (congrArg Value.bool hb26) ?_
      refine HT_seq_k ?_
      intro K27 hK27
      refine HT_region ?_
      refine HL_cons rfl ?_
      refine o_build (pl := [(0, 1), (1, 1), (2, 1), (3, 1), (4, 1)]) (cs := #[.int .i64 0, .int .i64 0, .slice none 0 0, .int .i64 0, .int .i64 0]) Try.underlying27 tI27 (by kernel_rfl) (by kernel_rfl) rfl ?_
      try dsimp only [putL, setL, evL, getL]
      refine HL_cons rfl ?_
      refine o_stvH (vs := [.int .i64 0, .int .i64 0, .slice none 0 0, .int .i64 0, .int .i64 0]) (us' := [.int .i64 0, .int .i64 0, .slice none 0 0, .int .i64 0, .int .i64 0]) hH 0 rfl rfl rfl rfl rfl tI27 rfl (List.cons_ne_nil _ _) rfl rfl rfl ?_
      intro s28 hH'
      replace hH : Hp sb s F0 s28 [Ck.ov b2 [.int .i64 0, .int .i64 0, .slice none 0 0, .int .i64 0, .int .i64 0] 27] := hH'
      clear hH'
      try dsimp only [putL, setL, evL, getL]
      refine HL_cons rfl ?_
      refine o_assign ?_
      try dsimp only [putL, setL, evL, getL]
      refine HL_nil ?_
      refine hK27 _ _ ?_
      refine HT_ret ?_
      obtain rfl := Option.some.inj (show some _ = some r from H)
      exact hQr _ _ [.agg #[.int .i64 0, .int .i64 0, .slice none 0 0, .int .i64 0, .int .i64 0], .bool false] ⟨ResV.cells rfl Try.underlying27 rfl tI27 (hH.var 0 rfl) rfl, rfl, trivial⟩ ⟨none, 0, rfl, (hH.nil (K := KI) OI 3).sel [1] (by decide)⟩
    · replace H := iteF hb26 H
      refine HT_false (congrArg Value.bool hb26) ?_
      refine HT_skip ?_
      refine hK16 _ _ ?_
      refine HT_seq_k ?_
      intro K29 hK29
      refine HT_region ?_
      refine HL_cons rfl ?_
      refine o_move ?_
      try dsimp only [putL, setL, evL, getL]
      refine HL_cons rfl ?_
      refine o_move ?_
      try dsimp only [putL, setL, evL, getL]
      obtain ⟨u30, hu30, H⟩ := headE H
      refine HL_cons rfl ?_
      refine o_call (args := #[.int .i64 p0, .int .i64 p1]) Try.func43 rfl rfl rfl (spec_l16New.ok sb s25 no p0 p1 (Hp.own hH.bs) _ hu30) ?_
      rintro _ s30 ⟨A31, c31, rfl, hD⟩
      replace hH := hH.back0 hD (Up.refl _ _ _)
      clear hD
      dsimp only [addC, setC, rmC, selC, getC] at hH
      try dsimp only [putL, setL, evL, getL]
      refine HL_cons rfl ?_
      refine o_stvH (vs := [.int .i64 u30.1, .int .i64 u30.2.1, .slice A31 u30.2.2.1.length c31, .int .i64 u30.2.2.2.1, .int .i64 u30.2.2.2.2]) (us' := [.int .i64 u30.1, .int .i64 u30.2.1, .slice A31 u30.2.2.1.length c31, .int .i64 u30.2.2.2.1, .int .i64 u30.2.2.2.2]) hH 0 rfl rfl rfl rfl rfl tI27 rfl (List.cons_ne_nil _ _) rfl rfl rfl ?_
      intro s32 hH'
      replace hH : Hp sb s F0 s32 [Ck.ov b2 [.int .i64 u30.1, .int .i64 u30.2.1, .slice A31 u30.2.2.1.length c31, .int .i64 u30.2.2.2.1, .int .i64 u30.2.2.2.2] 27, Ck.ol OI 3 A31 c31 u30.2.2.1] := hH'
      clear hH'
      try dsimp only [putL, setL, evL, getL]
      refine HL_cons rfl ?_
      refine o_assign ?_
      try dsimp only [putL, setL, evL, getL]
      refine HL_nil ?_
      refine hK29 _ _ ?_
      refine HT_ret ?_
      obtain rfl := Option.some.inj (show some _ = some r from H)
      exact hQr _ _ [.agg #[.int .i64 u30.1, .int .i64 u30.2.1, .slice A31 u30.2.2.1.length c31, .int .i64 u30.2.2.2.1, .int .i64 u30.2.2.2.2], .bool true] ⟨ResV.cells rfl Try.underlying27 rfl tI27 (hH.var 0 rfl) rfl, rfl, trivial⟩ ⟨A31, c31, rfl, hH.sel [1] (by decide)⟩
def impl_inRange.f (p0 : Int) (p1 : Int) (p2 : Int) : Option Bool := if (decide (p1 ≤ p0)) = true then (some (decide (p0 ≤ p2))) else (some false)
def impl_inRange.post (sb s : St) (F0 : Fp) (r : Bool) : Value → St → Prop := fun v s' => v = .bool r ∧ Hp sb s F0 s' []
set_option maxRecDepth 100000 in
set_option maxHeartbeats 4000000 in
theorem impl_inRange.ok (sb s : St) (F0 : Fp) (p0 : Int) (p1 : Int) (p2 : Int) (hH : Hp sb s F0 s []) (r : Bool) (H : impl_inRange.f p0 p1 p2 = some r) : GCall Try.prog 34 #[.int .i64 p0, .int .i64 p1, .int .i64 p2] s (impl_inRange.post sb s F0 r) := by
  refine GCall_ofk [.tmp 6] [.int .i64 p0, .int .i64 p1, .int .i64 p2, undef, undef, undef, undef, undef, undef, undef, undef, undef, undef, undef, undef] Try.func34 rfl rfl rfl ?_
  intro w Q hQr hQn hQp
  replace H := topE H
  unfold impl_inRange.f at H
  refine HT_seq_k ?_
  intro K1 hK1
  refine HT_region ?_
  refine HL_cons rfl ?_
  refine o_assign ?_
  try dsimp only [putL, setL, evL, getL]
  refine HL_nil ?_
  refine hK1 _ _ ?_
  refine HT_seq_k ?_
  intro K2 hK2
  refine HT_region ?_
  refine HL_cons rfl ?_
  refine o_move ?_
  try dsimp only [putL, setL, evL, getL]
  refine HL_cons rfl ?_
  refine o_move ?_
  try dsimp only [putL, setL, evL, getL]
  refine HL_cons rfl ?_
  refine o_bin rfl rfl rfl ?_
  try dsimp only [putL, setL, evL, getL]
  refine HL_cons rfl ?_
  refine o_move ?_
  try dsimp only [putL, setL, evL, getL]
  rcases Bool.eq_false_or_eq_true (decide (p1 ≤ p0)) with hb3 | hb3
  · replace H := iteT hb3 H
    refine HL_want ?_ ?_
    · exact wantT (j := 3) (b := true) (t := 10) (c := decide (p1 ≤ p0)) rfl rfl rfl rfl hb3
    refine o_move ?_
    try dsimp only [putL, setL, evL, getL]
    refine HL_want ?_ ?_
    · exact wantT (j := 3) (b := true) (t := 10) (c := decide (p1 ≤ p0)) rfl rfl rfl rfl hb3
    refine o_move ?_
    try dsimp only [putL, setL, evL, getL]
    refine HL_want ?_ ?_
    · exact wantT (j := 3) (b := true) (t := 10) (c := decide (p1 ≤ p0)) rfl rfl rfl rfl hb3
    refine o_bin rfl rfl rfl ?_
    try dsimp only [putL, setL, evL, getL]
    refine HL_cons rfl ?_
    refine o_pickT rfl hb3 ?_
    try dsimp only [putL, setL, evL, getL]
    refine HL_cons rfl ?_
    refine o_assign ?_
    try dsimp only [putL, setL, evL, getL]
    refine HL_nil ?_
    refine hK2 _ _ ?_
    refine HT_ret ?_
    obtain rfl := Option.some.inj (show some _ = some r from H)
    exact hQr _ _ [.bool (decide (p0 ≤ p2))] ⟨rfl, trivial⟩ ⟨rfl, hH⟩
  · replace H := iteF hb3 H
    refine HL_skip ?_ ?_
    · exact wantF (j := 3) (b := true) (t := 10) (c := decide (p1 ≤ p0)) rfl rfl rfl rfl hb3
    try dsimp only [putL, setL, evL, getL]
    refine HL_skip ?_ ?_
    · exact wantF (j := 3) (b := true) (t := 10) (c := decide (p1 ≤ p0)) rfl rfl rfl rfl hb3
    try dsimp only [putL, setL, evL, getL]
    refine HL_skip ?_ ?_
    · exact wantF (j := 3) (b := true) (t := 10) (c := decide (p1 ≤ p0)) rfl rfl rfl rfl hb3
    try dsimp only [putL, setL, evL, getL]
    refine HL_cons rfl ?_
    refine o_pickF rfl hb3 ?_
    try dsimp only [putL, setL, evL, getL]
    refine HL_cons rfl ?_
    refine o_assign ?_
    try dsimp only [putL, setL, evL, getL]
    refine HL_nil ?_
    refine hK2 _ _ ?_
    refine HT_ret ?_
    obtain rfl := Option.some.inj (show some _ = some r from H)
    exact hQr _ _ [.bool false] ⟨rfl, trivial⟩ ⟨rfl, hH⟩
def bits_Mul32.f (p0 : Int) (p1 : Int) : Option (Int × Int) := (shrK? .u64 (IntKind.u64.wrap ((IntKind.u64.wrap p0) * (IntKind.u64.wrap p1))) 32).bind fun u4 => some ((IntKind.u32.wrap u4), (IntKind.u32.wrap (IntKind.u64.wrap ((IntKind.u64.wrap p0) * (IntKind.u64.wrap p1)))))
def bits_Mul32.post (sb s : St) (F0 : Fp) (r : Int × Int) : Value → St → Prop := fun v s' => v = .tuple #[.int .u32 r.1, .int .u32 r.2] ∧ Hp sb s F0 s' []
set_option maxRecDepth 100000 in
set_option maxHeartbeats 4000000 in
theorem bits_Mul32.ok (sb s : St) (F0 : Fp) (p0 : Int) (p1 : Int) (hH : Hp sb s F0 s []) (r : Int × Int) (H : bits_Mul32.f p0 p1 = some r) : GCall Try.prog 66 #[.int .u32 p0, .int .u32 p1] s (bits_Mul32.post sb s F0 r) := by
  refine GCall_ofk [.tmp 4, .tmp 5] [.int .u32 p0, .int .u32 p1, undef, undef, undef, undef, undef, undef, undef, undef, undef, undef, undef, undef, undef, undef, undef] Try.func66 rfl rfl rfl ?_
  intro w Q hQr hQn hQp
  replace H := topE H
  unfold bits_Mul32.f at H
  refine HT_seq_k ?_
  intro K1 hK1
  refine HT_region ?_
  refine HL_cons rfl ?_
  refine o_assign ?_
  try dsimp only [putL, setL, evL, getL]
  refine HL_cons rfl ?_
  refine o_assign ?_
  try dsimp only [putL, setL, evL, getL]
  refine HL_nil ?_
  refine hK1 _ _ ?_
  refine HT_seq_k ?_
  intro K2 hK2
  refine HT_region ?_
  refine HL_cons rfl ?_
  refine o_move ?_
  try dsimp only [putL, setL, evL, getL]
  refine HL_cons rfl ?_
  refine o_conv rfl Try.underlying71 Try.underlying74 ?_
  try dsimp only [putL, setL, evL, getL]
  refine HL_cons rfl ?_
  refine o_move ?_
  try dsimp only [putL, setL, evL, getL]
  refine HL_cons rfl ?_
  refine o_conv rfl Try.underlying71 Try.underlying74 ?_
  try dsimp only [putL, setL, evL, getL]
  refine HL_cons rfl ?_
  refine o_bin rfl rfl rfl ?_
  try dsimp only [putL, setL, evL, getL]
  refine HL_cons rfl ?_
  refine o_assign ?_
  try dsimp only [putL, setL, evL, getL]
  refine HL_nil ?_
  refine hK2 _ _ ?_
  refine HT_seq_k ?_
  intro K3 hK3
  refine HT_region ?_
  refine HL_cons rfl ?_
  refine o_move ?_
  try dsimp only [putL, setL, evL, getL]
  obtain ⟨u4, hu4, H⟩ := headE H
  refine HL_cons rfl ?_
  refine o_shrK rfl rfl hu4 ?_
  try dsimp only [putL, setL, evL, getL]
  refine HL_cons rfl ?_
  refine o_conv rfl Try.underlying74 Try.underlying71 ?_
  try dsimp only [putL, setL, evL, getL]
  refine HL_cons rfl ?_
  refine o_move ?_
  try dsimp only [putL, setL, evL, getL]
  refine HL_cons rfl ?_
  refine o_conv rfl Try.underlying74 Try.underlying71 ?_
  try dsimp only [putL, setL, evL, getL]
  refine HL_cons rfl ?_
  refine o_assign ?_
  try dsimp only [putL, setL, evL, getL]
  refine HL_cons rfl ?_
  refine o_assign ?_
  try dsimp only [putL, setL, evL, getL]
  refine HL_nil ?_
  refine hK3 _ _ ?_
  refine HT_ret ?_
  obtain rfl := Option.some.inj (show some _ = some r from H)
  exact hQr _ _ [.int .u32 (IntKind.u32.wrap u4), .int .u32 (IntKind.u32.wrap (IntKind.u64.wrap ((IntKind.u64.wrap p0) * (IntKind.u64.wrap p1))))] ⟨rfl, rfl, trivial⟩ ⟨rfl, hH⟩
def bits_Mul64.f (p0 : Int) (p1 : Int) : Option (Int × Int) := (shrK? .u64 p0 32).bind fun u4 => (shrK? .u64 p1 32).bind fun u7 => (shrK? .u64 (IntKind.u64.wrap ((bits .and .u64 p0 4294967295) * (bits .and .u64 p1 4294967295))) 32).bind fun u10 => (shrK? .u64 (IntKind.u64.wrap ((IntKind.u64.wrap (u4 * (bits .and .u64 p1 4294967295))) + u10)) 32).bind fun u13 => (shrK? .u64 (IntKind.u64.wrap ((bits .and .u64 (IntKind.u64.wrap ((IntKind.u64.wrap (u4 * (bits .and .u64 p1 4294967295))) + u10)) 4294967295) + (IntKind.u64.wrap ((bits .and .u64 p0 4294967295) * u7)))) 32).bind fun u16 => some ((IntKind.u64.wrap ((IntKind.u64.wrap ((IntKind.u64.wrap (u4 * u7)) + u13)) + u16)), (IntKind.u64.wrap (p0 * p1)))
def bits_Mul64.post (sb s : St) (F0 : Fp) (r : Int × Int) : Value → St → Prop := fun v s' => v = .tuple #[.int .u64 r.1, .int .u64 r.2] ∧ Hp sb s F0 s' []
set_option maxRecDepth 100000 in
set_option maxHeartbeats 4000000 in
theorem bits_Mul64.ok (sb s : St) (F0 : Fp) (p0 : Int) (p1 : Int) (hH : Hp sb s F0 s []) (r : Int × Int) (H : bits_Mul64.f p0 p1 = some r) : GCall Try.prog 67 #[.int .u64 p0, .int .u64 p1] s (bits_Mul64.post sb s F0 r) := by
  refine GCall_ofk [.tmp 4, .tmp 5] [.int .u64 p0, .int .u64 p1, undef, undef, undef, undef, undef, undef, undef, undef, undef, undef, undef, undef, undef, undef, undef, undef, undef, undef, undef, undef, undef, undef, undef, undef, undef, undef, undef, undef, undef, undef, undef, undef, undef, undef, undef, undef, undef, undef, undef, undef, undef, undef, undef, undef, undef, undef, undef, undef, undef] Try.func67 rfl rfl rfl ?_
  intro w Q hQr hQn hQp
  replace H := topE H
  unfold bits_Mul64.f at H
  refine HT_seq_k ?_
  intro K1 hK1
  refine HT_region ?_
  refine HL_cons rfl ?_
  refine o_assign ?_
  try dsimp only [putL, setL, evL, getL]
  refine HL_cons rfl ?_
  refine o_assign ?_
  try dsimp only [putL, setL, evL, getL]
  refine HL_nil ?_
  refine hK1 _ _ ?_
  refine HT_seq_k ?_
  intro K2 hK2
  refine HT_region ?_
  refine HL_cons rfl ?_
  refine o_move ?_
  try dsimp only [putL, setL, evL, getL]
  refine HL_cons rfl ?_
  refine o_bin rfl rfl rfl ?_
  try dsimp only [putL, setL, evL, getL]
  refine HL_cons rfl ?_
  refine o_assign ?_
  try dsimp only [putL, setL, evL, getL]
  refine HL_nil ?_
  refine hK2 _ _ ?_
  refine HT_seq_k ?_
  intro K3 hK3
  refine HT_region ?_
  refine HL_cons rfl ?_
  refine o_move ?_
  try dsimp only [putL, setL, evL, getL]
  obtain ⟨u4, hu4, H⟩ := headE H
  refine HL_cons rfl ?_
  refine o_shrK rfl rfl hu4 ?_
  try dsimp only [putL, setL, evL, getL]
  refine HL_cons rfl ?_
  refine o_assign ?_
  try dsimp only [putL, setL, evL, getL]
  refine HL_nil ?_
  refine hK3 _ _ ?_
  refine HT_seq_k ?_
  intro K5 hK5
  refine HT_region ?_
  refine HL_cons rfl ?_
  refine o_move ?_
  try dsimp only [putL, setL, evL, getL]
  refine HL_cons rfl ?_
  refine o_bin rfl rfl rfl ?_
  try dsimp only [putL, setL, evL, getL]
  refine HL_cons rfl ?_
  refine o_assign ?_
  try dsimp only [putL, setL, evL, getL]
  refine HL_nil ?_
  refine hK5 _ _ ?_
  refine HT_seq_k ?_
  intro K6 hK6
  refine HT_region ?_
  refine HL_cons rfl ?_
  refine o_move ?_
  try dsimp only [putL, setL, evL, getL]
  obtain ⟨u7, hu7, H⟩ := headE H
  refine HL_cons rfl ?_
  refine o_shrK rfl rfl hu7 ?_
  try dsimp only [putL, setL, evL, getL]
  refine HL_cons rfl ?_
  refine o_assign ?_
  try dsimp only [putL, setL, evL, getL]
  refine HL_nil ?_
  refine hK6 _ _ ?_
  refine HT_seq_k ?_
  intro K8 hK8
  refine HT_region ?_
  refine HL_cons rfl ?_
  refine o_move ?_
  try dsimp only [putL, setL, evL, getL]
  refine HL_cons rfl ?_
  refine o_move ?_
  try dsimp only [putL, setL, evL, getL]
  refine HL_cons rfl ?_
  refine o_bin rfl rfl rfl ?_
  try dsimp only [putL, setL, evL, getL]
  refine HL_cons rfl ?_
  refine o_assign ?_
  try dsimp only [putL, setL, evL, getL]
  refine HL_nil ?_
  refine hK8 _ _ ?_
  refine HT_seq_k ?_
  intro K9 hK9
  refine HT_region ?_
  refine HL_cons rfl ?_
  refine o_move ?_
  try dsimp only [putL, setL, evL, getL]
  refine HL_cons rfl ?_
  refine o_move ?_
  try dsimp only [putL, setL, evL, getL]
  refine HL_cons rfl ?_
  refine o_bin rfl rfl rfl ?_
  try dsimp only [putL, setL, evL, getL]
  refine HL_cons rfl ?_
  refine o_move ?_
  try dsimp only [putL, setL, evL, getL]
  obtain ⟨u10, hu10, H⟩ := headE H
  refine HL_cons rfl ?_
  refine o_shrK rfl rfl hu10 ?_
  try dsimp only [putL, setL, evL, getL]
  refine HL_cons rfl ?_
  refine o_bin rfl rfl rfl ?_
  try dsimp only [putL, setL, evL, getL]
  refine HL_cons rfl ?_
  refine o_assign ?_
  try dsimp only [putL, setL, evL, getL]
  refine HL_nil ?_
  refine hK9 _ _ ?_
  refine HT_seq_k ?_
  intro K11 hK11
  refine HT_region ?_
  refine HL_cons rfl ?_
  refine o_move ?_
  try dsimp only [putL, setL, evL, getL]
  refine HL_cons rfl ?_
  refine o_bin rfl rfl rfl ?_
  try dsimp only [putL, setL, evL, getL]
  refine HL_cons rfl ?_
  refine o_assign ?_
  try dsimp only [putL, setL, evL, getL]
  refine HL_nil ?_
  refine hK11 _ _ ?_
  refine HT_seq_k ?_
  intro K12 hK12
  refine HT_region ?_
  refine HL_cons rfl ?_
  refine o_move ?_
  try dsimp only [putL, setL, evL, getL]
  obtain ⟨u13, hu13, H⟩ := headE H
  refine HL_cons rfl ?_
  refine o_shrK rfl rfl hu13 ?_
  try dsimp only [putL, setL, evL, getL]
  refine HL_cons rfl ?_
  refine o_assign ?_
  try dsimp only [putL, setL, evL, getL]
  refine HL_nil ?_
  refine hK12 _ _ ?_
  refine HT_seq_k ?_
  intro K14 hK14
  refine HT_region ?_
  refine HL_cons rfl ?_
  refine o_move ?_
  try dsimp only [putL, setL, evL, getL]
  refine HL_cons rfl ?_
  refine o_move ?_
  try dsimp only [putL, setL, evL, getL]
  refine HL_cons rfl ?_
  refine o_move ?_
  try dsimp only [putL, setL, evL, getL]
  refine HL_cons rfl ?_
  refine o_bin rfl rfl rfl ?_
  try dsimp only [putL, setL, evL, getL]
  refine HL_cons rfl ?_
  refine o_bin rfl rfl rfl ?_
  try dsimp only [putL, setL, evL, getL]
  refine HL_cons rfl ?_
  refine o_assign ?_
  try dsimp only [putL, setL, evL, getL]
  refine HL_nil ?_
  refine hK14 _ _ ?_
  refine HT_seq_k ?_
  intro K15 hK15
  refine HT_region ?_
  refine HL_cons rfl ?_
  refine o_move ?_
  try dsimp only [putL, setL, evL, getL]
  refine HL_cons rfl ?_
  refine o_move ?_
  try dsimp only [putL, setL, evL, getL]
  refine HL_cons rfl ?_
  refine o_bin rfl rfl rfl ?_
  try dsimp only [putL, setL, evL, getL]
  refine HL_cons rfl ?_
  refine o_move ?_
  try dsimp only [putL, setL, evL, getL]
  refine HL_cons rfl ?_
  refine o_bin rfl rfl rfl ?_
  try dsimp only [putL, setL, evL, getL]
  refine HL_cons rfl ?_
  refine o_move ?_
  try dsimp only [putL, setL, evL, getL]
  obtain ⟨u16, hu16, H⟩ := headE H
  refine HL_cons rfl ?_
  refine o_shrK rfl rfl hu16 ?_
  try dsimp only [putL, setL, evL, getL]
  refine HL_cons rfl ?_
  refine o_bin rfl rfl rfl ?_
  try dsimp only [putL, setL, evL, getL]
  refine HL_cons rfl ?_
  refine o_assign ?_
  try dsimp only [putL, setL, evL, getL]
  refine HL_nil ?_
  refine hK15 _ _ ?_
  refine HT_seq_k ?_
  intro K17 hK17
  refine HT_region ?_
  refine HL_cons rfl ?_
  refine o_move ?_
  try dsimp only [putL, setL, evL, getL]
  refine HL_cons rfl ?_
  refine o_move ?_
  try dsimp only [putL, setL, evL, getL]
  refine HL_cons rfl ?_
  refine o_bin rfl rfl rfl ?_
  try dsimp only [putL, setL, evL, getL]
  refine HL_cons rfl ?_
  refine o_assign ?_
  try dsimp only [putL, setL, evL, getL]
  refine HL_nil ?_
  refine hK17 _ _ ?_
  refine HT_ret ?_
  obtain rfl := Option.some.inj (show some _ = some r from H)
  exact hQr _ _ [.int .u64 (IntKind.u64.wrap ((IntKind.u64.wrap ((IntKind.u64.wrap (u4 * u7)) + u13)) + u16)), .int .u64 (IntKind.u64.wrap (p0 * p1))] ⟨rfl, rfl, trivial⟩ ⟨rfl, hH⟩
def bits_Mul.f (p0 : Int) (p1 : Int) : Option (Int × Int) := if false = true then ((bits_Mul32.f (IntKind.u32.wrap p0) (IntKind.u32.wrap p1)).bind fun u5 => some ((IntKind.u64.wrap u5.1), (IntKind.u64.wrap u5.2))) else ((bits_Mul64.f p0 p1).bind fun u8 => some (u8.1, u8.2))
def bits_Mul.post (sb s : St) (F0 : Fp) (r : Int × Int) : Value → St → Prop := fun v s' => v = .tuple #[.int .u64 r.1, .int .u64 r.2] ∧ Hp sb s F0 s' []
set_option maxRecDepth 100000 in
set_option maxHeartbeats 4000000 in
theorem bits_Mul.ok (sb s : St) (F0 : Fp) (p0 : Int) (p1 : Int) (hH : Hp sb s F0 s []) (r : Int × Int) (H : bits_Mul.f p0 p1 = some r) : GCall Try.prog 65 #[.int .u64 p0, .int .u64 p1] s (bits_Mul.post sb s F0 r) := by
  refine GCall_ofk [.tmp 4, .tmp 5] [.int .u64 p0, .int .u64 p1, undef, undef, undef, undef, undef, undef, undef, undef, undef, undef, undef, undef, undef, undef, undef, undef, undef, undef, undef, undef, undef, undef, undef, undef, undef, undef, undef, undef] Try.func65 rfl rfl rfl ?_
  intro w Q hQr hQn hQp
  replace H := topE H
  unfold bits_Mul.f at H
  refine HT_seq_k ?_
  intro K1 hK1
  refine HT_region ?_
  refine HL_cons rfl ?_
  refine o_assign ?_
  try dsimp only [putL, setL, evL, getL]
  refine HL_cons rfl ?_
  refine o_assign ?_
  try dsimp only [putL, setL, evL, getL]
  refine HL_nil ?_
  refine hK1 _ _ ?_
  refine HT_seq_k ?_
  intro K2 hK2
  rcases Bool.eq_false_or_eq_true false with hb3 | hb3
  · replace H := iteT hb3 H
    refine HT_true (congrArg Value.bool hb3) ?_
    refine HT_seq_k ?_
    intro K4 hK4
    refine HT_region ?_
    refine HL_cons rfl ?_
    refine o_move ?_
    try dsimp only [putL, setL, evL, getL]
    refine HL_cons rfl ?_
    refine o_conv rfl Try.underlying68 Try.underlying71 ?_
    try dsimp only [putL, setL, evL, getL]
    refine HL_cons rfl ?_
    refine o_move ?_
    try dsimp only [putL, setL, evL, getL]
    refine HL_cons rfl ?_
    refine o_conv rfl Try.underlying68 Try.underlying71 ?_
    try dsimp only [putL, setL, evL, getL]
    obtain ⟨u5, hu5, H⟩ := headE H
    refine HL_cons rfl ?_
    refine o_call (args := #[.int .u32 (IntKind.u32.wrap p0), .int .u32 (IntKind.u32.wrap p1)]) Try.func66 rfl rfl rfl (bits_Mul32.ok sb s no (IntKind.u32.wrap p0) (IntKind.u32.wrap p1) (Hp.own hH.bs) _ hu5) ?_
    rintro _ s5 ⟨rfl, hD⟩
    replace hH := hH.back0 hD (Up.refl _ _ _)
    clear hD
    dsimp only [addC, setC, rmC, selC, getC] at hH
    try dsimp only [putL, setL, evL, getL]
    refine HL_cons rfl ?_
    refine o_move ?_
    try dsimp only [putL, setL, evL, getL]
    refine HL_cons rfl ?_
    refine o_extract rfl rfl ?_
    try dsimp only [putL, setL, evL, getL]
    refine HL_cons rfl ?_
    refine o_extract rfl rfl ?_
    try dsimp only [putL, setL, evL, getL]
    refine HL_cons rfl ?_
    refine o_assign ?_
    try dsimp only [putL, setL, evL, getL]
    refine HL_cons rfl ?_
    refine o_assign ?_
    try dsimp only [putL, setL, evL, getL]
    refine HL_nil ?_
    refine hK4 _ _ ?_
    refine HT_seq_k ?_
    intro K6 hK6
    refine HT_region ?_
    refine HL_cons rfl ?_
    refine o_move ?_
    try dsimp only [putL, setL, evL, getL]
    refine HL_cons rfl ?_
    refine o_conv rfl Try.underlying71 Try.underlying68 ?_
    try dsimp only [putL, setL, evL, getL]
    refine HL_cons rfl ?_
    refine o_move ?_
    try dsimp only [putL, setL, evL, getL]
    refine HL_cons rfl ?_
    refine o_conv rfl Try.underlying71 Try.underlying68 ?_
    try dsimp only [putL, setL, evL, getL]
    refine HL_cons rfl ?_
    refine o_assign ?_
    try dsimp only [putL, setL, evL, getL]
    refine HL_cons rfl ?_
    refine o_assign ?_
    try dsimp only [putL, setL, evL, getL]
    refine HL_nil ?_
    refine hK6 _ _ ?_
    refine HT_ret ?_
    obtain rfl := Option.some.inj (show some _ = some r from H)
    exact hQr _ _ [.int .u64 (IntKind.u64.wrap u5.1), .int .u64 (IntKind.u64.wrap u5.2)] ⟨rfl, rfl, trivial⟩ ⟨rfl, hH⟩
  · replace H := iteF hb3 H
    refine HT_false (congrArg Value.bool hb3) ?_
    refine HT_skip ?_
    refine hK2 _ _ ?_
    refine HT_seq_k ?_
    intro K7 hK7
    refine HT_region ?_
    refine HL_cons rfl ?_
    refine o_move ?_
    try dsimp only [putL, setL, evL, getL]
    refine HL_cons rfl ?_
    refine o_move ?_
    try dsimp only [putL, setL, evL, getL]
    obtain ⟨u8, hu8, H⟩ := headE H
    refine HL_cons rfl ?_
    refine o_call (args := #[.int .u64 p0, .int .u64 p1]) Try.func67 rfl rfl rfl (bits_Mul64.ok sb s no p0 p1 (Hp.own hH.bs) _ hu8) ?_
    rintro _ s8 ⟨rfl, hD⟩
    replace hH := hH.back0 hD (Up.refl _ _ _)
    clear hD
    dsimp only [addC, setC, rmC, selC, getC] at hH
    try dsimp only [putL, setL, evL, getL]
    refine HL_cons rfl ?_
    refine o_move ?_
    try dsimp only [putL, setL, evL, getL]
    refine HL_cons rfl ?_
    refine o_extract rfl rfl ?_
    try dsimp only [putL, setL, evL, getL]
    refine HL_cons rfl ?_
    refine o_extract rfl rfl ?_
    try dsimp only [putL, setL, evL, getL]
    refine HL_cons rfl ?_
    refine o_assign ?_
    try dsimp only [putL, setL, evL, getL]
    refine HL_cons rfl ?_
    refine o_assign ?_
    try dsimp only [putL, setL, evL, getL]
    refine HL_nil ?_
    refine hK7 _ _ ?_
    refine HT_seq_k ?_
    intro K9 hK9
    refine HT_region ?_
    refine HL_cons rfl ?_
    refine o_move ?_
    try dsimp only [putL, setL, evL, getL]
    refine HL_cons rfl ?_
    refine o_move ?_
    try dsimp only [putL, setL, evL, getL]
    refine HL_cons rfl ?_
    refine o_assign ?_
    try dsimp only [putL, setL, evL, getL]
    refine HL_cons rfl ?_
    refine o_assign ?_
    try dsimp only [putL, setL, evL, getL]
    refine HL_nil ?_
    refine hK9 _ _ ?_
    refine HT_ret ?_
    obtain rfl := Option.some.inj (show some _ = some r from H)
    exact hQr _ _ [.int .u64 u8.1, .int .u64 u8.2] ⟨rfl, rfl, trivial⟩ ⟨rfl, hH⟩
def slices_Repeat_int_int.l1 (x25 : List (Int)) : Nat → (List (Int)) → Int → Option (List (Int))
  | 0, _, _ => none
  | kf + 1, x59, x60 => if (decide (x60 < (x25.length : Int))) = true then ((cut? x59 x60 (x59.length : Int)).bind fun x73 => (cut? x59 0 x60).bind fun x74 => (some (cpy x59 (Int.toNat x60) x73.length x74)).bind fun x75 => slices_Repeat_int_int.l1 x25 kf x75 (IntKind.i64.wrap (x60 + ((min x74.length x73.length : Nat) : Int)))) else (some x59)
def slices_Repeat_int_int.f (p0 : List (Int)) (p1 : Int) : Option (List (Int)) := if (decide (p1 < 0)) = true then none else ((bits_Mul.f (IntKind.u64.wrap (p0.length : Int)) (IntKind.u64.wrap p1)).bind fun u9 => (if (decide (u9.1 > 0)) = true then (some true) else (some (decide (u9.2 > 9223372036854775807)))).bind fun (o : Bool) => match o with | x20 => (if x20 = true then none else ((mk? 17592186044416 0 (IntKind.i64.wrap u9.2)).bind fun x25 => (some (cpy x25 (Int.toNat 0) x25.length p0)).bind fun x27 => (slices_Repeat_int_int.l1 x25 ((((x25.length : Int)) - (((min p0.length x25.length : Nat) : Int))).toNat + 2) x27 ((min p0.length x25.length : Nat) : Int)).bind fun (o : (List (Int))) => match o with | x52 => (some x52))))
def slices_Repeat_int_int.post (sb s : St) (F0 : Fp) (r : (List (Int))) : Value → St → Prop := fun v s' => ∃ (A0 : Option Addr) (c0 : Nat), v = .slice A0 r.length c0 ∧ Hp sb s F0 s' [Ck.ol OI 3 A0 c0 r]
set_option maxRecDepth 100000 in
set_option maxHeartbeats 4000000 in
theorem slices_Repeat_int_int.ok (sb s : St) (F0 : Fp) (A0p : Option Addr) (c0p : Nat) (p0 : List (Int)) (p1 : Int) (HRp0 : Rd KI sb A0p c0p p0) (hH : Hp sb s F0 s []) (r : (List (Int))) (H : slices_Repeat_int_int.f p0 p1 = some r) : GCall Try.prog 59 #[.slice A0p p0.length c0p, .int .i64 p1] s (slices_Repeat_int_int.post sb s F0 r) := by
  refine GCall_ofk [.tmp 4] [.slice A0p p0.length c0p, .int .i64 p1, undef, undef, undef, undef, undef, undef, undef, undef, undef, undef, undef, undef, undef, undef, undef, undef, undef, undef, undef, undef, undef, undef, undef, undef, undef, undef, undef, undef, undef, undef, undef, undef, undef, undef, undef, undef, undef, undef, undef, undef, undef, undef, undef, undef, undef, undef] Try.func59 rfl rfl rfl ?_
  intro w Q hQr hQn hQp
  replace H := topE H
  unfold slices_Repeat_int_int.f at H
  refine HT_seq_k ?_
  intro K1 hK1
  refine HT_region ?_
  refine HL_cons rfl ?_
  refine o_assign ?_
  try dsimp only [putL, setL, evL, getL]
  refine HL_nil ?_
  refine hK1 _ _ ?_
  refine HT_seq_k ?_
  intro K5 hK5
  refine HT_seq_k ?_
  intro K6 hK6
  refine HT_region ?_
  refine HL_cons rfl ?_
  refine o_move ?_
  try dsimp only [putL, setL, evL, getL]
  refine HL_cons rfl ?_
  refine o_bin rfl rfl rfl ?_
  try dsimp only [putL, setL, evL, getL]
  refine HL_nil ?_
  refine hK6 _ _ ?_
  rcases Bool.eq_false_or_eq_true (decide (p1 < 0)) with hb7 | hb7
  · replace H := iteT hb7 H
    refine HT_true (congrArg Value.bool hb7) ?_
    cases H
  · replace H := iteF hb7 H
    refine HT_false (congrArg Value.bool hb7) ?_
    refine HT_skip ?_
    refine hK5 _ _ ?_
    refine HT_seq_k ?_
    intro K8 hK8
    refine HT_region ?_
    refine HL_cons rfl ?_
    refine o_move ?_
    try dsimp only [putL, setL, evL, getL]
    refine HL_cons rfl ?_
    refine o_len rfl Try.underlying22 ?_
    try dsimp only [putL, setL, evL, getL]
    refine HL_cons rfl ?_
    refine o_conv rfl Try.underlying3 Try.underlying68 ?_
    try dsimp only [putL, setL, evL, getL]
    refine HL_cons rfl ?_
    refine o_move ?_
    try dsimp only [putL, setL, evL, getL]
    refine HL_cons rfl ?_
    refine o_conv rfl Try.underlying3 Try.underlying68 ?_
    try dsimp only [putL, setL, evL, getL]
    obtain ⟨u9, hu9, H⟩ := headE H
    refine HL_cons rfl ?_
    refine o_call (args := #[.int .u64 (IntKind.u64.wrap (p0.length : Int)), .int .u64 (IntKind.u64.wrap p1)]) Try.func65 rfl rfl rfl (bits_Mul.ok sb s no (IntKind.u64.wrap (p0.length : Int)) (IntKind.u64.wrap p1) (Hp.own hH.bs) _ hu9) ?_
    rintro _ s9 ⟨rfl, hD⟩
    replace hH := hH.back0 hD (Up.refl _ _ _)
    clear hD
    dsimp only [addC, setC, rmC, selC, getC] at hH
    try dsimp only [putL, setL, evL, getL]
    refine HL_cons rfl ?_
    refine o_move ?_
    try dsimp only [putL, setL, evL, getL]
    refine HL_cons rfl ?_
    refine o_extract rfl rfl ?_
    try dsimp only [putL, setL, evL, getL]
    refine HL_cons rfl ?_
    refine o_extract rfl rfl ?_
    try dsimp only [putL, setL, evL, getL]
    refine HL_cons rfl ?_
    refine o_assign ?_
    try dsimp only [putL, setL, evL, getL]
    refine HL_cons rfl ?_
    refine o_assign ?_
    try dsimp only [putL, setL, evL, getL]
    refine HL_nil ?_
    refine hK8 _ _ ?_
    refine HT_seq_k ?_
    intro K17 hK17
    refine joinH H fun G18 hG18 H => ?_
    refine HT_joinK (fun l' s' => ∃ (x20 : Bool), G18 x20 = some r ∧ l' = [.slice A0p p0.length c0p, .int .i64 p1, undef, undef, .slice none 0 0, .int .u64 u9.1, .int .u64 u9.2, undef, undef, .int .i64 p1, .bool (decide (p1 < 0)), undef, .tuple #[.int .u64 u9.1, .int .u64 u9.2], .slice A0p p0.length c0p, .int .i64 (p0.length : Int), .int .u64 (IntKind.u64.wrap (p0.length : Int)), .int .i64 p1, .int .u64 (IntKind.u64.wrap p1), .tuple #[.int .u64 u9.1, .int .u64 u9.2], .int .u64 u9.1, .int .u64 u9.2, getL l' 21, getL l' 22, getL l' 23, getL l' 24, getL l' 25, .bool x20, undef, undef, undef, undef, undef, undef, undef, undef, undef, undef, undef, undef, undef, undef, undef, undef, undef, undef, undef, undef, undef] ∧ Hp sb s F0 s' []) ?_ ?_
    · intro K18 hK18
      refine HT_region ?_
      refine HL_cons rfl ?_
      refine o_move ?_
      try dsimp only [putL, setL, evL, getL]
      refine HL_cons rfl ?_
      refine o_bin rfl rfl rfl ?_
      try dsimp only [putL, setL, evL, getL]
      refine HL_cons rfl ?_
      refine o_move ?_
      try dsimp only [putL, setL, evL, getL]
      rcases Bool.eq_false_or_eq_true (decide (u9.1 > 0)) with hb21 | hb21
      · replace H := iteT hb21 H
        refine HL_skip ?_ ?_
        · exact wantF (j := 2) (b := false) (t := 23) (c := decide (u9.1 > 0)) rfl rfl rfl rfl hb21
        try dsimp only [putL, setL, evL, getL]
        refine HL_skip ?_ ?_
        · exact wantF (j := 2) (b := false) (t := 23) (c := decide (u9.1 > 0)) rfl rfl rfl rfl hb21
        try dsimp only [putL, setL, evL, getL]
        refine HL_cons rfl ?_
        refine o_pickT rfl hb21 ?_
        try dsimp only [putL, setL, evL, getL]
        refine HL_nil ?_
        exact hK18 _ _ ⟨true, H, rfl, hH⟩
      · replace H := iteF hb21 H
        refine HL_want ?_ ?_
        · exact wantT (j := 2) (b := false) (t := 23) (c := decide (u9.1 > 0)) rfl rfl rfl rfl hb21
        refine o_move ?_
        try dsimp only [putL, setL, evL, getL]
        refine HL_want ?_ ?_
        · exact wantT (j := 2) (b := false) (t := 23) (c := decide (u9.1 > 0)) rfl rfl rfl rfl hb21
        refine o_bin rfl rfl rfl ?_
        try dsimp only [putL, setL, evL, getL]
        refine HL_cons rfl ?_
        refine o_pickF rfl hb21 ?_
        try dsimp only [putL, setL, evL, getL]
        refine HL_nil ?_
        exact hK18 _ _ ⟨decide (u9.2 > 9223372036854775807), H, rfl, hH⟩
    · rintro l' s22 ⟨x20, H, hl, hH⟩
      generalize getL l' 21 = j21, getL l' 22 = j22, getL l' 23 = j23, getL l' 24 = j24, getL l' 25 = j25 at hl
      subst hl
      replace H := hG18 _ H
      try dsimp only at H
      rcases Bool.eq_false_or_eq_true x20 with hb23 | hb23
      · replace H := iteT hb23 H
        refine HT_true (congrArg Value.bool hb23) ?_
        cases H
      · replace H := iteF hb23 H
        refine HT_false (congrArg Value.bool hb23) ?_
        refine HT_skip ?_
        refine hK17 _ _ ?_
        refine HT_seq_k ?_
        intro K24 hK24
        refine HT_region ?_
        refine HL_cons rfl ?_
        refine o_move ?_
        try dsimp only [putL, setL, evL, getL]
        refine HL_cons rfl ?_
        refine o_conv rfl Try.underlying68 Try.underlying3 ?_
        try dsimp only [putL, setL, evL, getL]
        obtain ⟨x25, hx25, H⟩ := headE H
        refine HL_cons rfl ?_
        refine o_makeH (K := KI) (O := OI) (x0 := 0) hH rfl Try.underlying22 tI3 rfl (by decide) (by decide) (by decide) (Own0.fl fun _ => rfl) hx25 ?_
        intro A25 c25 s25 hH' hG
        replace hH : Hp sb s F0 s25 [Ck.ol OI 3 A25 c25 x25] := hH'
        clear hH' hG
        try dsimp only [putL, setL, evL, getL]
        refine HL_cons rfl ?_
        refine o_assign ?_
        try dsimp only [putL, setL, evL, getL]
        refine HL_nil ?_
        refine hK24 _ _ ?_
        refine HT_seq_k ?_
        intro K26 hK26
        refine HT_region ?_
        refine HL_cons rfl ?_
        refine o_move ?_
        try dsimp only [putL, setL, evL, getL]
        refine HL_cons rfl ?_
        refine o_move ?_
        try dsimp only [putL, setL, evL, getL]
        obtain ⟨x27, hx27, H⟩ := headE H
        refine HL_cons rfl ?_
        refine o_copyF (K := KI) (lo := Int.toNat 0) (n := x25.length) (ys := p0) hH 0 rfl rfl rfl rfl Try.underlying22 tI3 (.inl ⟨rfl, rfl⟩) (Nat.le_of_eq (Nat.zero_add _)) (HRp0.mono hH.bs.mono) hx27 ?_
        intro s27 hH'
        have hl27 := cpy_len (Nat.le_of_eq (Nat.zero_add _)) hx27
        replace hH : Hp sb s F0 s27 [Ck.ol OI 3 A25 c25 x27] := hH'
        clear hH'
        try dsimp only [putL, setL, evL, getL]
        refine HL_cons rfl ?_
        refine o_assign ?_
        try dsimp only [putL, setL, evL, getL]
        refine HL_nil ?_
        refine hK26 _ _ ?_
        refine joinH H fun G28 hG28 H => ?_
        refine HT_joinK (fun l' s' => ∃ (x52 : List (Int)), G28 x52 = some r ∧ l' = [.slice A0p p0.length c0p, .int .i64 p1, undef, undef, .slice none 0 0, .int .u64 u9.1, .int .u64 u9.2, .slice A25 x25.length c25, getL l' 8, .int .i64 p1, .bool (decide (p1 < 0)), undef, .tuple #[.int .u64 u9.1, .int .u64 u9.2], .slice A0p p0.length c0p, .int .i64 (p0.length : Int), .int .u64 (IntKind.u64.wrap (p0.length : Int)), .int .i64 p1, .int .u64 (IntKind.u64.wrap p1), .tuple #[.int .u64 u9.1, .int .u64 u9.2], .int .u64 u9.1, .int .u64 u9.2, j21, j22, j23, j24, j25, .bool x20, undef, .int .u64 u9.2, .int .i64 (IntKind.i64.wrap u9.2), .slice A25 x25.length c25, .slice A25 x25.length c25, .slice A0p p0.length c0p, .int .i64 ((min p0.length x25.length : Nat) : Int), getL l' 34, getL l' 35, getL l' 36, getL l' 37, getL l' 38, getL l' 39, getL l' 40, getL l' 41, getL l' 42, getL l' 43, getL l' 44, getL l' 45, getL l' 46, undef] ∧ Hp sb s F0 s' [Ck.ol OI 3 A25 c25 x52] ∧ x52.length = x25.length) ?_ ?_
        · intro K28 hK28
          refine HT_block ?_
          refine HT_loopK (fun kf l' s' => ∃ (x59 : List (Int)) (x60 : Int), (slices_Repeat_int_int.l1 x25 kf x59 x60).bind G28 = some r ∧ l' = [.slice A0p p0.length c0p, .int .i64 p1, undef, undef, .slice none 0 0, .int .u64 u9.1, .int .u64 u9.2, .slice A25 x25.length c25, .int .i64 x60, .int .i64 p1, .bool (decide (p1 < 0)), undef, .tuple #[.int .u64 u9.1, .int .u64 u9.2], .slice A0p p0.length c0p, .int .i64 (p0.length : Int), .int .u64 (IntKind.u64.wrap (p0.length : Int)), .int .i64 p1, .int .u64 (IntKind.u64.wrap p1), .tuple #[.int .u64 u9.1, .int .u64 u9.2], .int .u64 u9.1, .int .u64 u9.2, j21, j22, j23, j24, j25, .bool x20, undef, .int .u64 u9.2, .int .i64 (IntKind.i64.wrap u9.2), .slice A25 x25.length c25, .slice A25 x25.length c25, .slice A0p p0.length c0p, .int .i64 ((min p0.length x25.length : Nat) : Int), getL l' 34, getL l' 35, getL l' 36, getL l' 37, getL l' 38, getL l' 39, getL l' 40, getL l' 41, getL l' 42, getL l' 43, getL l' 44, getL l' 45, getL l' 46, undef] ∧ Hp sb s F0 s' [Ck.ol OI 3 A25 c25 x59] ∧ x59.length = x25.length) ((((x25.length : Int)) - (((min p0.length x25.length : Nat) : Int))).toNat + 2) ⟨x27, ((min p0.length x25.length : Nat) : Int), H, rfl, hH, hl27⟩ ?_
          rintro kf l' s69 ⟨x59, x60, H, hl, hH, hl59⟩ K69 hK69
          generalize getL l' 34 = j34, getL l' 35 = j35, getL l' 36 = j36, getL l' 37 = j37, getL l' 38 = j38, getL l' 39 = j39, getL l' 40 = j40, getL l' 41 = j41, getL l' 42 = j42, getL l' 43 = j43, getL l' 44 = j44, getL l' 45 = j45, getL l' 46 = j46 at hl
          subst hl
          cases kf with
          | zero => simp [slices_Repeat_int_int.l1] at H
          | succ kf =>
            rw [slices_Repeat_int_int.l1] at H
            refine HT_seq_k ?_
            intro K70 hK70
            refine HT_seq_k ?_
            intro K71 hK71
            refine HT_region ?_
            refine HL_cons rfl ?_
            refine o_move ?_
            try dsimp only [putL, setL, evL, getL]
            refine HL_cons rfl ?_
            refine o_move ?_
            try dsimp only [putL, setL, evL, getL]
            refine HL_cons rfl ?_
            refine o_len rfl Try.underlying22 ?_
            try dsimp only [putL, setL, evL, getL]
            refine HL_cons rfl ?_
            refine o_bin rfl rfl rfl ?_
            try dsimp only [putL, setL, evL, getL]
            refine HL_nil ?_
            refine hK71 _ _ ?_
            rcases Bool.eq_false_or_eq_true (decide (x60 < (x25.length : Int))) with hb72 | hb72
            · replace H := iteT hb72 H
              refine HT_true (congrArg Value.bool hb72) ?_
              refine HT_skip ?_
              refine hK70 _ _ ?_
              refine HT_block ?_
              refine HK_draw (fun s' => Gro s69 s') 7 hMix ?_
              have hR := Gro.refl s69
              have hH0 := hH
              refine HK_readP 0 (v := .int .i64 x60) rfl (by kernel_rfl) (fun c l s h => hQp c l s h) rfl (fun s' K hK => ?_) rfl rfl (fun _ => hR) ?_
              · refine o_move ?_
                exact hK
              try dsimp only [putL, setL, evL, getL]
              refine HK_readP 1 (v := .slice A25 x25.length c25) rfl (by kernel_rfl) (fun c l s h => hQp c l s h) rfl (fun s' K hK => ?_) rfl rfl (fun _ => hR) ?_
              · refine o_move ?_
                exact hK
              try dsimp only [putL, setL, evL, getL]
              refine HK_readP 2 (v := .int .i64 x60) rfl (by kernel_rfl) (fun c l s h => hQp c l s h) rfl (fun s' K hK => ?_) rfl rfl (fun _ => hR) ?_
              · refine o_move ?_
                exact hK
              try dsimp only [putL, setL, evL, getL]
              obtain ⟨x73, hx73, H⟩ := headE H
              refine HK_readP 3 (v := .slice (cutA A25 c25 (Int.toNat x60) (Kd.sz KI)) x73.length (c25 - Int.toNat x60)) rfl (by kernel_rfl) (fun c l s h => hQp c l s h) rfl (fun s' K hK => ?_) rfl rfl (fun _ => hR) ?_
              · refine o_cutA (xs := x59) (kl := .i64) (kh := .i64) (L := x60) (H := (x59.length : Int)) (sliceLen hl59) rfl rfl Try.underlying22 tI3 (hH.rd 0 rfl).1 hx73 ?_
                exact hK
              have D73 := @Der.cut _ _ OI 3 A25 c25 _ _ _ _ hx73
              try dsimp only [putL, setL, evL, getL]
              refine HK_readP 4 (v := .slice A25 x25.length c25) rfl (by kernel_rfl) (fun c l s h => hQp c l s h) rfl (fun s' K hK => ?_) rfl rfl (fun _ => hR) ?_
              · refine o_move ?_
                exact hK
              try dsimp only [putL, setL, evL, getL]
              refine HK_readP 5 (v := .int .i64 x60) rfl (by kernel_rfl) (fun c l s h => hQp c l s h) rfl (fun s' K hK => ?_) rfl rfl (fun _ => hR) ?_
              · refine o_move ?_
                exact hK
              try dsimp only [putL, setL, evL, getL]
              obtain ⟨x74, hx74, H⟩ := headE H
              refine HK_readP 6 (v := .slice (cutA A25 c25 (Int.toNat 0) (Kd.sz KI)) x74.length (c25 - Int.toNat 0)) rfl (by kernel_rfl) (fun c l s h => hQp c l s h) rfl (fun s' K hK => ?_) rfl rfl (fun _ => hR) ?_
              · refine o_cutA (xs := x59) (kl := .i64) (kh := .i64) (L := 0) (H := x60) (sliceLen hl59) rfl rfl Try.underlying22 tI3 (hH.rd 0 rfl).1 hx74 ?_
                exact hK
              have D74 := @Der.cut _ _ OI 3 A25 c25 _ _ _ _ hx74
              try dsimp only [putL, setL, evL, getL]
              obtain ⟨x75, hx75, H⟩ := headE H
              refine HK_one 7 (by kernel_rfl) rfl (fun _ => hR) rfl ?_
              refine o_copyF (K := KI) (lo := Int.toNat x60) (n := x73.length) (ys := x74) hH 0 rfl rfl rfl rfl Try.underlying22 tI3 (.inr rfl) (cut?_room hx73) (D74 _ _ hH.bs (hH.ckP 0)) hx75 ?_
              intro s75 hH'
              have hl75 := (cpy_len (cut?_room hx73) hx75).trans hl59
              replace hH : Hp sb s F0 s75 [Ck.ol OI 3 A25 c25 x75] := hH'
              clear hH'
              try dsimp only [putL, setL, evL, getL]
              refine HK_readP 8 (v := .int .i64 (IntKind.i64.wrap (x60 + ((min x74.length x73.length : Nat) : Int)))) rfl (by kernel_rfl) (fun c l s h => hQp c l s h) rfl (fun s' K hK => ?_) rfl rfl (fun h => by cases h) ?_
              · refine o_bin rfl rfl rfl ?_
                exact hK
              try dsimp only [putL, setL, evL, getL]
              refine HK_one 9 (by kernel_rfl) rfl (fun h => by cases h) rfl ?_
              refine o_assign ?_
              try dsimp only [putL, setL, evL, getL]
              refine HK_done' (by kernel_rfl) (by kernel_rfl) ?_
              exact hK69 _ _ ⟨kf, Nat.lt_succ_self kf, x75, IntKind.i64.wrap (x60 + ((min x74.length x73.length : Nat) : Int)), H, rfl, hH, hl75⟩
            · replace H := iteF hb72 H
              refine HT_false (congrArg Value.bool hb72) ?_
              refine HT_exit ?_
              exact hK28 _ _ ⟨x59, H, rfl, hH, hl59⟩
        · rintro l' s76 ⟨x52, H, hl, hH, hl52⟩
          generalize getL l' 8 = j8, getL l' 34 = j34, getL l' 35 = j35, getL l' 36 = j36, getL l' 37 = j37, getL l' 38 = j38, getL l' 39 = j39, getL l' 40 = j40, getL l' 41 = j41, getL l' 42 = j42, getL l' 43 = j43, getL l' 44 = j44, getL l' 45 = j45, getL l' 46 = j46 at hl
          subst hl
          replace H := hG28 _ H
          try dsimp only at H
          refine HT_seq_k ?_
          intro K77 hK77
          refine HT_region ?_
          refine HL_cons rfl ?_
          refine o_move ?_
          try dsimp only [putL, setL, evL, getL]
          refine HL_cons rfl ?_
          refine o_assign ?_
          try dsimp only [putL, setL, evL, getL]
          refine HL_nil ?_
          refine hK77 _ _ ?_
          refine HT_ret ?_
          obtain rfl := Option.some.inj (show some _ = some r from H)
          exact hQr _ _ [.slice A25 x25.length c25] ⟨rfl, trivial⟩ ⟨A25, c25, (by rw [hl52]; first | done | rfl), hH⟩
def impl_newScreen.f (p0 : Int) (p1 : Int) : Option (Int × Int × (List (Int)) × Int × Int) := (slices_Repeat_int_int.f [32] (IntKind.i64.wrap (p0 * p1))).bind fun u5 => some (p0, p1, u5, 0, 0)
def impl_newScreen.post (sb s : St) (F0 : Fp) (r : Int × Int × (List (Int)) × Int × Int) : Value → St → Prop := fun v s' => ∃ (A2 : Option Addr) (c2 : Nat), v = .agg #[.int .i64 r.1, .int .i64 r.2.1, .slice A2 r.2.2.1.length c2, .int .i64 r.2.2.2.1, .int .i64 r.2.2.2.2] ∧ Hp sb s F0 s' [Ck.ol OI 3 A2 c2 r.2.2.1]
set_option maxRecDepth 100000 in
set_option maxHeartbeats 4000000 in
theorem impl_newScreen.ok (sb s : St) (F0 : Fp) (p0 : Int) (p1 : Int) (hH : Hp sb s F0 s []) (r : Int × Int × (List (Int)) × Int × Int) (H : impl_newScreen.f p0 p1 = some r) : GCall Try.prog 44 #[.int .i64 p0, .int .i64 p1] s (impl_newScreen.post sb s F0 r) := by
  refine GCall_ofk [.cell 4 27] [.int .i64 p0, .int .i64 p1, undef, undef, undef, undef, undef, undef, undef, undef, undef, undef, undef] Try.func44 rfl rfl rfl ?_
  intro w Q hQr hQn hQp
  replace H := topE H
  unfold impl_newScreen.f at H
  refine HT_seq_k ?_
  intro K1 hK1
  refine HT_region ?_
  refine HL_cons rfl ?_
  refine o_allocH hH tI27 ?_
  intro b2 s2 hH' hG
  replace hH : Hp sb s F0 s2 [Ck.ov b2 [.int .i64 0, .int .i64 0, .slice none 0 0, .int .i64 0, .int .i64 0] 27] := hH'
  clear hH' hG
  try dsimp only [putL, setL, evL, getL]
  refine HL_nil ?_
  refine hK1 _ _ ?_
  refine HT_seq_k ?_
  intro K3 hK3
  refine HT_region ?_
  refine HL_cons rfl ?_
  refine o_move ?_
  try dsimp only [putL, setL, evL, getL]
  refine HL_cons rfl ?_
  refine o_move ?_
  try dsimp only [putL, setL, evL, getL]
  refine HL_cons rfl ?_
  refine o_litF (K := KI) (O := OI) (ca := #[.int .i64 32]) [[.int .i64 32]] [32] hH Try.underlying22 tI3 rfl (by decide) rfl rfl rfl rfl ⟨rfl, Ent.own (Ent.flat rfl), trivial⟩ ?_
  intro A4 s4 hH' hG
  replace hH : Hp sb s F0 s4 [Ck.ov b2 [.int .i64 0, .int .i64 0, .slice none 0 0, .int .i64 0, .int .i64 0] 27, Ck.ol OI 3 A4 1 [32]] := hH'
  clear hH' hG
  try dsimp only [putL, setL, evL, getL]
  refine HL_cons rfl ?_
  refine o_move ?_
  try dsimp only [putL, setL, evL, getL]
  refine HL_cons rfl ?_
  refine o_move ?_
  try dsimp only [putL, setL, evL, getL]
  refine HL_cons rfl ?_
  refine o_bin rfl rfl rfl ?_
  try dsimp only [putL, setL, evL, getL]
  obtain ⟨u5, hu5, H⟩ := headE H
  refine HL_cons rfl ?_
  refine o_call (args := #[.slice A4 [32].length 1, .int .i64 (IntKind.i64.wrap (p0 * p1))]) Try.func59 rfl rfl rfl (slices_Repeat_int_int.ok s4 s4 no A4 1 [32] (IntKind.i64.wrap (p0 * p1)) (hH.rd 1 rfl) (Hp.own (Bs.refl s4)) _ hu5) ?_
  rintro _ s5 ⟨A6, c6, rfl, hD⟩
  replace hH := hH.back0T hD
  clear hD
  dsimp only [addC, setC, rmC, selC, getC] at hH
  try dsimp only [putL, setL, evL, getL]
  refine HL_cons rfl ?_
  refine o_build (pl := [(0, 1), (1, 1), (2, 1), (3, 1), (4, 1)]) (cs := #[.int .i64 p0, .int .i64 p1, .slice A6 u5.length c6, .int .i64 0, .int .i64 0]) Try.underlying27 tI27 (by kernel_rfl) (by kernel_rfl) rfl ?_
  try dsimp only [putL, setL, evL, getL]
  refine HL_cons rfl ?_
  refine o_stvH (vs := [.int .i64 p0, .int .i64 p1, .slice A6 u5.length c6, .int .i64 0, .int .i64 0]) (us' := [.int .i64 p0, .int .i64 p1, .slice A6 u5.length c6, .int .i64 0, .int .i64 0]) hH 0 rfl rfl rfl rfl rfl tI27 rfl (List.cons_ne_nil _ _) rfl rfl rfl ?_
  intro s7 hH'
  replace hH : Hp sb s F0 s7 [Ck.ov b2 [.int .i64 p0, .int .i64 p1, .slice A6 u5.length c6, .int .i64 0, .int .i64 0] 27, Ck.ol OI 3 A4 1 [32], Ck.ol OI 3 A6 c6 u5] := hH'
  clear hH'
  try dsimp only [putL, setL, evL, getL]
  refine HL_nil ?_
  refine hK3 _ _ ?_
  refine HT_ret ?_
  obtain rfl := Option.some.inj (show some _ = some r from H)
  exact hQr _ _ [.agg #[.int .i64 p0, .int .i64 p1, .slice A6 u5.length c6, .int .i64 0, .int .i64 0]] ⟨ResV.cells rfl Try.underlying27 rfl tI27 (hH.var 0 rfl) rfl, trivial⟩ ⟨A6, c6, rfl, hH.sel [2] (by decide)⟩
def impl_NewScreen.f (p0 : Int) (p1 : Int) : Option (Int × Int × (List (Int)) × Int × Int × Bool) := ((impl_inRange.f p0 1 20).bind fun u22 => if (!u22) = true then (some true) else ((impl_inRange.f p1 1 8).bind fun u24 => some (!u24))).bind fun (o : Bool) => match o with | x21 => (if x21 = true then (some (0, 0, [], 0, 0, false)) else ((impl_newScreen.f p0 p1).bind fun u30 => some (u30.1, u30.2.1, u30.2.2.1, u30.2.2.2.1, u30.2.2.2.2, true)))
def impl_NewScreen.post (sb s : St) (F0 : Fp) (r : Int × Int × (List (Int)) × Int × Int × Bool) : Value → St → Prop := fun v s' => ∃ (A2 : Option Addr) (c2 : Nat), v = .tuple #[.agg #[.int .i64 r.1, .int .i64 r.2.1, .slice A2 r.2.2.1.length c2, .int .i64 r.2.2.2.1, .int .i64 r.2.2.2.2.1], .bool r.2.2.2.2.2] ∧ Hp sb s F0 s' [Ck.ol OI 3 A2 c2 r.2.2.1]
set_option maxRecDepth 100000 in
set_option maxHeartbeats 4000000 in
theorem impl_NewScreen.ok (sb s : St) (F0 : Fp) (p0 : Int) (p1 : Int) (hH : Hp sb s F0 s []) (r : Int × Int × (List (Int)) × Int × Int × Bool) (H : impl_NewScreen.f p0 p1 = some r) : GCall Try.prog 19 #[.int .i64 p0, .int .i64 p1] s (impl_NewScreen.post sb s F0 r) := by
  refine GCall_ofk [.cell 4 27, .tmp 5] [.int .i64 p0, .int .i64 p1, undef, undef, undef, undef, undef, undef, undef, undef, undef, undef, undef, undef, undef, undef, undef, undef] Try.func19 rfl rfl rfl ?_
  intro w Q hQr hQn hQp
  replace H := topE H
  unfold impl_NewScreen.f at H
  refine HT_seq_k ?_
  intro K1 hK1
  refine HT_region ?_
  refine HL_cons rfl ?_
  refine o_allocH hH tI27 ?_
  intro b2 s2 hH' hG
  replace hH : Hp sb s F0 s2 [Ck.ov b2 [.int .i64 0, .int .i64 0, .slice none 0 0, .int .i64 0, .int .i64 0] 27] := hH'
  clear hH' hG
  try dsimp only [putL, setL, evL, getL]
  refine HL_cons rfl ?_
  refine o_assign ?_
  try dsimp only [putL, setL, evL, getL]
  refine HL_nil ?_
  refine hK1 _ _ ?_
  refine HT_seq_k ?_
  intro K16 hK16
  refine joinH H fun G17 hG17 H => ?_
  refine HT_joinK (fun l' s' => ∃ (x21 : Bool), G17 x21 = some r ∧ l' = [.int .i64 p0, .int .i64 p1, undef, undef, .pointer (some ⟨b2, 0, none⟩), .bool false, getL l' 6, getL l' 7, getL l' 8, getL l' 9, getL l' 10, getL l' 11, getL l' 12, .bool x21, undef, undef, undef, undef] ∧ Hp sb s F0 s' [Ck.ov b2 [.int .i64 0, .int .i64 0, .slice none 0 0, .int .i64 0, .int .i64 0] 27]) ?_ ?_
  · intro K17 hK17
    refine HT_region ?_
    refine HL_cons rfl ?_
    refine o_move ?_
    try dsimp only [putL, setL, evL, getL]
    obtain ⟨u22, hu22, H⟩ := headE H
    refine HL_cons rfl ?_
    refine o_call (args := #[.int .i64 p0, .int .i64 1, .int .i64 20]) Try.func34 rfl rfl rfl (impl_inRange.ok sb s2 no p0 1 20 (Hp.own hH.bs) _ hu22) ?_
    rintro _ s22 ⟨rfl, hD⟩
    replace hH := hH.back0 hD (Up.refl _ _ _)
    clear hD
    dsimp only [addC, setC, rmC, selC, getC] at hH
    try dsimp only [putL, setL, evL, getL]
    refine HL_cons rfl ?_
    refine o_not rfl ?_
    try dsimp only [putL, setL, evL, getL]
    refine HL_cons rfl ?_
    refine o_move ?_
    try dsimp only [putL, setL, evL, getL]
    rcases Bool.eq_false_or_eq_true (!u22) with hb23 | hb23
    · replace H := iteT hb23 H
      refine HL_skip ?_ ?_
      · exact wantF (j := 3) (b := false) (t := 9) (c := !u22) rfl rfl rfl rfl hb23
      try dsimp only [putL, setL, evL, getL]
      refine HL_skip ?_ ?_
      · exact wantF (j := 3) (b := false) (t := 9) (c := !u22) rfl rfl rfl rfl hb23
      try dsimp only [putL, setL, evL, getL]
      refine HL_skip ?_ ?_
      · exact wantF (j := 3) (b := false) (t := 9) (c := !u22) rfl rfl rfl rfl hb23
      try dsimp only [putL, setL, evL, getL]
      refine HL_cons rfl ?_
      refine o_pickT rfl hb23 ?_
      try dsimp only [putL, setL, evL, getL]
      refine HL_nil ?_
      exact hK17 _ _ ⟨true, H, rfl, hH⟩
    · replace H := iteF hb23 H
      refine HL_want ?_ ?_
      · exact wantT (j := 3) (b := false) (t := 9) (c := !u22) rfl rfl rfl rfl hb23
      refine o_move ?_
      try dsimp only [putL, setL, evL, getL]
      obtain ⟨u24, hu24, H⟩ := headE H
      refine HL_want ?_ ?_
      · exact wantT (j := 3) (b := false) (t := 9) (c := !u22) rfl rfl rfl rfl hb23
      refine o_call (args := #[.int .i64 p1, .int .i64 1, .int .i64 8]) Try.func34 rfl rfl rfl (impl_inRange.ok sb s22 no p1 1 8 (Hp.own hH.bs) _ hu24) ?_
      rintro _ s24 ⟨rfl, hD⟩
      replace hH := hH.back0 hD (Up.refl _ _ _)
      clear hD
      dsimp only [addC, setC, rmC, selC, getC] at hH
      try dsimp only [putL, setL, evL, getL]
      refine HL_want ?_ ?_
      · exact wantT (j := 3) (b := false) (t := 9) (c := !u22) rfl rfl rfl rfl hb23
      refine o_not rfl ?_
      try dsimp only [putL, setL, evL, getL]
      refine HL_cons rfl ?_
      refine o_pickF rfl hb23 ?_
      try dsimp only [putL, setL, evL, getL]
      refine HL_nil ?_
      exact hK17 _ _ ⟨!u24, H, rfl, hH⟩
  · rintro l' s25 ⟨x21, H, hl, hH⟩
    generalize getL l' 6 = j6, getL l' 7 = j7, getL l' 8 = j8, getL l' 9 = j9, getL l' 10 = j10, getL l' 11 = j11, getL l' 12 = j12 at hl
    subst hl
    replace H := hG17 _ H
    try dsimp only at H
    rcases Bool.eq_false_or_eq_true x21 with hb26 | hb26
    · replace H := iteT hb26 H
      refine HT_true (congrArg Value.bool hb26) ?_
      refine HT_seq_k ?_
      intro K27 hK27
      refine HT_region ?_
      refine HL_cons rfl ?_
      refine o_build (pl := [(0, 1), (1, 1), (2, 1), (3, 1), (4, 1)]) (cs := #[.int .i64 0, .int .i64 0, .slice none 0 0, .int .i64 0, .int .i64 0]) Try.underlying27 tI27 (by kernel_rfl) (by kernel_rfl) rfl ?_
      try dsimp only [putL, setL, evL, getL]
      refine HL_cons rfl ?_
      refine o_stvH (vs := [.int .i64 0, .int .i64 0, .slice none 0 0, .int .i64 0, .int .i64 0]) (us' := [.int .i64 0, .int .i64 0, .slice none 0 0, .int .i64 0, .int .i64 0]) hH 0 rfl rfl rfl rfl rfl tI27 rfl (List.cons_ne_nil _ _) rfl rfl rfl ?_
      intro s28 hH'
      replace hH : Hp sb s F0 s28 [Ck.ov b2 [.int .i64 0, .int .i64 0, .slice none 0 0, .int .i64 0, .int .i64 0] 27] := hH'
      clear hH'
      try dsimp only [putL, setL, evL, getL]
      refine HL_cons rfl ?_
      refine o_assign ?_
      try dsimp only [putL, setL, evL, getL]
      refine HL_nil ?_
      refine hK27 _ _ ?_
      refine HT_ret ?_
      obtain rfl := Option.some.inj (show some _ = some r from H)
      exact hQr _ _ [.agg #[.int .i64 0, .int .i64 0, .slice none 0 0, .int .i64 0, .int .i64 0], .bool false] ⟨ResV.cells rfl Try.underlying27 rfl tI27 (hH.var 0 rfl) rfl, rfl, trivial⟩ ⟨none, 0, rfl, (hH.nil (K := KI) OI 3).sel [1] (by decide)⟩
    · replace H := iteF hb26 H
      refine HT_false (congrArg Value.bool hb26) ?_
      refine HT_skip ?_
      refine hK16 _ _ ?_
      refine HT_seq_k ?_
      intro K29 hK29
      refine HT_region ?_
      refine HL_cons rfl ?_
      refine o_move ?_
      try dsimp only [putL, setL, evL, getL]
      refine HL_cons rfl ?_
      refine o_move ?_
      try dsimp only [putL, setL, evL, getL]
      obtain ⟨u30, hu30, H⟩ := headE H
      refine HL_cons rfl ?_
      refine o_call (args := #[.int .i64 p0, .int .i64 p1]) Try.func44 rfl rfl rfl (impl_newScreen.ok sb s25 no p0 p1 (Hp.own hH.bs) _ hu30) ?_
      rintro _ s30 ⟨A31, c31, rfl, hD⟩
      replace hH := hH.back0 hD (Up.refl _ _ _)
      clear hD
      dsimp only [addC, setC, rmC, selC, getC] at hH
      try dsimp only [putL, setL, evL, getL]
      refine HL_cons rfl ?_
      refine o_stvH (vs := [.int .i64 u30.1, .int .i64 u30.2.1, .slice A31 u30.2.2.1.length c31, .int .i64 u30.2.2.2.1, .int .i64 u30.2.2.2.2]) (us' := [.int .i64 u30.1, .int .i64 u30.2.1, .slice A31 u30.2.2.1.length c31, .int .i64 u30.2.2.2.1, .int .i64 u30.2.2.2.2]) hH 0 rfl rfl rfl rfl rfl tI27 rfl (List.cons_ne_nil _ _) rfl rfl rfl ?_
      intro s32 hH'
      replace hH : Hp sb s F0 s32 [Ck.ov b2 [.int .i64 u30.1, .int .i64 u30.2.1, .slice A31 u30.2.2.1.length c31, .int .i64 u30.2.2.2.1, .int .i64 u30.2.2.2.2] 27, Ck.ol OI 3 A31 c31 u30.2.2.1] := hH'
      clear hH'
      try dsimp only [putL, setL, evL, getL]
      refine HL_cons rfl ?_
      refine o_assign ?_
      try dsimp only [putL, setL, evL, getL]
      refine HL_nil ?_
      refine hK29 _ _ ?_
      refine HT_ret ?_
      obtain rfl := Option.some.inj (show some _ = some r from H)
      exact hQr _ _ [.agg #[.int .i64 u30.1, .int .i64 u30.2.1, .slice A31 u30.2.2.1.length c31, .int .i64 u30.2.2.2.1, .int .i64 u30.2.2.2.2], .bool true] ⟨ResV.cells rfl Try.underlying27 rfl tI27 (hH.var 0 rfl) rfl, rfl, trivial⟩ ⟨A31, c31, rfl, hH.sel [1] (by decide)⟩
def laws_eqIntS.l1 (p0 : List (Int)) (p1 : List (Int)) : Nat → Int → Option (Lo Unit Bool)
  | 0, _ => none
  | kf + 1, x48 => if (decide (x48 < (p0.length : Int))) = true then ((rd? p0 x48).bind fun u65 => (rd? p1 x48).bind fun u66 => if (u65 != u66) = true then ((some false).bind fun z => some (Lo.ret z)) else (laws_eqIntS.l1 p0 p1 kf (IntKind.i64.wrap (x48 + 1)))) else (some (Lo.go ()))
def laws_eqIntS.f (p0 : List (Int)) (p1 : List (Int)) : Option Bool := if ((p0.length : Int) != (p1.length : Int)) = true then (some false) else ((laws_eqIntS.l1 p0 p1 ((((p0.length : Int)) - (0)).toNat + 2) 0).bind fun (o : Lo Unit Bool) => match o with | .go () => (some true) | .ret z => some z)
def laws_eqIntS.post (sb s : St) (F0 : Fp) (r : Bool) : Value → St → Prop := fun v s' => v = .bool r ∧ Hp sb s F0 s' []
set_option maxRecDepth 100000 in
set_option maxHeartbeats 4000000 in
theorem laws_eqIntS.ok (sb s : St) (F0 : Fp) (A0p : Option Addr) (c0p : Nat) (p0 : List (Int)) (A1p : Option Addr) (c1p : Nat) (p1 : List (Int)) (HRp0 : Rd KI sb A0p c0p p0) (HRp1 : Rd KI sb A1p c1p p1) (hH : Hp sb s F0 s []) (r : Bool) (H : laws_eqIntS.f p0 p1 = some r) : GCall Try.prog 17 #[.slice A0p p0.length c0p, .slice A1p p1.length c1p] s (laws_eqIntS.post sb s F0 r) := by
  refine GCall_ofk [.tmp 4] [.slice A0p p0.length c0p, .slice A1p p1.length c1p, undef, undef, undef, undef, undef, undef, undef, undef, undef, undef, undef, undef, undef, undef, undef, undef, undef, undef, undef, undef, undef, undef, undef, undef] Try.func17 rfl rfl rfl ?_
  intro w Q hQr hQn hQp
  replace H := topE H
  unfold laws_eqIntS.f at H
  refine HT_seq_k ?_
  intro K1 hK1
  refine HT_region ?_
  refine HL_cons rfl ?_
  refine o_assign ?_
  try dsimp only [putL, setL, evL, getL]
  refine HL_nil ?_
  refine hK1 _ _ ?_
  refine HT_seq_k ?_
  intro K2 hK2
  refine HT_seq_k ?_
  intro K3 hK3
  refine HT_region ?_
  refine HL_cons rfl ?_
  refine o_move ?_
  try dsimp only [putL, setL, evL, getL]
  refine HL_cons rfl ?_
  refine o_len rfl Try.underlying22 ?_
  try dsimp only [putL, setL, evL, getL]
  refine HL_cons rfl ?_
  refine o_move ?_
  try dsimp only [putL, setL, evL, getL]
  refine HL_cons rfl ?_
  refine o_len rfl Try.underlying22 ?_
  try dsimp only [putL, setL, evL, getL]
  refine HL_cons rfl ?_
  refine o_bin rfl rfl rfl ?_
  try dsimp only [putL, setL, evL, getL]
  refine HL_nil ?_
  refine hK3 _ _ ?_
  rcases Bool.eq_false_or_eq_true ((p0.length : Int) != (p1.length : Int)) with hb4 | hb4
  · replace H := iteT hb4 H
    refine HT_true (congrArg Value.bool hb4) ?_
    refine HT_seq_k ?_
    intro K5 hK5
    refine HT_region ?_
    refine HL_cons rfl ?_
    refine o_assign ?_
    try dsimp only [putL, setL, evL, getL]
    refine HL_nil ?_
    refine hK5 _ _ ?_
    refine HT_ret ?_
    obtain rfl := Option.some.inj (show some _ = some r from H)
    exact hQr _ _ [.bool false] ⟨rfl, trivial⟩ ⟨rfl, hH⟩
  · replace H := iteF hb4 H
    refine HT_false (congrArg Value.bool hb4) ?_
    refine HT_skip ?_
    refine hK2 _ _ ?_
    refine HT_seq_k ?_
    intro K6 hK6
    refine HT_seq_k ?_
    intro K7 hK7
    refine HT_region ?_
    refine HL_cons rfl ?_
    refine o_assign ?_
    try dsimp only [putL, setL, evL, getL]
    refine HL_nil ?_
    refine hK7 _ _ ?_
    refine joinH H fun G8 hG8 H => ?_
    refine HT_toK (fun l' s' => G8 (.go ()) = some r ∧ l' = [.slice A0p p0.length c0p, .slice A1p p1.length c1p, undef, undef, getL l' 4, getL l' 5, .slice A0p p0.length c0p, .int .i64 (p0.length : Int), .slice A1p p1.length c1p, .int .i64 (p1.length : Int), .bool ((p0.length : Int) != (p1.length : Int)), getL l' 11, getL l' 12, getL l' 13, getL l' 14, getL l' 15, getL l' 16, getL l' 17, getL l' 18, getL l' 19, getL l' 20, getL l' 21, getL l' 22, getL l' 23, getL l' 24, getL l' 25] ∧ Hp sb s F0 s' []) ?_ ?_
    · intro K8 hK8
      refine HT_block ?_
      refine HT_loopK (fun kf l' s' => ∃ (x48 : Int), (laws_eqIntS.l1 p0 p1 kf x48).bind G8 = some r ∧ l' = [.slice A0p p0.length c0p, .slice A1p p1.length c1p, undef, undef, getL l' 4, .int .i64 x48, .slice A0p p0.length c0p, .int .i64 (p0.length : Int), .slice A1p p1.length c1p, .int .i64 (p1.length : Int), .bool ((p0.length : Int) != (p1.length : Int)), getL l' 11, getL l' 12, getL l' 13, getL l' 14, getL l' 15, getL l' 16, getL l' 17, getL l' 18, getL l' 19, getL l' 20, getL l' 21, getL l' 22, getL l' 23, getL l' 24, getL l' 25] ∧ Hp sb s F0 s' []) ((((p0.length : Int)) - (0)).toNat + 2) ⟨0, H, rfl, hH⟩ ?_
      rintro kf l' s59 ⟨x48, H, hl, hH⟩ K59 hK59
      generalize getL l' 4 = j4, getL l' 11 = j11, getL l' 12 = j12, getL l' 13 = j13, getL l' 14 = j14, getL l' 15 = j15, getL l' 16 = j16, getL l' 17 = j17, getL l' 18 = j18, getL l' 19 = j19, getL l' 20 = j20, getL l' 21 = j21, getL l' 22 = j22, getL l' 23 = j23, getL l' 24 = j24, getL l' 25 = j25 at hl
      subst hl
      cases kf with
      | zero => simp [laws_eqIntS.l1] at H
      | succ kf =>
        rw [laws_eqIntS.l1] at H
        refine HT_seq_k ?_
        intro K60 hK60
        refine HT_seq_k ?_
        intro K61 hK61
        refine HT_region ?_
        refine HL_cons rfl ?_
        refine o_move ?_
        try dsimp only [putL, setL, evL, getL]
        refine HL_cons rfl ?_
        refine o_move ?_
        try dsimp only [putL, setL, evL, getL]
        refine HL_cons rfl ?_
        refine o_len rfl Try.underlying22 ?_
        try dsimp only [putL, setL, evL, getL]
        refine HL_cons rfl ?_
        refine o_bin rfl rfl rfl ?_
        try dsimp only [putL, setL, evL, getL]
        refine HL_nil ?_
        refine hK61 _ _ ?_
        rcases Bool.eq_false_or_eq_true (decide (x48 < (p0.length : Int))) with hb62 | hb62
        · replace H := iteT hb62 H
          refine HT_true (congrArg Value.bool hb62) ?_
          refine HT_skip ?_
          refine hK60 _ _ ?_
          refine HT_seq_k ?_
          intro K63 hK63
          refine HT_block ?_
          refine HT_seq_k ?_
          intro K64 hK64
          refine HK_draw (fun s' => Gro s59 s') 10 hMix ?_
          have hR := Gro.refl s59
          have hH0 := hH
          refine HK_readP 0 (v := .slice A0p p0.length c0p) rfl (by kernel_rfl) (fun c l s h => hQp c l s h) rfl (fun s' K hK => ?_) rfl rfl (fun _ => hR) ?_
          · refine o_move ?_
            exact hK
          try dsimp only [putL, setL, evL, getL]
          refine HK_readP 1 (v := .int .i64 x48) rfl (by kernel_rfl) (fun c l s h => hQp c l s h) rfl (fun s' K hK => ?_) rfl rfl (fun _ => hR) ?_
          · refine o_move ?_
            exact hK
          try dsimp only [putL, setL, evL, getL]
          obtain ⟨u65, hu65, H⟩ := headE H
          obtain ⟨b65, o65, cs65, hr65, hh65, hel65⟩ := Rd.elb HRp0 hu65
          obtain rfl := hr65
          refine HK_readP 2 (v := .pointer (some ⟨b65, o65, none⟩)) rfl (by kernel_rfl) (fun c l s h => hQp c l s h) rfl (fun s' K hK => ?_) rfl rfl (fun _ => hR) ?_
          · refine hel65 s' rfl rfl Try.underlying22 tI3 ?_
            exact hK
          try dsimp only [putL, setL, evL, getL]
          refine HK_read 3 (v := .int .i64 u65) rfl (by kernel_rfl) (fun c l s h => hQp c l s h) rfl (fun s' hR' K hK => ?_) rfl rfl hR ?_
          · refine o_load' rfl Try.underlying3 rfl ((hh65 (hH0.bs.mono.trans hR'.mono)) 0 _ rfl) ?_
            exact hK
          try dsimp only [putL, setL, evL, getL]
          refine HK_readP 4 (v := .slice A1p p1.length c1p) rfl (by kernel_rfl) (fun c l s h => hQp c l s h) rfl (fun s' K hK => ?_) rfl rfl (fun _ => hR) ?_
          · refine o_move ?_
            exact hK
          try dsimp only [putL, setL, evL, getL]
          refine HK_readP 5 (v := .int .i64 x48) rfl (by kernel_rfl) (fun c l s h => hQp c l s h) rfl (fun s' K hK => ?_) rfl rfl (fun _ => hR) ?_
          · refine o_move ?_
            exact hK
          try dsimp only [putL, setL, evL, getL]
          obtain ⟨u66, hu66, H⟩ := headE H
          obtain ⟨b66, o66, cs66, hr66, hh66, hel66⟩ := Rd.elb HRp1 hu66
          obtain rfl := hr66
          refine HK_readP 6 (v := .pointer (some ⟨b66, o66, none⟩)) rfl (by kernel_rfl) (fun c l s h => hQp c l s h) rfl (fun s' K hK => ?_) rfl rfl (fun _ => hR) ?_
          · refine hel66 s' rfl rfl Try.underlying22 tI3 ?_
            exact hK
          try dsimp only [putL, setL, evL, getL]
          refine HK_read 7 (v := .int .i64 u66) rfl (by kernel_rfl) (fun c l s h => hQp c l s h) rfl (fun s' hR' K hK => ?_) rfl rfl hR ?_
          · refine o_load' rfl Try.underlying3 rfl ((hh66 (hH0.bs.mono.trans hR'.mono)) 0 _ rfl) ?_
            exact hK
          try dsimp only [putL, setL, evL, getL]
          refine HK_readP 8 (v := .bool (u65 != u66)) rfl (by kernel_rfl) (fun c l s h => hQp c l s h) rfl (fun s' K hK => ?_) rfl rfl (fun _ => hR) ?_
          · refine o_bin rfl rfl rfl ?_
            exact hK
          try dsimp only [putL, setL, evL, getL]
          refine HK_done (fun _ => hR) (by kernel_rfl) ?_
          refine hK64 _ _ ?_
          rcases Bool.eq_false_or_eq_true (u65 != u66) with hb67 | hb67
          · replace H := iteT hb67 H
            refine HT_true (congrArg Value.bool hb67) ?_
            refine HT_seq_k ?_
            intro K68 hK68
            refine HT_region ?_
            refine HL_cons rfl ?_
            refine o_assign ?_
            try dsimp only [putL, setL, evL, getL]
            refine HL_nil ?_
            refine hK68 _ _ ?_
            refine HT_ret ?_
            replace H := escH (fun z hz => hG8 _ hz) H
            obtain rfl := Option.some.inj (show some _ = some r from H)
            exact hQr _ _ [.bool false] ⟨rfl, trivial⟩ ⟨rfl, hH⟩
          · replace H := iteF hb67 H
            refine HT_false (congrArg Value.bool hb67) ?_
            refine HT_skip ?_
            refine hK63 _ _ ?_
            refine HT_region ?_
            refine HL_cons rfl ?_
            refine o_move ?_
            try dsimp only [putL, setL, evL, getL]
            refine HL_cons rfl ?_
            refine o_bin rfl rfl rfl ?_
            try dsimp only [putL, setL, evL, getL]
            refine HL_cons rfl ?_
            refine o_assign ?_
            try dsimp only [putL, setL, evL, getL]
            refine HL_nil ?_
            exact hK59 _ _ ⟨kf, Nat.lt_succ_self kf, IntKind.i64.wrap (x48 + 1), H, rfl, hH⟩
        · replace H := iteF hb62 H
          refine HT_false (congrArg Value.bool hb62) ?_
          refine HT_exit ?_
          exact hK8 _ _ ⟨H, rfl, hH⟩
    · rintro l' s69 ⟨H, hl, hH⟩
      generalize getL l' 4 = j4, getL l' 5 = j5, getL l' 11 = j11, getL l' 12 = j12, getL l' 13 = j13, getL l' 14 = j14, getL l' 15 = j15, getL l' 16 = j16, getL l' 17 = j17, getL l' 18 = j18, getL l' 19 = j19, getL l' 20 = j20, getL l' 21 = j21, getL l' 22 = j22, getL l' 23 = j23, getL l' 24 = j24, getL l' 25 = j25 at hl
      subst hl
      replace H := hG8 _ H
      try dsimp only at H
      refine hK6 _ _ ?_
      refine HT_seq_k ?_
      intro K70 hK70
      refine HT_region ?_
      refine HL_cons rfl ?_
      refine o_assign ?_
      try dsimp only [putL, setL, evL, getL]
      refine HL_nil ?_
      refine hK70 _ _ ?_
      refine HT_ret ?_
      obtain rfl := Option.some.inj (show some _ = some r from H)
      exact hQr _ _ [.bool true] ⟨rfl, trivial⟩ ⟨rfl, hH⟩
def laws_eqScreen.f (p0_0 : Int) (p0_1 : Int) (p0_2 : List (Int)) (p0_3 : Int) (p0_4 : Int) (p1_0 : Int) (p1_1 : Int) (p1_2 : List (Int)) (p1_3 : Int) (p1_4 : Int) : Option Bool := if (p0_0 != p1_0) = true then (some false) else (if (p0_1 != p1_1) = true then (some false) else ((laws_eqIntS.f p0_2 p1_2).bind fun u14 => if (!u14) = true then (some false) else (if (p0_3 != p1_3) = true then (some false) else (if (p0_4 != p1_4) = true then (some false) else (some true)))))
def laws_eqScreen.post (sb s : St) (F0 : Fp) (r : Bool) : Value → St → Prop := fun v s' => v = .bool r ∧ Hp sb s F0 s' []
set_option maxRecDepth 100000 in
set_option maxHeartbeats 4000000 in
theorem laws_eqScreen.ok (sb s : St) (F0 : Fp) (p0_0 : Int) (p0_1 : Int) (A0_2p : Option Addr) (c0_2p : Nat) (p0_2 : List (Int)) (p0_3 : Int) (p0_4 : Int) (p1_0 : Int) (p1_1 : Int) (A1_2p : Option Addr) (c1_2p : Nat) (p1_2 : List (Int)) (p1_3 : Int) (p1_4 : Int) (HRp0_2 : Rd KI sb A0_2p c0_2p p0_2) (HRp1_2 : Rd KI sb A1_2p c1_2p p1_2) (hH : Hp sb s F0 s []) (r : Bool) (H : laws_eqScreen.f p0_0 p0_1 p0_2 p0_3 p0_4 p1_0 p1_1 p1_2 p1_3 p1_4 = some r) : GCall Try.prog 13 #[.agg #[.int .i64 p0_0, .int .i64 p0_1, .slice A0_2p p0_2.length c0_2p, .int .i64 p0_3, .int .i64 p0_4], .agg #[.int .i64 p1_0, .int .i64 p1_1, .slice A1_2p p1_2.length c1_2p, .int .i64 p1_3, .int .i64 p1_4]] s (laws_eqScreen.post sb s F0 r) := by
  refine GCall_ofk [.tmp 4] [.agg #[.int .i64 p0_0, .int .i64 p0_1, .slice A0_2p p0_2.length c0_2p, .int .i64 p0_3, .int .i64 p0_4], .agg #[.int .i64 p1_0, .int .i64 p1_1, .slice A1_2p p1_2.length c1_2p, .int .i64 p1_3, .int .i64 p1_4], undef, undef, undef, undef, undef, undef, undef, undef, undef, undef, undef, undef, undef, undef, undef, undef, undef, undef, undef, undef, undef, undef, undef, undef, undef, undef, undef, undef, undef] Try.func13 rfl rfl rfl ?_
  intro w Q hQr hQn hQp
  replace H := topE H
  unfold laws_eqScreen.f at H
  refine HT_seq_k ?_
  intro K1 hK1
  refine HT_region ?_
  refine HL_cons rfl ?_
  refine o_boxH hH rfl ?_
  intro b2 s2 hH' hG
  replace hH : Hp sb s F0 s2 [Ck.ov b2 [.int .i64 p0_0, .int .i64 p0_1, .slice A0_2p p0_2.length c0_2p, .int .i64 p0_3, .int .i64 p0_4] 27] := hH'
  clear hH' hG
  try dsimp only [putL, setL, evL, getL]
  refine HL_cons rfl ?_
  refine o_boxH hH rfl ?_
  intro b3 s3 hH' hG
  replace hH : Hp sb s F0 s3 [Ck.ov b2 [.int .i64 p0_0, .int .i64 p0_1, .slice A0_2p p0_2.length c0_2p, .int .i64 p0_3, .int .i64 p0_4] 27, Ck.ov b3 [.int .i64 p1_0, .int .i64 p1_1, .slice A1_2p p1_2.length c1_2p, .int .i64 p1_3, .int .i64 p1_4] 27] := hH'
  clear hH' hG
  try dsimp only [putL, setL, evL, getL]
  refine HL_cons rfl ?_
  refine o_assign ?_
  try dsimp only [putL, setL, evL, getL]
  refine HL_nil ?_
  refine hK1 _ _ ?_
  refine HT_seq_k ?_
  intro K4 hK4
  refine HT_seq_k ?_
  intro K5 hK5
  refine HT_region ?_
  refine HL_cons rfl ?_
  refine o_faddr' (ft := 3) (off := 0) rfl Try.underlying27 rfl tI3 (by decide) ?_
  try dsimp only [putL, setL, evL, getL]
  refine HL_cons rfl ?_
  refine o_load' rfl Try.underlying3 rfl (hH.hasv 0 rfl rfl) ?_
  try dsimp only [putL, setL, evL, getL]
  refine HL_cons rfl ?_
  refine o_faddr' (ft := 3) (off := 0) rfl Try.underlying27 rfl tI3 (by decide) ?_
  try dsimp only [putL, setL, evL, getL]
  refine HL_cons rfl ?_
  refine o_load' rfl Try.underlying3 rfl (hH.hasv 1 rfl rfl) ?_
  try dsimp only [putL, setL, evL, getL]
  refine HL_cons rfl ?_
  refine o_bin rfl rfl rfl ?_
  try dsimp only [putL, setL, evL, getL]
  refine HL_nil ?_
  refine hK5 _ _ ?_
  rcases Bool.eq_false_or_eq_true (p0_0 != p1_0) with hb6 | hb6
  · replace H := iteT hb6 H
    refine HT_true (congrArg Value.bool hb6) ?_
    refine HT_seq_k ?_
    intro K7 hK7
    refine HT_region ?_
    refine HL_cons rfl ?_
    refine o_assign ?_
    try dsimp only [putL, setL, evL, getL]
    refine HL_nil ?_
    refine hK7 _ _ ?_
    refine HT_ret ?_
    obtain rfl := Option.some.inj (show some _ = some r from H)
    exact hQr _ _ [.bool false] ⟨rfl, trivial⟩ ⟨rfl, hH.sel [] (by decide)⟩
  · replace H := iteF hb6 H
    refine HT_false (congrArg Value.bool hb6) ?_
    refine HT_skip ?_
    refine hK4 _ _ ?_
    refine HT_seq_k ?_
    intro K8 hK8
    refine HT_seq_k ?_
    intro K9 hK9
    refine HT_region ?_
    refine HL_cons rfl ?_
    refine o_faddr' (ft := 3) (off := 1) rfl Try.underlying27 rfl tI3 (by decide) ?_
    try dsimp only [putL, setL, evL, getL]
    refine HL_cons rfl ?_
    refine o_load' rfl Try.underlying3 rfl (hH.hasv 0 rfl rfl) ?_
    try dsimp only [putL, setL, evL, getL]
    refine HL_cons rfl ?_
    refine o_faddr' (ft := 3) (off := 1) rfl Try.underlying27 rfl tI3 (by decide) ?_
    try dsimp only [putL, setL, evL, getL]
    refine HL_cons rfl ?_
    refine o_load' rfl Try.underlying3 rfl (hH.hasv 1 rfl rfl) ?_
    try dsimp only [putL, setL, evL, getL]
    refine HL_cons rfl ?_
    refine o_bin rfl rfl rfl ?_
    try dsimp only [putL, setL, evL, getL]
    refine HL_nil ?_
    refine hK9 _ _ ?_
    rcases Bool.eq_false_or_eq_true (p0_1 != p1_1) with hb10 | hb10
    · replace H := iteT hb10 H
      refine HT_true (congrArg Value.bool hb10) ?_
      refine HT_seq_k ?_
      intro K11 hK11
      refine HT_region ?_
      refine HL_cons rfl ?_
      refine o_assign ?_
      try dsimp only [putL, setL, evL, getL]
      refine HL_nil ?_
      refine hK11 _ _ ?_
      refine HT_ret ?_
      obtain rfl := Option.some.inj (show some _ = some r from H)
      exact hQr _ _ [.bool false] ⟨rfl, trivial⟩ ⟨rfl, hH.sel [] (by decide)⟩
    · replace H := iteF hb10 H
      refine HT_false (congrArg Value.bool hb10) ?_
      refine HT_skip ?_
      refine hK8 _ _ ?_
      refine HT_seq_k ?_
      intro K12 hK12
      refine HT_seq_k ?_
      intro K13 hK13
      refine HT_region ?_
      refine HL_cons rfl ?_
      refine o_faddr' (ft := 22) (off := 2) rfl Try.underlying27 rfl tI22 (by decide) ?_
      try dsimp only [putL, setL, evL, getL]
      refine HL_cons rfl ?_
      refine o_load' rfl Try.underlying22 rfl (hH.hasv 0 rfl rfl) ?_
      try dsimp only [putL, setL, evL, getL]
      refine HL_cons rfl ?_
      refine o_faddr' (ft := 22) (off := 2) rfl Try.underlying27 rfl tI22 (by decide) ?_
      try dsimp only [putL, setL, evL, getL]
      refine HL_cons rfl ?_
      refine o_load' rfl Try.underlying22 rfl (hH.hasv 1 rfl rfl) ?_
      try dsimp only [putL, setL, evL, getL]
      obtain ⟨u14, hu14, H⟩ := headE H
      refine HL_cons rfl ?_
      refine o_call (args := #[.slice A0_2p p0_2.length c0_2p, .slice A1_2p p1_2.length c1_2p]) Try.func17 rfl rfl rfl (laws_eqIntS.ok sb s3 no A0_2p c0_2p p0_2 A1_2p c1_2p p1_2 HRp0_2 HRp1_2 (Hp.own hH.bs) _ hu14) ?_
      rintro _ s14 ⟨rfl, hD⟩
      replace hH := hH.back0 hD (Up.refl _ _ _)
      clear hD
      dsimp only [addC, setC, rmC, selC, getC] at hH
      try dsimp only [putL, setL, evL, getL]
      refine HL_cons rfl ?_
      refine o_not rfl ?_
      try dsimp only [putL, setL, evL, getL]
      refine HL_nil ?_
      refine hK13 _ _ ?_
      rcases Bool.eq_false_or_eq_true (!u14) with hb15 | hb15
      · replace H := iteT hb15 H
        refine HT_true (congrArg Value.bool hb15) ?_
        refine HT_seq_k ?_
        intro K16 hK16
        refine HT_region ?_
        refine HL_cons rfl ?_
        refine o_assign ?_
        try dsimp only [putL, setL, evL, getL]
        refine HL_nil ?_
        refine hK16 _ _ ?_
        refine HT_ret ?_
        obtain rfl := Option.some.inj (show some _ = some r from H)
        exact hQr _ _ [.bool false] ⟨rfl, trivial⟩ ⟨rfl, hH.sel [] (by decide)⟩
      · replace H := iteF hb15 H
        refine HT_false (congrArg Value.bool hb15) ?_
        refine HT_skip ?_
        refine hK12 _ _ ?_
        refine HT_seq_k ?_
        intro K17 hK17
        refine HT_seq_k ?_
        intro K18 hK18
        refine HT_region ?_
        refine HL_cons rfl ?_
        refine o_faddr' (ft := 3) (off := 3) rfl Try.underlying27 rfl tI3 (by decide) ?_
        try dsimp only [putL, setL, evL, getL]
        refine HL_cons rfl ?_
        refine o_load' rfl Try.underlying3 rfl (hH.hasv 0 rfl rfl) ?_
        try dsimp only [putL, setL, evL, getL]
        refine HL_cons rfl ?_
        refine o_faddr' (ft := 3) (off := 3) rfl Try.underlying27 rfl tI3 (by decide) ?_
        try dsimp only [putL, setL, evL, getL]
        refine HL_cons rfl ?_
        refine o_load' rfl Try.underlying3 rfl (hH.hasv 1 rfl rfl) ?_
        try dsimp only [putL, setL, evL, getL]
        refine HL_cons rfl ?_
        refine o_bin rfl rfl rfl ?_
        try dsimp only [putL, setL, evL, getL]
        refine HL_nil ?_
        refine hK18 _ _ ?_
        rcases Bool.eq_false_or_eq_true (p0_3 != p1_3) with hb19 | hb19
        · replace H := iteT hb19 H
          refine HT_true (congrArg Value.bool hb19) ?_
          refine HT_seq_k ?_
          intro K20 hK20
          refine HT_region ?_
          refine HL_cons rfl ?_
          refine o_assign ?_
          try dsimp only [putL, setL, evL, getL]
          refine HL_nil ?_
          refine hK20 _ _ ?_
          refine HT_ret ?_
          obtain rfl := Option.some.inj (show some _ = some r from H)
          exact hQr _ _ [.bool false] ⟨rfl, trivial⟩ ⟨rfl, hH.sel [] (by decide)⟩
        · replace H := iteF hb19 H
          refine HT_false (congrArg Value.bool hb19) ?_
          refine HT_skip ?_
          refine hK17 _ _ ?_
          refine HT_seq_k ?_
          intro K21 hK21
          refine HT_seq_k ?_
          intro K22 hK22
          refine HT_region ?_
          refine HL_cons rfl ?_
          refine o_faddr' (ft := 3) (off := 4) rfl Try.underlying27 rfl tI3 (by decide) ?_
          try dsimp only [putL, setL, evL, getL]
          refine HL_cons rfl ?_
          refine o_load' rfl Try.underlying3 rfl (hH.hasv 0 rfl rfl) ?_
          try dsimp only [putL, setL, evL, getL]
          refine HL_cons rfl ?_
          refine o_faddr' (ft := 3) (off := 4) rfl Try.underlying27 rfl tI3 (by decide) ?_
          try dsimp only [putL, setL, evL, getL]
          refine HL_cons rfl ?_
          refine o_load' rfl Try.underlying3 rfl (hH.hasv 1 rfl rfl) ?_
          try dsimp only [putL, setL, evL, getL]
          refine HL_cons rfl ?_
          refine o_bin rfl rfl rfl ?_
          try dsimp only [putL, setL, evL, getL]
          refine HL_nil ?_
          refine hK22 _ _ ?_
          rcases Bool.eq_false_or_eq_true (p0_4 != p1_4) with hb23 | hb23
          · replace H := iteT hb23 H
            refine HT_true (congrArg Value.bool hb23) ?_
            refine HT_seq_k ?_
            intro K24 hK24
            refine HT_region ?_
            refine HL_cons rfl ?_
            refine o_assign ?_
            try dsimp only [putL, setL, evL, getL]
            refine HL_nil ?_
            refine hK24 _ _ ?_
            refine HT_ret ?_
            obtain rfl := Option.some.inj (show some _ = some r from H)
            exact hQr _ _ [.bool false] ⟨rfl, trivial⟩ ⟨rfl, hH.sel [] (by decide)⟩
          · replace H := iteF hb23 H
            refine HT_false (congrArg Value.bool hb23) ?_
            refine HT_skip ?_
            refine hK21 _ _ ?_
            refine HT_seq_k ?_
            intro K25 hK25
            refine HT_region ?_
            refine HL_cons rfl ?_
            refine o_assign ?_
            try dsimp only [putL, setL, evL, getL]
            refine HL_nil ?_
            refine hK25 _ _ ?_
            refine HT_ret ?_
            obtain rfl := Option.some.inj (show some _ = some r from H)
            exact hQr _ _ [.bool true] ⟨rfl, trivial⟩ ⟨rfl, hH.sel [] (by decide)⟩
def laws_markIntS.l1 (p0 : List (Int)) : Nat → (List (Int)) → Int → Int → Option (Int × (List (Int)))
  | 0, _, _, _ => none
  | kf + 1, x42, x43, x44 => if (decide (x44 < (p0.length : Int))) = true then ((rd? x42 x44).bind fun u61 => (st? x42 x44 x43).bind fun x62 => laws_markIntS.l1 p0 kf x62 (IntKind.i64.wrap (x43 + 1)) (IntKind.i64.wrap (x44 + 1))) else (some (x43, x42))
def laws_markIntS.f (p0 : List (Int)) (p1 : Int) : Option (Int × (List (Int))) := (laws_markIntS.l1 p0 ((((p0.length : Int)) - (0)).toNat + 2) p0 p1 0).bind fun (o : Int × (List (Int))) => match o with | (x33, x34) => (some (x33, x34))
def laws_markIntS.post (sb s : St) (F0 : Fp) (A0p : Option Addr) (c0p : Nat) (p0 : List (Int)) (r : Int × (List (Int))) : Value → St → Prop := fun v s' => v = .int .i64 r.1 ∧ Hp sb s F0 s' [Ck.ol OI 3 A0p c0p r.2] ∧ r.2.length = p0.length
set_option maxRecDepth 100000 in
set_option maxHeartbeats 4000000 in
theorem laws_markIntS.ok (sb s : St) (F0 : Fp) (A0p : Option Addr) (c0p : Nat) (p0 : List (Int)) (p1 : Int) (hH : Hp sb s F0 s [Ck.ol OI 3 A0p c0p p0]) (r : Int × (List (Int))) (H : laws_markIntS.f p0 p1 = some r) : GCall Try.prog 24 #[.slice A0p p0.length c0p, .int .i64 p1] s (laws_markIntS.post sb s F0 A0p c0p p0 r) := by
  refine GCall_ofk [.tmp 4] [.slice A0p p0.length c0p, .int .i64 p1, undef, undef, undef, undef, undef, undef, undef, undef, undef, undef, undef, undef, undef, undef, undef, undef, undef] Try.func24 rfl rfl rfl ?_
  intro w Q hQr hQn hQp
  replace H := topE H
  unfold laws_markIntS.f at H
  refine HT_seq_k ?_
  intro K1 hK1
  refine HT_region ?_
  refine HL_cons rfl ?_
  refine o_assign ?_
  try dsimp only [putL, setL, evL, getL]
  refine HL_nil ?_
  refine hK1 _ _ ?_
  refine HT_seq_k ?_
  intro K2 hK2
  refine HT_seq_k ?_
  intro K3 hK3
  refine HT_region ?_
  refine HL_cons rfl ?_
  refine o_assign ?_
  try dsimp only [putL, setL, evL, getL]
  refine HL_nil ?_
  refine hK3 _ _ ?_
  refine joinH H fun G4 hG4 H => ?_
  refine HT_toK (fun l' s' => ∃ (x33 : Int) (x34 : List (Int)), G4 (x33, x34) = some r ∧ l' = [.slice A0p p0.length c0p, .int .i64 x33, undef, undef, .int .i64 0, getL l' 5, getL l' 6, getL l' 7, getL l' 8, getL l' 9, getL l' 10, getL l' 11, getL l' 12, getL l' 13, getL l' 14, getL l' 15, getL l' 16, getL l' 17, undef] ∧ Hp sb s F0 s' [Ck.ol OI 3 A0p c0p x34] ∧ x34.length = p0.length) ?_ ?_
  · intro K4 hK4
    refine HT_block ?_
    refine HT_loopK (fun kf l' s' => ∃ (x42 : List (Int)) (x43 : Int) (x44 : Int), (laws_markIntS.l1 p0 kf x42 x43 x44).bind G4 = some r ∧ l' = [.slice A0p p0.length c0p, .int .i64 x43, undef, undef, .int .i64 0, .int .i64 x44, getL l' 6, getL l' 7, getL l' 8, getL l' 9, getL l' 10, getL l' 11, getL l' 12, getL l' 13, getL l' 14, getL l' 15, getL l' 16, getL l' 17, undef] ∧ Hp sb s F0 s' [Ck.ol OI 3 A0p c0p x42] ∧ x42.length = p0.length) ((((p0.length : Int)) - (0)).toNat + 2) ⟨p0, p1, 0, H, rfl, hH, rfl⟩ ?_
    rintro kf l' s55 ⟨x42, x43, x44, H, hl, hH, hl42⟩ K55 hK55
    generalize getL l' 6 = j6, getL l' 7 = j7, getL l' 8 = j8, getL l' 9 = j9, getL l' 10 = j10, getL l' 11 = j11, getL l' 12 = j12, getL l' 13 = j13, getL l' 14 = j14, getL l' 15 = j15, getL l' 16 = j16, getL l' 17 = j17 at hl
    subst hl
    cases kf with
    | zero => simp [laws_markIntS.l1] at H
    | succ kf =>
      rw [laws_markIntS.l1] at H
      refine HT_seq_k ?_
      intro K56 hK56
      refine HT_seq_k ?_
      intro K57 hK57
      refine HT_region ?_
      refine HL_cons rfl ?_
      refine o_move ?_
      try dsimp only [putL, setL, evL, getL]
      refine HL_cons rfl ?_
      refine o_move ?_
      try dsimp only [putL, setL, evL, getL]
      refine HL_cons rfl ?_
      refine o_len rfl Try.underlying22 ?_
      try dsimp only [putL, setL, evL, getL]
      refine HL_cons rfl ?_
      refine o_bin rfl rfl rfl ?_
      try dsimp only [putL, setL, evL, getL]
      refine HL_nil ?_
      refine hK57 _ _ ?_
      rcases Bool.eq_false_or_eq_true (decide (x44 < (p0.length : Int))) with hb58 | hb58
      · replace H := iteT hb58 H
        refine HT_true (congrArg Value.bool hb58) ?_
        refine HT_skip ?_
        refine hK56 _ _ ?_
        refine HT_seq_k ?_
        intro K59 hK59
        refine HT_block ?_
        refine HT_seq_k ?_
        intro K60 hK60
        refine HT_region ?_
        refine HL_cons rfl ?_
        refine o_move ?_
        try dsimp only [putL, setL, evL, getL]
        refine HL_cons rfl ?_
        refine o_move ?_
        try dsimp only [putL, setL, evL, getL]
        refine HL_cons rfl ?_
        refine o_move ?_
        try dsimp only [putL, setL, evL, getL]
        obtain ⟨u61, hu61, H⟩ := headE H
        obtain ⟨b61, o61, cs61, hA61, hr61, hh61, hel61⟩ := hH.elo 0 rfl hu61
        obtain rfl := hr61
        refine HL_cons rfl ?_
        refine hel61 s55 (sliceLen hl42) rfl Try.underlying22 tI3 ?_
        try dsimp only [putL, setL, evL, getL]
        obtain ⟨x62, hx62, H⟩ := headE H
        refine HL_cons rfl ?_
        refine o_setF (vs := [.int .i64 x43]) (u := x43) hH 0 rfl rfl rfl rfl rfl tI3 hA61 hx62 (Ent.own (Ent.flat rfl)) ?_
        intro s62 hH'
        have hl62 := (st?_len hx62).trans hl42
        replace hH : Hp sb s F0 s62 [Ck.ol OI 3 A0p c0p x62] := hH'
        clear hH'
        try dsimp only [putL, setL, evL, getL]
        refine HL_nil ?_
        refine hK60 _ _ ?_
        refine HT_region ?_
        refine HL_cons rfl ?_
        refine o_move ?_
        try dsimp only [putL, setL, evL, getL]
        refine HL_cons rfl ?_
        refine o_bin rfl rfl rfl ?_
        try dsimp only [putL, setL, evL, getL]
        refine HL_cons rfl ?_
        refine o_assign ?_
        try dsimp only [putL, setL, evL, getL]
        refine HL_nil ?_
        refine hK59 _ _ ?_
        refine HT_region ?_
        refine HL_cons rfl ?_
        refine o_move ?_
        try dsimp only [putL, setL, evL, getL]
        refine HL_cons rfl ?_
        refine o_bin rfl rfl rfl ?_
        try dsimp only [putL, setL, evL, getL]
        refine HL_cons rfl ?_
        refine o_assign ?_
        try dsimp only [putL, setL, evL, getL]
        refine HL_nil ?_
        exact hK55 _ _ ⟨kf, Nat.lt_succ_self kf, x62, IntKind.i64.wrap (x43 + 1), IntKind.i64.wrap (x44 + 1), H, rfl, hH, hl62⟩
      · replace H := iteF hb58 H
        refine HT_false (congrArg Value.bool hb58) ?_
        refine HT_exit ?_
        exact hK4 _ _ ⟨x43, x42, H, rfl, hH, hl42⟩
  · rintro l' s63 ⟨x33, x34, H, hl, hH, hl34⟩
    generalize getL l' 5 = j5, getL l' 6 = j6, getL l' 7 = j7, getL l' 8 = j8, getL l' 9 = j9, getL l' 10 = j10, getL l' 11 = j11, getL l' 12 = j12, getL l' 13 = j13, getL l' 14 = j14, getL l' 15 = j15, getL l' 16 = j16, getL l' 17 = j17 at hl
    subst hl
    replace H := hG4 _ H
    try dsimp only at H
    refine hK2 _ _ ?_
    refine HT_seq_k ?_
    intro K64 hK64
    refine HT_region ?_
    refine HL_cons rfl ?_
    refine o_move ?_
    try dsimp only [putL, setL, evL, getL]
    refine HL_cons rfl ?_
    refine o_assign ?_
    try dsimp only [putL, setL, evL, getL]
    refine HL_nil ?_
    refine hK64 _ _ ?_
    refine HT_ret ?_
    obtain rfl := Option.some.inj (show some _ = some r from H)
    exact hQr _ _ [.int .i64 x33] ⟨rfl, trivial⟩ ⟨rfl, hH, hl34⟩
def laws_markScreen.f (p0_0 : Int) (p0_1 : Int) (p0_2 : List (Int)) (p0_3 : Int) (p0_4 : Int) (p1 : Int) : Option (Int × (List (Int))) := (laws_markIntS.f p0_2 p1).bind fun u4 => some (u4.1, u4.2)
def laws_markScreen.post (sb s : St) (F0 : Fp) (A0_2p : Option Addr) (c0_2p : Nat) (p0_2 : List (Int)) (r : Int × (List (Int))) : Value → St → Prop := fun v s' => v = .int .i64 r.1 ∧ Hp sb s F0 s' [Ck.ol OI 3 A0_2p c0_2p r.2] ∧ r.2.length = p0_2.length
set_option maxRecDepth 100000 in
set_option maxHeartbeats 4000000 in
theorem laws_markScreen.ok (sb s : St) (F0 : Fp) (p0_0 : Int) (p0_1 : Int) (A0_2p : Option Addr) (c0_2p : Nat) (p0_2 : List (Int)) (p0_3 : Int) (p0_4 : Int) (p1 : Int) (hH : Hp sb s F0 s [Ck.ol OI 3 A0_2p c0_2p p0_2]) (r : Int × (List (Int))) (H : laws_markScreen.f p0_0 p0_1 p0_2 p0_3 p0_4 p1 = some r) : GCall Try.prog 20 #[.agg #[.int .i64 p0_0, .int .i64 p0_1, .slice A0_2p p0_2.length c0_2p, .int .i64 p0_3, .int .i64 p0_4], .int .i64 p1] s (laws_markScreen.post sb s F0 A0_2p c0_2p p0_2 r) := by
  refine GCall_ofk [.tmp 4] [.agg #[.int .i64 p0_0, .int .i64 p0_1, .slice A0_2p p0_2.length c0_2p, .int .i64 p0_3, .int .i64 p0_4], .int .i64 p1, undef, undef, undef, undef, undef, undef, undef, undef] Try.func20 rfl rfl rfl ?_
  intro w Q hQr hQn hQp
  replace H := topE H
  unfold laws_markScreen.f at H
  refine HT_seq_k ?_
  intro K1 hK1
  refine HT_region ?_
  refine HL_cons rfl ?_
  refine o_boxH hH rfl ?_
  intro b2 s2 hH' hG
  replace hH : Hp sb s F0 s2 [Ck.ol OI 3 A0_2p c0_2p p0_2, Ck.ov b2 [.int .i64 p0_0, .int .i64 p0_1, .slice A0_2p p0_2.length c0_2p, .int .i64 p0_3, .int .i64 p0_4] 27] := hH'
  clear hH' hG
  try dsimp only [putL, setL, evL, getL]
  refine HL_cons rfl ?_
  refine o_assign ?_
  try dsimp only [putL, setL, evL, getL]
  refine HL_nil ?_
  refine hK1 _ _ ?_
  refine HT_seq_k ?_
  intro K3 hK3
  refine HT_region ?_
  refine HL_cons rfl ?_
  refine o_faddr' (ft := 22) (off := 2) rfl Try.underlying27 rfl tI22 (by decide) ?_
  try dsimp only [putL, setL, evL, getL]
  refine HL_cons rfl ?_
  refine o_load' rfl Try.underlying22 rfl (hH.hasv 1 rfl rfl) ?_
  try dsimp only [putL, setL, evL, getL]
  refine HL_cons rfl ?_
  refine o_move ?_
  try dsimp only [putL, setL, evL, getL]
  obtain ⟨u4, hu4, H⟩ := headE H
  obtain ⟨F1, hA, hB⟩ := hH.take [0] (by decide)
  dsimp only [addC, setC, rmC, selC, getC] at hA
  refine HL_cons rfl ?_
  refine o_call (args := #[.slice A0_2p p0_2.length c0_2p, .int .i64 p1]) Try.func24 rfl rfl rfl (laws_markIntS.ok sb s2 F1 A0_2p c0_2p p0_2 p1 hA _ hu4) ?_
  rintro _ s4 ⟨rfl, hD, hl5⟩
  replace hH := hB _ _ _ (Up.refl _ _ _) hD
  clear hD hA hB
  dsimp only [addC, setC, rmC, selC, getC] at hH
  try dsimp only [putL, setL, evL, getL]
  refine HL_cons rfl ?_
  refine o_assign ?_
  try dsimp only [putL, setL, evL, getL]
  refine HL_nil ?_
  refine hK3 _ _ ?_
  refine HT_seq_k ?_
  intro K6 hK6
  refine HT_region ?_
  refine HL_cons rfl ?_
  refine o_move ?_
  try dsimp only [putL, setL, evL, getL]
  refine HL_cons rfl ?_
  refine o_assign ?_
  try dsimp only [putL, setL, evL, getL]
  refine HL_nil ?_
  refine hK6 _ _ ?_
  refine HT_ret ?_
  obtain rfl := Option.some.inj (show some _ = some r from H)
  exact hQr _ _ [.int .i64 u4.1] ⟨rfl, trivial⟩ ⟨rfl, hH.sel [2] (by decide), hl5⟩
def laws_heldIntS.l1 (p0 : List (Int)) : Nat → Int → Int → Option (Lo Int Int)
  | 0, _, _ => none
  | kf + 1, x47, x48 => if (decide (x48 < (p0.length : Int))) = true then ((rd? p0 x48).bind fun u67 => if (u67 != x47) = true then ((some (-1)).bind fun z => some (Lo.ret z)) else (laws_heldIntS.l1 p0 kf (IntKind.i64.wrap (x47 + 1)) (IntKind.i64.wrap (x48 + 1)))) else (some (Lo.go x47))
def laws_heldIntS.f (p0 : List (Int)) (p1 : Int) : Option Int := (laws_heldIntS.l1 p0 ((((p0.length : Int)) - (0)).toNat + 2) p1 0).bind fun (o : Lo Int Int) => match o with | .go x37 => (some x37) | .ret z => some z
def laws_heldIntS.post (sb s : St) (F0 : Fp) (r : Int) : Value → St → Prop := fun v s' => v = .int .i64 r ∧ Hp sb s F0 s' []
set_option maxRecDepth 100000 in
set_option maxHeartbeats 4000000 in
theorem laws_heldIntS.ok (sb s : St) (F0 : Fp) (A0p : Option Addr) (c0p : Nat) (p0 : List (Int)) (p1 : Int) (HRp0 : Rd KI sb A0p c0p p0) (hH : Hp sb s F0 s []) (r : Int) (H : laws_heldIntS.f p0 p1 = some r) : GCall Try.prog 25 #[.slice A0p p0.length c0p, .int .i64 p1] s (laws_heldIntS.post sb s F0 r) := by
  refine GCall_ofk [.tmp 4] [.slice A0p p0.length c0p, .int .i64 p1, undef, undef, undef, undef, undef, undef, undef, undef, undef, undef, undef, undef, undef, undef, undef, undef, undef, undef, undef] Try.func25 rfl rfl rfl ?_
  intro w Q hQr hQn hQp
  replace H := topE H
  unfold laws_heldIntS.f at H
  refine HT_seq_k ?_
  intro K1 hK1
  refine HT_region ?_
  refine HL_cons rfl ?_
  refine o_assign ?_
  try dsimp only [putL, setL, evL, getL]
  refine HL_nil ?_
  refine hK1 _ _ ?_
  refine HT_seq_k ?_
  intro K2 hK2
  refine HT_seq_k ?_
  intro K3 hK3
  refine HT_region ?_
  refine HL_cons rfl ?_
  refine o_assign ?_
  try dsimp only [putL, setL, evL, getL]
  refine HL_nil ?_
  refine hK3 _ _ ?_
  refine joinH H fun G4 hG4 H => ?_
  refine HT_toK (fun l' s' => ∃ (x37 : Int), G4 (.go x37) = some r ∧ l' = [.slice A0p p0.length c0p, .int .i64 x37, undef, undef, getL l' 4, getL l' 5, getL l' 6, getL l' 7, getL l' 8, getL l' 9, getL l' 10, getL l' 11, getL l' 12, getL l' 13, getL l' 14, getL l' 15, getL l' 16, getL l' 17, getL l' 18, getL l' 19, undef] ∧ Hp sb s F0 s' []) ?_ ?_
  · intro K4 hK4
    refine HT_block ?_
    refine HT_loopK (fun kf l' s' => ∃ (x47 : Int) (x48 : Int), (laws_heldIntS.l1 p0 kf x47 x48).bind G4 = some r ∧ l' = [.slice A0p p0.length c0p, .int .i64 x47, undef, undef, getL l' 4, .int .i64 x48, getL l' 6, getL l' 7, getL l' 8, getL l' 9, getL l' 10, getL l' 11, getL l' 12, getL l' 13, getL l' 14, getL l' 15, getL l' 16, getL l' 17, getL l' 18, getL l' 19, undef] ∧ Hp sb s F0 s' []) ((((p0.length : Int)) - (0)).toNat + 2) ⟨p1, 0, H, rfl, hH⟩ ?_
    rintro kf l' s60 ⟨x47, x48, H, hl, hH⟩ K60 hK60
    generalize getL l' 4 = j4, getL l' 6 = j6, getL l' 7 = j7, getL l' 8 = j8, getL l' 9 = j9, getL l' 10 = j10, getL l' 11 = j11, getL l' 12 = j12, getL l' 13 = j13, getL l' 14 = j14, getL l' 15 = j15, getL l' 16 = j16, getL l' 17 = j17, getL l' 18 = j18, getL l' 19 = j19 at hl
    subst hl
    cases kf with
    | zero => simp [laws_heldIntS.l1] at H
    | succ kf =>
      rw [laws_heldIntS.l1] at H
      refine HT_seq_k ?_
      intro K61 hK61
      refine HT_seq_k ?_
      intro K62 hK62
      refine HT_region ?_
      refine HL_cons rfl ?_
      refine o_move ?_
      try dsimp only [putL, setL, evL, getL]
      refine HL_cons rfl ?_
      refine o_move ?_
      try dsimp only [putL, setL, evL, getL]
      refine HL_cons rfl ?_
      refine o_len rfl Try.underlying22 ?_
      try dsimp only [putL, setL, evL, getL]
      refine HL_cons rfl ?_
      refine o_bin rfl rfl rfl ?_
      try dsimp only [putL, setL, evL, getL]
      refine HL_nil ?_
      refine hK62 _ _ ?_
      rcases Bool.eq_false_or_eq_true (decide (x48 < (p0.length : Int))) with hb63 | hb63
      · replace H := iteT hb63 H
        refine HT_true (congrArg Value.bool hb63) ?_
        refine HT_skip ?_
        refine hK61 _ _ ?_
        refine HT_seq_k ?_
        intro K64 hK64
        refine HT_block ?_
        refine HT_seq_k ?_
        intro K65 hK65
        refine HT_seq_k ?_
        intro K66 hK66
        refine HT_region ?_
        refine HL_cons rfl ?_
        refine o_move ?_
        try dsimp only [putL, setL, evL, getL]
        refine HL_cons rfl ?_
        refine o_move ?_
        try dsimp only [putL, setL, evL, getL]
        obtain ⟨u67, hu67, H⟩ := headE H
        obtain ⟨b67, o67, cs67, hr67, hh67, hel67⟩ := Rd.elb HRp0 hu67
        obtain rfl := hr67
        refine HL_cons rfl ?_
        refine hel67 s60 rfl rfl Try.underlying22 tI3 ?_
        try dsimp only [putL, setL, evL, getL]
        refine HL_cons rfl ?_
        refine o_load' rfl Try.underlying3 rfl ((hh67 hH.bs.mono) 0 _ rfl) ?_
        try dsimp only [putL, setL, evL, getL]
        refine HL_cons rfl ?_
        refine o_move ?_
        try dsimp only [putL, setL, evL, getL]
        refine HL_cons rfl ?_
        refine o_bin rfl rfl rfl ?_
        try dsimp only [putL, setL, evL, getL]
        refine HL_nil ?_
        refine hK66 _ _ ?_
        rcases Bool.eq_false_or_eq_true (u67 != x47) with hb68 | hb68
        · replace H := iteT hb68 H
          refine HT_true (congrArg Value.bool hb68) ?_
          refine HT_seq_k ?_
          intro K69 hK69
          refine HT_region ?_
          refine HL_cons rfl ?_
          refine o_assign ?_
          try dsimp only [putL, setL, evL, getL]
          refine HL_nil ?_
          refine hK69 _ _ ?_
          refine HT_ret ?_
          replace H := escH (fun z hz => hG4 _ hz) H
          obtain rfl := Option.some.inj (show some _ = some r from H)
          exact hQr _ _ [.int .i64 (-1)] ⟨rfl, trivial⟩ ⟨rfl, hH⟩
        · replace H := iteF hb68 H
          refine HT_false (congrArg Value.bool hb68) ?_
          refine HT_skip ?_
          refine hK65 _ _ ?_
          refine HT_region ?_
          refine HL_cons rfl ?_
          refine o_move ?_
          try dsimp only [putL, setL, evL, getL]
          refine HL_cons rfl ?_
          refine o_bin rfl rfl rfl ?_
          try dsimp only [putL, setL, evL, getL]
          refine HL_cons rfl ?_
          refine o_assign ?_
          try dsimp only [putL, setL, evL, getL]
          refine HL_nil ?_
          refine hK64 _ _ ?_
          refine HT_region ?_
          refine HL_cons rfl ?_
          refine o_move ?_
          try dsimp only [putL, setL, evL, getL]
          refine HL_cons rfl ?_
          refine o_bin rfl rfl rfl ?_
          try dsimp only [putL, setL, evL, getL]
          refine HL_cons rfl ?_
          refine o_assign ?_
          try dsimp only [putL, setL, evL, getL]
          refine HL_nil ?_
          exact hK60 _ _ ⟨kf, Nat.lt_succ_self kf, IntKind.i64.wrap (x47 + 1), IntKind.i64.wrap (x48 + 1), H, rfl, hH⟩
      · replace H := iteF hb63 H
        refine HT_false (congrArg Value.bool hb63) ?_
        refine HT_exit ?_
        exact hK4 _ _ ⟨x47, H, rfl, hH⟩
  · rintro l' s70 ⟨x37, H, hl, hH⟩
    generalize getL l' 4 = j4, getL l' 5 = j5, getL l' 6 = j6, getL l' 7 = j7, getL l' 8 = j8, getL l' 9 = j9, getL l' 10 = j10, getL l' 11 = j11, getL l' 12 = j12, getL l' 13 = j13, getL l' 14 = j14, getL l' 15 = j15, getL l' 16 = j16, getL l' 17 = j17, getL l' 18 = j18, getL l' 19 = j19 at hl
    subst hl
    replace H := hG4 _ H
    try dsimp only at H
    refine hK2 _ _ ?_
    refine HT_seq_k ?_
    intro K71 hK71
    refine HT_region ?_
    refine HL_cons rfl ?_
    refine o_move ?_
    try dsimp only [putL, setL, evL, getL]
    refine HL_cons rfl ?_
    refine o_assign ?_
    try dsimp only [putL, setL, evL, getL]
    refine HL_nil ?_
    refine hK71 _ _ ?_
    refine HT_ret ?_
    obtain rfl := Option.some.inj (show some _ = some r from H)
    exact hQr _ _ [.int .i64 x37] ⟨rfl, trivial⟩ ⟨rfl, hH⟩
def laws_heldScreen.f (p0_0 : Int) (p0_1 : Int) (p0_2 : List (Int)) (p0_3 : Int) (p0_4 : Int) (p1 : Int) : Option Int := (laws_heldIntS.f p0_2 p1).bind fun u4 => if (decide (u4 < 0)) = true then (some (-1)) else (some u4)
def laws_heldScreen.post (sb s : St) (F0 : Fp) (r : Int) : Value → St → Prop := fun v s' => v = .int .i64 r ∧ Hp sb s F0 s' []
set_option maxRecDepth 100000 in
set_option maxHeartbeats 4000000 in
theorem laws_heldScreen.ok (sb s : St) (F0 : Fp) (p0_0 : Int) (p0_1 : Int) (A0_2p : Option Addr) (c0_2p : Nat) (p0_2 : List (Int)) (p0_3 : Int) (p0_4 : Int) (p1 : Int) (HRp0_2 : Rd KI sb A0_2p c0_2p p0_2) (hH : Hp sb s F0 s []) (r : Int) (H : laws_heldScreen.f p0_0 p0_1 p0_2 p0_3 p0_4 p1 = some r) : GCall Try.prog 21 #[.agg #[.int .i64 p0_0, .int .i64 p0_1, .slice A0_2p p0_2.length c0_2p, .int .i64 p0_3, .int .i64 p0_4], .int .i64 p1] s (laws_heldScreen.post sb s F0 r) := by
  refine GCall_ofk [.tmp 4] [.agg #[.int .i64 p0_0, .int .i64 p0_1, .slice A0_2p p0_2.length c0_2p, .int .i64 p0_3, .int .i64 p0_4], .int .i64 p1, undef, undef, undef, undef, undef, undef, undef, undef, undef, undef] Try.func21 rfl rfl rfl ?_
  intro w Q hQr hQn hQp
  replace H := topE H
  unfold laws_heldScreen.f at H
  refine HT_seq_k ?_
  intro K1 hK1
  refine HT_region ?_
  refine HL_cons rfl ?_
  refine o_boxH hH rfl ?_
  intro b2 s2 hH' hG
  replace hH : Hp sb s F0 s2 [Ck.ov b2 [.int .i64 p0_0, .int .i64 p0_1, .slice A0_2p p0_2.length c0_2p, .int .i64 p0_3, .int .i64 p0_4] 27] := hH'
  clear hH' hG
  try dsimp only [putL, setL, evL, getL]
  refine HL_cons rfl ?_
  refine o_assign ?_
  try dsimp only [putL, setL, evL, getL]
  refine HL_nil ?_
  refine hK1 _ _ ?_
  refine HT_seq_k ?_
  intro K3 hK3
  refine HT_region ?_
  refine HL_cons rfl ?_
  refine o_faddr' (ft := 22) (off := 2) rfl Try.underlying27 rfl tI22 (by decide) ?_
  try dsimp only [putL, setL, evL, getL]
  refine HL_cons rfl ?_
  refine o_load' rfl Try.underlying22 rfl (hH.hasv 0 rfl rfl) ?_
  try dsimp only [putL, setL, evL, getL]
  refine HL_cons rfl ?_
  refine o_move ?_
  try dsimp only [putL, setL, evL, getL]
  obtain ⟨u4, hu4, H⟩ := headE H
  refine HL_cons rfl ?_
  refine o_call (args := #[.slice A0_2p p0_2.length c0_2p, .int .i64 p1]) Try.func25 rfl rfl rfl (laws_heldIntS.ok sb s2 no A0_2p c0_2p p0_2 p1 HRp0_2 (Hp.own hH.bs) _ hu4) ?_
  rintro _ s4 ⟨rfl, hD⟩
  replace hH := hH.back0 hD (Up.refl _ _ _)
  clear hD
  dsimp only [addC, setC, rmC, selC, getC] at hH
  try dsimp only [putL, setL, evL, getL]
  refine HL_cons rfl ?_
  refine o_assign ?_
  try dsimp only [putL, setL, evL, getL]
  refine HL_nil ?_
  refine hK3 _ _ ?_
  refine HT_seq_k ?_
  intro K5 hK5
  refine HT_seq_k ?_
  intro K6 hK6
  refine HT_region ?_
  refine HL_cons rfl ?_
  refine o_move ?_
  try dsimp only [putL, setL, evL, getL]
  refine HL_cons rfl ?_
  refine o_bin rfl rfl rfl ?_
  try dsimp only [putL, setL, evL, getL]
  refine HL_nil ?_
  refine hK6 _ _ ?_
  rcases Bool.eq_false_or_eq_true (decide (u4 < 0)) with hb7 | hb7
  · replace H := iteT hb7 H
    refine HT_true (congrArg Value.bool hb7) ?_
    refine HT_seq_k ?_
    intro K8 hK8
    refine HT_region ?_
    refine HL_cons rfl ?_
    refine o_assign ?_
    try dsimp only [putL, setL, evL, getL]
    refine HL_nil ?_
    refine hK8 _ _ ?_
    refine HT_ret ?_
    obtain rfl := Option.some.inj (show some _ = some r from H)
    exact hQr _ _ [.int .i64 (-1)] ⟨rfl, trivial⟩ ⟨rfl, hH.sel [] (by decide)⟩
  · replace H := iteF hb7 H
    refine HT_false (congrArg Value.bool hb7) ?_
    refine HT_skip ?_
    refine hK5 _ _ ?_
    refine HT_seq_k ?_
    intro K9 hK9
    refine HT_region ?_
    refine HL_cons rfl ?_
    refine o_move ?_
    try dsimp only [putL, setL, evL, getL]
    refine HL_cons rfl ?_
    refine o_assign ?_
    try dsimp only [putL, setL, evL, getL]
    refine HL_nil ?_
    refine hK9 _ _ ?_
    refine HT_ret ?_
    obtain rfl := Option.some.inj (show some _ = some r from H)
    exact hQr _ _ [.int .i64 u4] ⟨rfl, trivial⟩ ⟨rfl, hH.sel [] (by decide)⟩
def laws_FnExactNewScreen.f (p0 : Int) (p1 : Int) : Option Bool := (spec_NewScreen.f p0 p1).bind fun u3 => (impl_NewScreen.f p0 p1).bind fun u8 => ((laws_eqScreen.f u8.1 u8.2.1 u8.2.2.1 u8.2.2.2.1 u8.2.2.2.2.1 u3.1 u3.2.1 u3.2.2.1 u3.2.2.2.1 u3.2.2.2.2.1).bind fun u27 => if (!u27) = true then (some true) else (some (u8.2.2.2.2.2 != u3.2.2.2.2.2))).bind fun (o : Bool) => match o with | x26 => (if x26 = true then (some false) else ((laws_markScreen.f u8.1 u8.2.1 u8.2.2.1 u8.2.2.2.1 u8.2.2.2.2.1 1).bind fun u34 => (laws_heldScreen.f u8.1 u8.2.1 u34.2 u8.2.2.2.1 u8.2.2.2.2.1 1).bind fun u38 => if (decide (u38 < 0)) = true then (some false) else (if (u38 != u34.1) = true then (some false) else ((impl_NewScreen.f p0 p1).bind fun u48 => ((laws_eqScreen.f u48.1 u48.2.1 u48.2.2.1 u48.2.2.2.1 u48.2.2.2.2.1 u3.1 u3.2.1 u3.2.2.1 u3.2.2.2.1 u3.2.2.2.2.1).bind fun u67 => if (!u67) = true then (some true) else (some (u48.2.2.2.2.2 != u3.2.2.2.2.2))).bind fun (o : Bool) => match o with | x66 => (if x66 = true then (some false) else ((laws_heldScreen.f u8.1 u8.2.1 u34.2 u8.2.2.2.1 u8.2.2.2.2.1 1).bind fun u74 => if (decide (u74 < 0)) = true then (some false) else (if (u74 != u34.1) = true then (some false) else (some true))))))))
def laws_FnExactNewScreen.post (sb s : St) (F0 : Fp) (r : Bool) : Value → St → Prop := fun v s' => v = .bool r ∧ Hp sb s F0 s' []
set_option maxRecDepth 100000 in
set_option maxHeartbeats 4000000 in
theorem laws_FnExactNewScreen.ok (sb s : St) (F0 : Fp) (p0 : Int) (p1 : Int) (hH : Hp sb s F0 s []) (r : Bool) (H : laws_FnExactNewScreen.f p0 p1 = some r) : GCall Try.prog 5 #[.int .i64 p0, .int .i64 p1] s (laws_FnExactNewScreen.post sb s F0 r) := by
  refine GCall_ofk [.tmp 4] [.int .i64 p0, .int .i64 p1, undef, undef, undef, undef, undef, undef, undef, undef, undef, undef, undef, undef, undef, undef, undef, undef, undef, undef, undef, undef, undef, undef, undef, undef, undef, undef, undef, undef, undef, undef, undef, undef, undef, undef, undef, undef, undef, undef, undef, undef, undef, undef, undef, undef, undef, undef, undef, undef, undef, undef, undef, undef, undef, undef, undef, undef, undef, undef, undef, undef, undef, undef, undef, undef, undef, undef] Try.func5 rfl rfl rfl ?_
  intro w Q hQr hQn hQp
  replace H := topE H
  unfold laws_FnExactNewScreen.f at H
  refine HT_seq_k ?_
  intro K1 hK1
  refine HT_region ?_
  refine HL_cons rfl ?_
  refine o_assign ?_
  try dsimp only [putL, setL, evL, getL]
  refine HL_nil ?_
  refine hK1 _ _ ?_
  refine HT_seq_k ?_
  intro K2 hK2
  refine HT_region ?_
  refine HL_cons rfl ?_
  refine o_move ?_
  try dsimp only [putL, setL, evL, getL]
  refine HL_cons rfl ?_
  refine o_move ?_
  try dsimp only [putL, setL, evL, getL]
  obtain ⟨u3, hu3, H⟩ := headE H
  refine HL_cons rfl ?_
  refine o_call (args := #[.int .i64 p0, .int .i64 p1]) Try.func18 rfl rfl rfl (spec_NewScreen.ok sb s no p0 p1 (Hp.own hH.bs) _ hu3) ?_
  rintro _ s3 ⟨A4, c4, rfl, hD⟩
  replace hH := hH.back0 hD (Up.refl _ _ _)
  clear hD
  dsimp only [addC, setC, rmC, selC, getC] at hH
  try dsimp only [putL, setL, evL, getL]
  refine HL_cons rfl ?_
  refine o_move ?_
  try dsimp only [putL, setL, evL, getL]
  refine HL_cons rfl ?_
  refine o_extract rfl rfl ?_
  try dsimp only [putL, setL, evL, getL]
  refine HL_cons rfl ?_
  refine o_extract rfl rfl ?_
  try dsimp only [putL, setL, evL, getL]
  refine HL_cons rfl ?_
  refine o_allocH hH tI27 ?_
  intro b5 s5 hH' hG
  replace hH : Hp sb s F0 s5 [Ck.ol OI 3 A4 c4 u3.2.2.1, Ck.ov b5 [.int .i64 0, .int .i64 0, .slice none 0 0, .int .i64 0, .int .i64 0] 27] := hH'
  clear hH' hG
  try dsimp only [putL, setL, evL, getL]
  refine HL_cons rfl ?_
  refine o_stvH (vs := [.int .i64 u3.1, .int .i64 u3.2.1, .slice A4 u3.2.2.1.length c4, .int .i64 u3.2.2.2.1, .int .i64 u3.2.2.2.2.1]) (us' := [.int .i64 u3.1, .int .i64 u3.2.1, .slice A4 u3.2.2.1.length c4, .int .i64 u3.2.2.2.1, .int .i64 u3.2.2.2.2.1]) hH 1 rfl rfl rfl rfl rfl tI27 rfl (List.cons_ne_nil _ _) rfl rfl rfl ?_
  intro s6 hH'
  replace hH : Hp sb s F0 s6 [Ck.ol OI 3 A4 c4 u3.2.2.1, Ck.ov b5 [.int .i64 u3.1, .int .i64 u3.2.1, .slice A4 u3.2.2.1.length c4, .int .i64 u3.2.2.2.1, .int .i64 u3.2.2.2.2.1] 27] := hH'
  clear hH'
  try dsimp only [putL, setL, evL, getL]
  refine HL_cons rfl ?_
  refine o_assign ?_
  try dsimp only [putL, setL, evL, getL]
  refine HL_nil ?_
  refine hK2 _ _ ?_
  refine HT_seq_k ?_
  intro K7 hK7
  refine HT_region ?_
  refine HL_cons rfl ?_
  refine o_move ?_
  try dsimp only [putL, setL, evL, getL]
  refine HL_cons rfl ?_
  refine o_move ?_
  try dsimp only [putL, setL, evL, getL]
  obtain ⟨u8, hu8, H⟩ := headE H
  refine HL_cons rfl ?_
  refine o_call (args := #[.int .i64 p0, .int .i64 p1]) Try.func19 rfl rfl rfl (impl_NewScreen.ok sb s6 no p0 p1 (Hp.own hH.bs) _ hu8) ?_
  rintro _ s8 ⟨A9, c9, rfl, hD⟩
  replace hH := hH.back0 hD (Up.refl _ _ _)
  clear hD
  dsimp only [addC, setC, rmC, selC, getC] at hH
  try dsimp only [putL, setL, evL, getL]
  refine HL_cons rfl ?_
  refine o_move ?_
  try dsimp only [putL, setL, evL, getL]
  refine HL_cons rfl ?_
  refine o_extract rfl rfl ?_
  try dsimp only [putL, setL, evL, getL]
  refine HL_cons rfl ?_
  refine o_extract rfl rfl ?_
  try dsimp only [putL, setL, evL, getL]
  refine HL_cons rfl ?_
  refine o_allocH hH tI27 ?_
  intro b10 s10 hH' hG
  replace hH : Hp sb s F0 s10 [Ck.ol OI 3 A4 c4 u3.2.2.1, Ck.ov b5 [.int .i64 u3.1, .int .i64 u3.2.1, .slice A4 u3.2.2.1.length c4, .int .i64 u3.2.2.2.1, .int .i64 u3.2.2.2.2.1] 27, Ck.ol OI 3 A9 c9 u8.2.2.1, Ck.ov b10 [.int .i64 0, .int .i64 0, .slice none 0 0, .int .i64 0, .int .i64 0] 27] := hH'
  clear hH' hG
  try dsimp only [putL, setL, evL, getL]
  refine HL_cons rfl ?_
  refine o_stvH (vs := [.int .i64 u8.1, .int .i64 u8.2.1, .slice A9 u8.2.2.1.length c9, .int .i64 u8.2.2.2.1, .int .i64 u8.2.2.2.2.1]) (us' := [.int .i64 u8.1, .int .i64 u8.2.1, .slice A9 u8.2.2.1.length c9, .int .i64 u8.2.2.2.1, .int .i64 u8.2.2.2.2.1]) hH 3 rfl rfl rfl rfl rfl tI27 rfl (List.cons_ne_nil _ _) rfl rfl rfl ?_
  intro s11 hH'
  replace hH : Hp sb s F0 s11 [Ck.ol OI 3 A4 c4 u3.2.2.1, Ck.ov b5 [.int .i64 u3.1, .int .i64 u3.2.1, .slice A4 u3.2.2.1.length c4, .int .i64 u3.2.2.2.1, .int .i64 u3.2.2.2.2.1] 27, Ck.ol OI 3 A9 c9 u8.2.2.1, Ck.ov b10 [.int .i64 u8.1, .int .i64 u8.2.1, .slice A9 u8.2.2.1.length c9, .int .i64 u8.2.2.2.1, .int .i64 u8.2.2.2.2.1] 27] := hH'
  clear hH'
  try dsimp only [putL, setL, evL, getL]
  refine HL_cons rfl ?_
  refine o_assign ?_
  try dsimp only [putL, setL, evL, getL]
  refine HL_nil ?_
  refine hK7 _ _ ?_
  refine HT_seq_k ?_
  intro K22 hK22
  refine joinH H fun G23 hG23 H => ?_
  refine HT_joinK (fun l' s' => ∃ (x26 : Bool), G23 x26 = some r ∧ l' = [.int .i64 p0, .int .i64 p1, undef, undef, .bool false, .pointer (some ⟨b5, 0, none⟩), .bool u3.2.2.2.2.2, .pointer (some ⟨b10, 0, none⟩), .bool u8.2.2.2.2.2, undef, undef, undef, undef, .tuple #[.agg #[.int .i64 u3.1, .int .i64 u3.2.1, .slice A4 u3.2.2.1.length c4, .int .i64 u3.2.2.2.1, .int .i64 u3.2.2.2.2.1], .bool u3.2.2.2.2.2], .int .i64 p0, .int .i64 p1, .tuple #[.agg #[.int .i64 u3.1, .int .i64 u3.2.1, .slice A4 u3.2.2.1.length c4, .int .i64 u3.2.2.2.1, .int .i64 u3.2.2.2.2.1], .bool u3.2.2.2.2.2], .agg #[.int .i64 u3.1, .int .i64 u3.2.1, .slice A4 u3.2.2.1.length c4, .int .i64 u3.2.2.2.1, .int .i64 u3.2.2.2.2.1], .bool u3.2.2.2.2.2, .tuple #[.agg #[.int .i64 u8.1, .int .i64 u8.2.1, .slice A9 u8.2.2.1.length c9, .int .i64 u8.2.2.2.1, .int .i64 u8.2.2.2.2.1], .bool u8.2.2.2.2.2], .int .i64 p0, .int .i64 p1, .tuple #[.agg #[.int .i64 u8.1, .int .i64 u8.2.1, .slice A9 u8.2.2.1.length c9, .int .i64 u8.2.2.2.1, .int .i64 u8.2.2.2.2.1], .bool u8.2.2.2.2.2], .agg #[.int .i64 u8.1, .int .i64 u8.2.1, .slice A9 u8.2.2.1.length c9, .int .i64 u8.2.2.2.1, .int .i64 u8.2.2.2.2.1], .bool u8.2.2.2.2.2, getL l' 25, getL l' 26, getL l' 27, getL l' 28, getL l' 29, getL l' 30, getL l' 31, getL l' 32, .bool x26, undef, undef, undef, undef, undef, undef, undef, undef, undef, undef, undef, undef, undef, undef, undef, undef, undef, undef, undef, undef, undef, undef, undef, undef, undef, undef, undef, undef, undef, undef, undef, undef, undef, undef] ∧ Hp sb s F0 s' [Ck.ol OI 3 A4 c4 u3.2.2.1, Ck.ol OI 3 A9 c9 u8.2.2.1, Ck.ov b5 [.int .i64 u3.1, .int .i64 u3.2.1, .slice A4 u3.2.2.1.length c4, .int .i64 u3.2.2.2.1, .int .i64 u3.2.2.2.2.1] 27, Ck.ov b10 [.int .i64 u8.1, .int .i64 u8.2.1, .slice A9 u8.2.2.1.length c9, .int .i64 u8.2.2.2.1, .int .i64 u8.2.2.2.2.1] 27]) ?_ ?_
  · intro K23 hK23
    refine HT_region ?_
    refine HL_cons rfl ?_
    refine o_loads' [.int .i64 u8.1, .int .i64 u8.2.1, .slice A9 u8.2.2.1.length c9, .int .i64 u8.2.2.2.1, .int .i64 u8.2.2.2.2.1] rfl Try.underlying27 rfl tI27 rfl (hH.partv 3 rfl (0) [.int .i64 u8.1, .int .i64 u8.2.1, .slice A9 u8.2.2.1.length c9, .int .i64 u8.2.2.2.1, .int .i64 u8.2.2.2.2.1] rfl) ?_
    try dsimp only [putL, setL, evL, getL]
    refine HL_cons rfl ?_
    refine o_loads' [.int .i64 u3.1, .int .i64 u3.2.1, .slice A4 u3.2.2.1.length c4, .int .i64 u3.2.2.2.1, .int .i64 u3.2.2.2.2.1] rfl Try.underlying27 rfl tI27 rfl (hH.partv 1 rfl (0) [.int .i64 u3.1, .int .i64 u3.2.1, .slice A4 u3.2.2.1.length c4, .int .i64 u3.2.2.2.1, .int .i64 u3.2.2.2.2.1] rfl) ?_
    try dsimp only [putL, setL, evL, getL]
    obtain ⟨u27, hu27, H⟩ := headE H
    refine HL_cons rfl ?_
    refine o_call (args := #[.agg #[.int .i64 u8.1, .int .i64 u8.2.1, .slice A9 u8.2.2.1.length c9, .int .i64 u8.2.2.2.1, .int .i64 u8.2.2.2.2.1], .agg #[.int .i64 u3.1, .int .i64 u3.2.1, .slice A4 u3.2.2.1.length c4, .int .i64 u3.2.2.2.1, .int .i64 u3.2.2.2.2.1]]) Try.func13 rfl rfl rfl (laws_eqScreen.ok s11 s11 no u8.1 u8.2.1 A9 c9 u8.2.2.1 u8.2.2.2.1 u8.2.2.2.2.1 u3.1 u3.2.1 A4 c4 u3.2.2.1 u3.2.2.2.1 u3.2.2.2.2.1 (hH.rd 2 rfl) (hH.rd 0 rfl) (Hp.own (Bs.refl s11)) _ hu27) ?_
    rintro _ s27 ⟨rfl, hD⟩
    replace hH := hH.back0T hD
    clear hD
    dsimp only [addC, setC, rmC, selC, getC] at hH
    try dsimp only [putL, setL, evL, getL]
    refine HL_cons rfl ?_
    refine o_not rfl ?_
    try dsimp only [putL, setL, evL, getL]
    refine HL_cons rfl ?_
    refine o_move ?_
    try dsimp only [putL, setL, evL, getL]
    rcases Bool.eq_false_or_eq_true (!u27) with hb28 | hb28
    · replace H := iteT hb28 H
      refine HL_skip ?_ ?_
      · exact wantF (j := 4) (b := false) (t := 29) (c := !u27) rfl rfl rfl rfl hb28
      try dsimp only [putL, setL, evL, getL]
      refine HL_skip ?_ ?_
      · exact wantF (j := 4) (b := false) (t := 29) (c := !u27) rfl rfl rfl rfl hb28
      try dsimp only [putL, setL, evL, getL]
      refine HL_skip ?_ ?_
      · exact wantF (j := 4) (b := false) (t := 29) (c := !u27) rfl rfl rfl rfl hb28
      try dsimp only [putL, setL, evL, getL]
      refine HL_cons rfl ?_
      refine o_pickT rfl hb28 ?_
      try dsimp only [putL, setL, evL, getL]
      refine HL_nil ?_
      exact hK23 _ _ ⟨true, H, rfl, hH.sel [0, 2, 1, 3] (by decide)⟩
    · replace H := iteF hb28 H
      refine HL_want ?_ ?_
      · exact wantT (j := 4) (b := false) (t := 29) (c := !u27) rfl rfl rfl rfl hb28
      refine o_move ?_
      try dsimp only [putL, setL, evL, getL]
      refine HL_want ?_ ?_
      · exact wantT (j := 4) (b := false) (t := 29) (c := !u27) rfl rfl rfl rfl hb28
      refine o_move ?_
      try dsimp only [putL, setL, evL, getL]
      refine HL_want ?_ ?_
      · exact wantT (j := 4) (b := false) (t := 29) (c := !u27) rfl rfl rfl rfl hb28
      refine o_neb rfl rfl Try.underlying4 ?_
      try dsimp only [putL, setL, evL, getL]
      refine HL_cons rfl ?_
      refine o_pickF rfl hb28 ?_
      try dsimp only [putL, setL, evL, getL]
      refine HL_nil ?_
      exact hK23 _ _ ⟨u8.2.2.2.2.2 != u3.2.2.2.2.2, H, rfl, hH.sel [0, 2, 1, 3] (by decide)⟩
  · rintro l' s29 ⟨x26, H, hl, hH⟩
    generalize getL l' 25 = j25, getL l' 26 = j26, getL l' 27 = j27, getL l' 28 = j28, getL l' 29 = j29, getL l' 30 = j30, getL l' 31 = j31, getL l' 32 = j32 at hl
    subst hl
    replace H := hG23 _ H
    try dsimp only at H
    rcases Bool.eq_false_or_eq_true x26 with hb30 | hb30
    · replace H := iteT hb30 H
      refine HT_true (congrArg Value.bool hb30) ?_
      refine HT_seq_k ?_
      intro K31 hK31
      refine HT_region ?_
      refine HL_cons rfl ?_
      refine o_assign ?_
      try dsimp only [putL, setL, evL, getL]
      refine HL_nil ?_
      refine hK31 _ _ ?_
      refine HT_ret ?_
      obtain rfl := Option.some.inj (show some _ = some r from H)
      exact hQr _ _ [.bool false] ⟨rfl, trivial⟩ ⟨rfl, hH.sel [] (by decide)⟩
    · replace H := iteF hb30 H
      refine HT_false (congrArg Value.bool hb30) ?_
      refine HT_skip ?_
      refine hK22 _ _ ?_
      refine HT_seq_k ?_
      intro K32 hK32
      refine HT_region ?_
      refine HL_cons rfl ?_
      refine o_assign ?_
      try dsimp only [putL, setL, evL, getL]
      refine HL_nil ?_
      refine hK32 _ _ ?_
      refine HT_seq_k ?_
      intro K33 hK33
      refine HT_region ?_
      refine HL_cons rfl ?_
      refine o_loads' [.int .i64 u8.1, .int .i64 u8.2.1, .slice A9 u8.2.2.1.length c9, .int .i64 u8.2.2.2.1, .int .i64 u8.2.2.2.2.1] rfl Try.underlying27 rfl tI27 rfl (hH.partv 3 rfl (0) [.int .i64 u8.1, .int .i64 u8.2.1, .slice A9 u8.2.2.1.length c9, .int .i64 u8.2.2.2.1, .int .i64 u8.2.2.2.2.1] rfl) ?_
      try dsimp only [putL, setL, evL, getL]
      refine HL_cons rfl ?_
      refine o_move ?_
      try dsimp only [putL, setL, evL, getL]
      obtain ⟨u34, hu34, H⟩ := headE H
      obtain ⟨F1, hA, hB⟩ := hH.take [1] (by decide)
      dsimp only [addC, setC, rmC, selC, getC] at hA
      refine HL_cons rfl ?_
      refine o_call (args := #[.agg #[.int .i64 u8.1, .int .i64 u8.2.1, .slice A9 u8.2.2.1.length c9, .int .i64 u8.2.2.2.1, .int .i64 u8.2.2.2.2.1], .int .i64 1]) Try.func20 rfl rfl rfl (laws_markScreen.ok sb s29 F1 u8.1 u8.2.1 A9 c9 u8.2.2.1 u8.2.2.2.1 u8.2.2.2.2.1 1 hA _ hu34) ?_
      rintro _ s34 ⟨rfl, hD, hl35⟩
      replace hH := hB _ _ _ (Up.refl _ _ _) hD
      clear hD hA hB
      dsimp only [addC, setC, rmC, selC, getC] at hH
      try dsimp only [putL, setL, evL, getL]
      refine HL_cons rfl ?_
      refine o_assign ?_
      try dsimp only [putL, setL, evL, getL]
      refine HL_nil ?_
      refine hK33 _ _ ?_
      refine HT_seq_k ?_
      intro K36 hK36
      refine HT_region ?_
      refine HL_cons rfl ?_
      refine o_assign ?_
      try dsimp only [putL, setL, evL, getL]
      refine HL_nil ?_
      refine hK36 _ _ ?_
      refine HT_seq_k ?_
      intro K37 hK37
      refine HT_region ?_
      refine HL_cons rfl ?_
      refine o_loads' [.int .i64 u8.1, .int .i64 u8.2.1, .slice A9 u8.2.2.1.length c9, .int .i64 u8.2.2.2.1, .int .i64 u8.2.2.2.2.1] rfl Try.underlying27 rfl tI27 rfl (hH.partv 3 rfl (0) [.int .i64 u8.1, .int .i64 u8.2.1, .slice A9 u8.2.2.1.length c9, .int .i64 u8.2.2.2.1, .int .i64 u8.2.2.2.2.1] rfl) ?_
      try dsimp only [putL, setL, evL, getL]
      refine HL_cons rfl ?_
      refine o_move ?_
      try dsimp only [putL, setL, evL, getL]
      obtain ⟨u38, hu38, H⟩ := headE H
      refine HL_cons rfl ?_
      refine o_call (args := #[.agg #[.int .i64 u8.1, .int .i64 u8.2.1, .slice A9 u34.2.length c9, .int .i64 u8.2.2.2.1, .int .i64 u8.2.2.2.2.1], .int .i64 1]) Try.func21 rfl rfl (by show ([.agg #[.int .i64 u8.1, .int .i64 u8.2.1, .slice A9 u8.2.2.1.length c9, .int .i64 u8.2.2.2.1, .int .i64 u8.2.2.2.2.1], .int .i64 1] : List Value) = [.agg #[.int .i64 u8.1, .int .i64 u8.2.1, .slice A9 u34.2.length c9, .int .i64 u8.2.2.2.1, .int .i64 u8.2.2.2.2.1], .int .i64 1]; rw [hl35]; first | done | rfl) (laws_heldScreen.ok s34 s34 no u8.1 u8.2.1 A9 c9 u34.2 u8.2.2.2.1 u8.2.2.2.2.1 1 (hH.rd 4 rfl) (Hp.own (Bs.refl s34)) _ hu38) ?_
      rintro _ s38 ⟨rfl, hD⟩
      replace hH := hH.back0T hD
      clear hD
      dsimp only [addC, setC, rmC, selC, getC] at hH
      try dsimp only [putL, setL, evL, getL]
      refine HL_cons rfl ?_
      refine o_assign ?_
      try dsimp only [putL, setL, evL, getL]
      refine HL_nil ?_
      refine hK37 _ _ ?_
      refine HT_seq_k ?_
      intro K39 hK39
      refine HT_seq_k ?_
      intro K40 hK40
      refine HT_region ?_
      refine HL_cons rfl ?_
      refine o_move ?_
      try dsimp only [putL, setL, evL, getL]
      refine HL_cons rfl ?_
      refine o_bin rfl rfl rfl ?_
      try dsimp only [putL, setL, evL, getL]
      refine HL_nil ?_
      refine hK40 _ _ ?_
      rcases Bool.eq_false_or_eq_true (decide (u38 < 0)) with hb41 | hb41
      · replace H := iteT hb41 H
        refine HT_true (congrArg Value.bool hb41) ?_
        refine HT_seq_k ?_
        intro K42 hK42
        refine HT_region ?_
        refine HL_cons rfl ?_
        refine o_assign ?_
        try dsimp only [putL, setL, evL, getL]
        refine HL_nil ?_
        refine hK42 _ _ ?_
        refine HT_ret ?_
        obtain rfl := Option.some.inj (show some _ = some r from H)
        exact hQr _ _ [.bool false] ⟨rfl, trivial⟩ ⟨rfl, hH.sel [] (by decide)⟩
      · replace H := iteF hb41 H
        refine HT_false (congrArg Value.bool hb41) ?_
        refine HT_skip ?_
        refine hK39 _ _ ?_
        refine HT_seq_k ?_
        intro K43 hK43
        refine HT_seq_k ?_
        intro K44 hK44
        refine HT_region ?_
        refine HL_cons rfl ?_
        refine o_move ?_
        try dsimp only [putL, setL, evL, getL]
        refine HL_cons rfl ?_
        refine o_move ?_
        try dsimp only [putL, setL, evL, getL]
        refine HL_cons rfl ?_
        refine o_bin rfl rfl rfl ?_
        try dsimp only [putL, setL, evL, getL]
        refine HL_nil ?_
        refine hK44 _ _ ?_
        rcases Bool.eq_false_or_eq_true (u38 != u34.1) with hb45 | hb45
        · replace H := iteT hb45 H
          refine HT_true (congrArg Value.bool hb45) ?_
          refine HT_seq_k ?_
          intro K46 hK46
          refine HT_region ?_
          refine HL_cons rfl ?_
          refine o_assign ?_
          try dsimp only [putL, setL, evL, getL]
          refine HL_nil ?_
          refine hK46 _ _ ?_
          refine HT_ret ?_
          obtain rfl := Option.some.inj (show some _ = some r from H)
          exact hQr _ _ [.bool false] ⟨rfl, trivial⟩ ⟨rfl, hH.sel [] (by decide)⟩
        · replace H := iteF hb45 H
          refine HT_false (congrArg Value.bool hb45) ?_
          refine HT_skip ?_
          refine hK43 _ _ ?_
          refine HT_seq_k ?_
          intro K47 hK47
          refine HT_region ?_
          refine HL_cons rfl ?_
          refine o_move ?_
          try dsimp only [putL, setL, evL, getL]
          refine HL_cons rfl ?_
          refine o_move ?_
          try dsimp only [putL, setL, evL, getL]
          obtain ⟨u48, hu48, H⟩ := headE H
          refine HL_cons rfl ?_
          refine o_call (args := #[.int .i64 p0, .int .i64 p1]) Try.func19 rfl rfl rfl (impl_NewScreen.ok sb s38 no p0 p1 (Hp.own hH.bs) _ hu48) ?_
          rintro _ s48 ⟨A49, c49, rfl, hD⟩
          replace hH := hH.back0 hD (Up.refl _ _ _)
          clear hD
          dsimp only [addC, setC, rmC, selC, getC] at hH
          try dsimp only [putL, setL, evL, getL]
          refine HL_cons rfl ?_
          refine o_move ?_
          try dsimp only [putL, setL, evL, getL]
          refine HL_cons rfl ?_
          refine o_extract rfl rfl ?_
          try dsimp only [putL, setL, evL, getL]
          refine HL_cons rfl ?_
          refine o_extract rfl rfl ?_
          try dsimp only [putL, setL, evL, getL]
          refine HL_cons rfl ?_
          refine o_allocH hH tI27 ?_
          intro b50 s50 hH' hG
          replace hH : Hp sb s F0 s50 [Ck.ol OI 3 A4 c4 u3.2.2.1, Ck.emp, Ck.ov b5 [.int .i64 u3.1, .int .i64 u3.2.1, .slice A4 u3.2.2.1.length c4, .int .i64 u3.2.2.2.1, .int .i64 u3.2.2.2.2.1] 27, Ck.ov b10 [.int .i64 u8.1, .int .i64 u8.2.1, .slice A9 u8.2.2.1.length c9, .int .i64 u8.2.2.2.1, .int .i64 u8.2.2.2.2.1] 27, Ck.ol OI 3 A9 c9 u34.2, Ck.ol OI 3 A49 c49 u48.2.2.1, Ck.ov b50 [.int .i64 0, .int .i64 0, .slice none 0 0, .int .i64 0, .int .i64 0] 27] := hH'
          clear hH' hG
          try dsimp only [putL, setL, evL, getL]
          refine HL_cons rfl ?_
          refine o_stvH (vs := [.int .i64 u48.1, .int .i64 u48.2.1, .slice A49 u48.2.2.1.length c49, .int .i64 u48.2.2.2.1, .int .i64 u48.2.2.2.2.1]) (us' := [.int .i64 u48.1, .int .i64 u48.2.1, .slice A49 u48.2.2.1.length c49, .int .i64 u48.2.2.2.1, .int .i64 u48.2.2.2.2.1]) hH 6 rfl rfl rfl rfl rfl tI27 rfl (List.cons_ne_nil _ _) rfl rfl rfl ?_
          intro s51 hH'
          replace hH : Hp sb s F0 s51 [Ck.ol OI 3 A4 c4 u3.2.2.1, Ck.emp, Ck.ov b5 [.int .i64 u3.1, .int .i64 u3.2.1, .slice A4 u3.2.2.1.length c4, .int .i64 u3.2.2.2.1, .int .i64 u3.2.2.2.2.1] 27, Ck.ov b10 [.int .i64 u8.1, .int .i64 u8.2.1, .slice A9 u8.2.2.1.length c9, .int .i64 u8.2.2.2.1, .int .i64 u8.2.2.2.2.1] 27, Ck.ol OI 3 A9 c9 u34.2, Ck.ol OI 3 A49 c49 u48.2.2.1, Ck.ov b50 [.int .i64 u48.1, .int .i64 u48.2.1, .slice A49 u48.2.2.1.length c49, .int .i64 u48.2.2.2.1, .int .i64 u48.2.2.2.2.1] 27] := hH'
          clear hH'
          try dsimp only [putL, setL, evL, getL]
          refine HL_cons rfl ?_
          refine o_assign ?_
          try dsimp only [putL, setL, evL, getL]
          refine HL_nil ?_
          refine hK47 _ _ ?_
          refine HT_seq_k ?_
          intro K62 hK62
          refine joinH H fun G63 hG63 H => ?_
          refine HT_joinK (fun l' s' => ∃ (x66 : Bool), G63 x66 = some r ∧ l' = [.int .i64 p0, .int .i64 p1, undef, undef, .bool false, .pointer (some ⟨b5, 0, none⟩), .bool u3.2.2.2.2.2, .pointer (some ⟨b10, 0, none⟩), .bool u8.2.2.2.2.2, .int .i64 u34.1, .int .i64 u38, .pointer (some ⟨b50, 0, none⟩), .bool u48.2.2.2.2.2, .tuple #[.agg #[.int .i64 u3.1, .int .i64 u3.2.1, .slice A4 u3.2.2.1.length c4, .int .i64 u3.2.2.2.1, .int .i64 u3.2.2.2.2.1], .bool u3.2.2.2.2.2], .int .i64 p0, .int .i64 p1, .tuple #[.agg #[.int .i64 u3.1, .int .i64 u3.2.1, .slice A4 u3.2.2.1.length c4, .int .i64 u3.2.2.2.1, .int .i64 u3.2.2.2.2.1], .bool u3.2.2.2.2.2], .agg #[.int .i64 u3.1, .int .i64 u3.2.1, .slice A4 u3.2.2.1.length c4, .int .i64 u3.2.2.2.1, .int .i64 u3.2.2.2.2.1], .bool u3.2.2.2.2.2, .tuple #[.agg #[.int .i64 u8.1, .int .i64 u8.2.1, .slice A9 u8.2.2.1.length c9, .int .i64 u8.2.2.2.1, .int .i64 u8.2.2.2.2.1], .bool u8.2.2.2.2.2], .int .i64 p0, .int .i64 p1, .tuple #[.agg #[.int .i64 u8.1, .int .i64 u8.2.1, .slice A9 u8.2.2.1.length c9, .int .i64 u8.2.2.2.1, .int .i64 u8.2.2.2.2.1], .bool u8.2.2.2.2.2], .agg #[.int .i64 u8.1, .int .i64 u8.2.1, .slice A9 u8.2.2.1.length c9, .int .i64 u8.2.2.2.1, .int .i64 u8.2.2.2.2.1], .bool u8.2.2.2.2.2, j25, j26, j27, j28, j29, j30, j31, j32, .bool x26, .agg #[.int .i64 u8.1, .int .i64 u8.2.1, .slice A9 u8.2.2.1.length c9, .int .i64 u8.2.2.2.1, .int .i64 u8.2.2.2.2.1], .int .i64 1, .int .i64 u34.1, .agg #[.int .i64 u8.1, .int .i64 u8.2.1, .slice A9 u8.2.2.1.length c9, .int .i64 u8.2.2.2.1, .int .i64 u8.2.2.2.2.1], .int .i64 1, .int .i64 u38, .int .i64 u38, .bool (decide (u38 < 0)), .int .i64 u38, .int .i64 u34.1, .bool (u38 != u34.1), .tuple #[.agg #[.int .i64 u48.1, .int .i64 u48.2.1, .slice A49 u48.2.2.1.length c49, .int .i64 u48.2.2.2.1, .int .i64 u48.2.2.2.2.1], .bool u48.2.2.2.2.2], .int .i64 p0, .int .i64 p1, .tuple #[.agg #[.int .i64 u48.1, .int .i64 u48.2.1, .slice A49 u48.2.2.1.length c49, .int .i64 u48.2.2.2.1, .int .i64 u48.2.2.2.2.1], .bool u48.2.2.2.2.2], .agg #[.int .i64 u48.1, .int .i64 u48.2.1, .slice A49 u48.2.2.1.length c49, .int .i64 u48.2.2.2.1, .int .i64 u48.2.2.2.2.1], .bool u48.2.2.2.2.2, getL l' 51, getL l' 52, getL l' 53, getL l' 54, getL l' 55, getL l' 56, getL l' 57, getL l' 58, .bool x66, undef, undef, undef, undef, undef, undef, undef, undef] ∧ Hp sb s F0 s' [Ck.ol OI 3 A9 c9 u34.2, Ck.ov b10 [.int .i64 u8.1, .int .i64 u8.2.1, .slice A9 u8.2.2.1.length c9, .int .i64 u8.2.2.2.1, .int .i64 u8.2.2.2.2.1] 27]) ?_ ?_
          · intro K63 hK63
            refine HT_region ?_
            refine HL_cons rfl ?_
            refine o_loads' [.int .i64 u48.1, .int .i64 u48.2.1, .slice A49 u48.2.2.1.length c49, .int .i64 u48.2.2.2.1, .int .i64 u48.2.2.2.2.1] rfl Try.underlying27 rfl tI27 rfl (hH.partv 6 rfl (0) [.int .i64 u48.1, .int .i64 u48.2.1, .slice A49 u48.2.2.1.length c49, .int .i64 u48.2.2.2.1, .int .i64 u48.2.2.2.2.1] rfl) ?_
            try dsimp only [putL, setL, evL, getL]
            refine HL_cons rfl ?_
            refine o_loads' [.int .i64 u3.1, .int .i64 u3.2.1, .slice A4 u3.2.2.1.length c4, .int .i64 u3.2.2.2.1, .int .i64 u3.2.2.2.2.1] rfl Try.underlying27 rfl tI27 rfl (hH.partv 2 rfl (0) [.int .i64 u3.1, .int .i64 u3.2.1, .slice A4 u3.2.2.1.length c4, .int .i64 u3.2.2.2.1, .int .i64 u3.2.2.2.2.1] rfl) ?_
            try dsimp only [putL, setL, evL, getL]
            obtain ⟨u67, hu67, H⟩ := headE H
            refine HL_cons rfl ?_
            refine o_call (args := #[.agg #[.int .i64 u48.1, .int .i64 u48.2.1, .slice A49 u48.2.2.1.length c49, .int .i64 u48.2.2.2.1, .int .i64 u48.2.2.2.2.1], .agg #[.int .i64 u3.1, .int .i64 u3.2.1, .slice A4 u3.2.2.1.length c4, .int .i64 u3.2.2.2.1, .int .i64 u3.2.2.2.2.1]]) Try.func13 rfl rfl rfl (laws_eqScreen.ok s51 s51 no u48.1 u48.2.1 A49 c49 u48.2.2.1 u48.2.2.2.1 u48.2.2.2.2.1 u3.1 u3.2.1 A4 c4 u3.2.2.1 u3.2.2.2.1 u3.2.2.2.2.1 (hH.rd 5 rfl) (hH.rd 0 rfl) (Hp.own (Bs.refl s51)) _ hu67) ?_
            rintro _ s67 ⟨rfl, hD⟩
            replace hH := hH.back0T hD
            clear hD
            dsimp only [addC, setC, rmC, selC, getC] at hH
            try dsimp only [putL, setL, evL, getL]
            refine HL_cons rfl ?_
            refine o_not rfl ?_
            try dsimp only [putL, setL, evL, getL]
            refine HL_cons rfl ?_
            refine o_move ?_
            try dsimp only [putL, setL, evL, getL]
            rcases Bool.eq_false_or_eq_true (!u67) with hb68 | hb68
            · replace H := iteT hb68 H
              refine HL_skip ?_ ?_
              · exact wantF (j := 4) (b := false) (t := 55) (c := !u67) rfl rfl rfl rfl hb68
              try dsimp only [putL, setL, evL, getL]
              refine HL_skip ?_ ?_
              · exact wantF (j := 4) (b := false) (t := 55) (c := !u67) rfl rfl rfl rfl hb68
              try dsimp only [putL, setL, evL, getL]
              refine HL_skip ?_ ?_
              · exact wantF (j := 4) (b := false) (t := 55) (c := !u67) rfl rfl rfl rfl hb68
              try dsimp only [putL, setL, evL, getL]
              refine HL_cons rfl ?_
              refine o_pickT rfl hb68 ?_
              try dsimp only [putL, setL, evL, getL]
              refine HL_nil ?_
              exact hK63 _ _ ⟨true, H, rfl, hH.sel [4, 3] (by decide)⟩
            · replace H := iteF hb68 H
              refine HL_want ?_ ?_
              · exact wantT (j := 4) (b := false) (t := 55) (c := !u67) rfl rfl rfl rfl hb68
              refine o_move ?_
              try dsimp only [putL, setL, evL, getL]
              refine HL_want ?_ ?_
              · exact wantT (j := 4) (b := false) (t := 55) (c := !u67) rfl rfl rfl rfl hb68
              refine o_move ?_
              try dsimp only [putL, setL, evL, getL]
              refine HL_want ?_ ?_
              · exact wantT (j := 4) (b := false) (t := 55) (c := !u67) rfl rfl rfl rfl hb68
              refine o_neb rfl rfl Try.underlying4 ?_
              try dsimp only [putL, setL, evL, getL]
              refine HL_cons rfl ?_
              refine o_pickF rfl hb68 ?_
              try dsimp only [putL, setL, evL, getL]
              refine HL_nil ?_
              exact hK63 _ _ ⟨u48.2.2.2.2.2 != u3.2.2.2.2.2, H, rfl, hH.sel [4, 3] (by decide)⟩
          · rintro l' s69 ⟨x66, H, hl, hH⟩
            generalize getL l' 51 = j51, getL l' 52 = j52, getL l' 53 = j53, getL l' 54 = j54, getL l' 55 = j55, getL l' 56 = j56, getL l' 57 = j57, getL l' 58 = j58 at hl
            subst hl
            replace H := hG63 _ H
            try dsimp only at H
            rcases Bool.eq_false_or_eq_true x66 with hb70 | hb70
            · replace H := iteT hb70 H
              refine HT_true (congrArg Value.bool hb70) ?_
              refine HT_seq_k ?_
              intro K71 hK71
              refine HT_region ?_
              refine HL_cons rfl ?_
              refine o_assign ?_
              try dsimp only [putL, setL, evL, getL]
              refine HL_nil ?_
              refine hK71 _ _ ?_
              refine HT_ret ?_
              obtain rfl := Option.some.inj (show some _ = some r from H)
              exact hQr _ _ [.bool false] ⟨rfl, trivial⟩ ⟨rfl, hH.sel [] (by decide)⟩
            · replace H := iteF hb70 H
              refine HT_false (congrArg Value.bool hb70) ?_
              refine HT_skip ?_
              refine hK62 _ _ ?_
              refine HT_seq_k ?_
              intro K72 hK72
              refine HT_region ?_
              refine HL_cons rfl ?_
              refine o_assign ?_
              try dsimp only [putL, setL, evL, getL]
              refine HL_nil ?_
              refine hK72 _ _ ?_
              refine HT_seq_k ?_
              intro K73 hK73
              refine HT_region ?_
              refine HL_cons rfl ?_
              refine o_loads' [.int .i64 u8.1, .int .i64 u8.2.1, .slice A9 u8.2.2.1.length c9, .int .i64 u8.2.2.2.1, .int .i64 u8.2.2.2.2.1] rfl Try.underlying27 rfl tI27 rfl (hH.partv 1 rfl (0) [.int .i64 u8.1, .int .i64 u8.2.1, .slice A9 u8.2.2.1.length c9, .int .i64 u8.2.2.2.1, .int .i64 u8.2.2.2.2.1] rfl) ?_
              try dsimp only [putL, setL, evL, getL]
              refine HL_cons rfl ?_
              refine o_move ?_
              try dsimp only [putL, setL, evL, getL]
              obtain ⟨u74, hu74, H⟩ := headE H
              refine HL_cons rfl ?_
              refine o_call (args := #[.agg #[.int .i64 u8.1, .int .i64 u8.2.1, .slice A9 u34.2.length c9, .int .i64 u8.2.2.2.1, .int .i64 u8.2.2.2.2.1], .int .i64 1]) Try.func21 rfl rfl (by show ([.agg #[.int .i64 u8.1, .int .i64 u8.2.1, .slice A9 u8.2.2.1.length c9, .int .i64 u8.2.2.2.1, .int .i64 u8.2.2.2.2.1], .int .i64 1] : List Value) = [.agg #[.int .i64 u8.1, .int .i64 u8.2.1, .slice A9 u34.2.length c9, .int .i64 u8.2.2.2.1, .int .i64 u8.2.2.2.2.1], .int .i64 1]; rw [hl35]; first | done | rfl) (laws_heldScreen.ok s69 s69 no u8.1 u8.2.1 A9 c9 u34.2 u8.2.2.2.1 u8.2.2.2.2.1 1 (hH.rd 0 rfl) (Hp.own (Bs.refl s69)) _ hu74) ?_
              rintro _ s74 ⟨rfl, hD⟩
              replace hH := hH.back0T hD
              clear hD
              dsimp only [addC, setC, rmC, selC, getC] at hH
              try dsimp only [putL, setL, evL, getL]
              refine HL_cons rfl ?_
              refine o_assign ?_
              try dsimp only [putL, setL, evL, getL]
              refine HL_nil ?_
              refine hK73 _ _ ?_
              refine HT_seq_k ?_
              intro K75 hK75
              refine HT_seq_k ?_
              intro K76 hK76
              refine HT_region ?_
              refine HL_cons rfl ?_
              refine o_move ?_
              try dsimp only [putL, setL, evL, getL]
              refine HL_cons rfl ?_
              refine o_bin rfl rfl rfl ?_
              try dsimp only [putL, setL, evL, getL]
              refine HL_nil ?_
              refine hK76 _ _ ?_
              rcases Bool.eq_false_or_eq_true (decide (u74 < 0)) with hb77 | hb77
              · replace H := iteT hb77 H
                refine HT_true (congrArg Value.bool hb77) ?_
                refine HT_seq_k ?_
                intro K78 hK78
                refine HT_region ?_
                refine HL_cons rfl ?_
                refine o_assign ?_
                try dsimp only [putL, setL, evL, getL]
                refine HL_nil ?_
                refine hK78 _ _ ?_
                refine HT_ret ?_
                obtain rfl := Option.some.inj (show some _ = some r from H)
                exact hQr _ _ [.bool false] ⟨rfl, trivial⟩ ⟨rfl, hH.sel [] (by decide)⟩
              · replace H := iteF hb77 H
                refine HT_false (congrArg Value.bool hb77) ?_
                refine HT_skip ?_
                refine hK75 _ _ ?_
                refine HT_seq_k ?_
                intro K79 hK79
                refine HT_seq_k ?_
                intro K80 hK80
                refine HT_region ?_
                refine HL_cons rfl ?_
                refine o_move ?_
                try dsimp only [putL, setL, evL, getL]
                refine HL_cons rfl ?_
                refine o_move ?_
                try dsimp only [putL, setL, evL, getL]
                refine HL_cons rfl ?_
                refine o_bin rfl rfl rfl ?_
                try dsimp only [putL, setL, evL, getL]
                refine HL_nil ?_
                refine hK80 _ _ ?_
                rcases Bool.eq_false_or_eq_true (u74 != u34.1) with hb81 | hb81
                · replace H := iteT hb81 H
                  refine HT_true (congrArg Value.bool hb81) ?_
                  refine HT_seq_k ?_
                  intro K82 hK82
                  refine HT_region ?_
                  refine HL_cons rfl ?_
                  refine o_assign ?_
                  try dsimp only [putL, setL, evL, getL]
                  refine HL_nil ?_
                  refine hK82 _ _ ?_
                  refine HT_ret ?_
                  obtain rfl := Option.some.inj (show some _ = some r from H)
                  exact hQr _ _ [.bool false] ⟨rfl, trivial⟩ ⟨rfl, hH.sel [] (by decide)⟩
                · replace H := iteF hb81 H
                  refine HT_false (congrArg Value.bool hb81) ?_
                  refine HT_skip ?_
                  refine hK79 _ _ ?_
                  refine HT_seq_k ?_
                  intro K83 hK83
                  refine HT_region ?_
                  refine HL_cons rfl ?_
                  refine o_assign ?_
                  try dsimp only [putL, setL, evL, getL]
                  refine HL_nil ?_
                  refine hK83 _ _ ?_
                  refine HT_ret ?_
                  obtain rfl := Option.some.inj (show some _ = some r from H)
                  exact hQr _ _ [.bool true] ⟨rfl, trivial⟩ ⟨rfl, hH.sel [] (by decide)⟩
end Go.Proofs.Ytihocjbngajjkaa
