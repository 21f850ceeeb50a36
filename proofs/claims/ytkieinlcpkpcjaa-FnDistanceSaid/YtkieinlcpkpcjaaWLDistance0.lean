/- The functions that the law reaches, as plain functions, each with its contract: printed by a program of the prover's. No conditions: lemmas. -/
import Derived.Test.YtkieinlcpkpcjaaProg
import Derived.Test.YtkieinlcpkpcjaaGJ
set_option linter.unusedVariables false
set_option linter.unusedSimpArgs false
namespace Go.Proofs.Ytkieinlcpkpcjaa
open Go Go.Proofs.GL
theorem tI3 : TI Try.prog 3 (.int .i64 0) 1 8 := by unfold TI; kernel_rfl
theorem tI5 : TI Try.prog 5 (.int .u8 0) 1 1 := by unfold TI; kernel_rfl
theorem tI22 : TI Try.prog 22 (.slice none 0 0) 1 24 := by unfold TI; kernel_rfl
theorem tI24 : TI Try.prog 24 (.slice none 0 0) 1 24 := by unfold TI; kernel_rfl
theorem tI111 : TI Try.prog 111 (.int .u64 0) 1 8 := by unfold TI; kernel_rfl
theorem tI113 : TI Try.prog 113 (.agg #[.slice none 0 0, .int .i64 0, .int .u64 0]) 3 40 := by unfold TI; kernel_rfl
theorem hMix : Try.prog.follows .mixedOrders = true := by kernel_rfl
def laws_big.f (p0 : List (Int)) (p1 : List (Int)) : Option Bool := if (decide ((p0.length : Int) > 1048576)) = true then (some true) else (some (decide ((p1.length : Int) > (IntKind.i64.wrap (1048576 - (p0.length : Int))))))
def laws_big.post (sb s : St) (F0 : Fp) (r : Bool) : Value → St → Prop := fun v s' => v = .bool r ∧ Hp sb s F0 s' []
set_option maxRecDepth 100000 in
set_option maxHeartbeats 4000000 in
theorem laws_big.ok (sb s : St) (F0 : Fp) (A0p : Option Addr) (c0p : Nat) (p0 : List (Int)) (A1p : Option Addr) (c1p : Nat) (p1 : List (Int)) (HRp0 : Rd (Kd.int .u8) sb A0p c0p p0) (HRp1 : Rd (Kd.int .u8) sb A1p c1p p1) (hH : Hp sb s F0 s []) (r : Bool) (H : laws_big.f p0 p1 = some r) : GCall Try.prog 14 #[.slice A0p p0.length c0p, .slice A1p p1.length c1p] s (laws_big.post sb s F0 r) := by
  refine GCall_ofk [.tmp 4] [.slice A0p p0.length c0p, .slice A1p p1.length c1p, undef, undef, undef, undef, undef, undef, undef, undef, undef, undef, undef, undef, undef, undef] Try.func14 rfl rfl rfl ?_
  intro w Q hQr hQn hQp
  replace H := topE H
  unfold laws_big.f at H
  refine HT_seq_k ?_
  intro K1 hK1
  refine HT_region ?_
  refine HL_cons rfl ?_
  refine o_assign ?_
  try dsimp only [putL, setL, evL, getL]
  refine HL_nil ?_
  refine hK1 _ _ ?_
  refine HT_seq_k ?_
  intro K2 hK2
  refine HT_region ?_
  refine HL_cons rfl ?_
  refine o_move ?_
  try dsimp only [putL, setL, evL, getL]
  refine HL_cons rfl ?_
  refine o_len rfl Try.underlying22 ?_
  try dsimp only [putL, setL, evL, getL]
  refine HL_cons rfl ?_
  refine o_bin rfl rfl rfl ?_
  try dsimp only [putL, setL, evL, getL]
  refine HL_cons rfl ?_
  refine o_move ?_
  try dsimp only [putL, setL, evL, getL]
  rcases Bool.eq_false_or_eq_true (decide ((p0.length : Int) > 1048576)) with hb3 | hb3
  · replace H := iteT hb3 H
    refine HL_skip ?_ ?_
    · exact wantF (j := 3) (b := false) (t := 8) (c := decide ((p0.length : Int) > 1048576)) rfl rfl rfl rfl hb3
    try dsimp only [putL, setL, evL, getL]
    refine HL_skip ?_ ?_
    · exact wantF (j := 3) (b := false) (t := 8) (c := decide ((p0.length : Int) > 1048576)) rfl rfl rfl rfl hb3
    try dsimp only [putL, setL, evL, getL]
    refine HL_skip ?_ ?_
    · exact wantF (j := 3) (b := false) (t := 8) (c := decide ((p0.length : Int) > 1048576)) rfl rfl rfl rfl hb3
    try dsimp only [putL, setL, evL, getL]
    refine HL_skip ?_ ?_
    · exact wantF (j := 3) (b := false) (t := 8) (c := decide ((p0.length : Int) > 1048576)) rfl rfl rfl rfl hb3
    try dsimp only [putL, setL, evL, getL]
    refine HL_skip ?_ ?_
    · exact wantF (j := 3) (b := false) (t := 8) (c := decide ((p0.length : Int) > 1048576)) rfl rfl rfl rfl hb3
    try dsimp only [putL, setL, evL, getL]
    refine HL_skip ?_ ?_
    · exact wantF (j := 3) (b := false) (t := 8) (c := decide ((p0.length : Int) > 1048576)) rfl rfl rfl rfl hb3
    try dsimp only [putL, setL, evL, getL]
    refine HL_cons rfl ?_
    refine o_pickT rfl hb3 ?_
    try dsimp only [putL, setL, evL, getL]
    refine HL_cons rfl ?_
    refine o_assign ?_
    try dsimp only [putL, setL, evL, getL]
    refine HL_nil ?_
    refine hK2 _ _ ?_
    refine HT_ret ?_
    exact hQr _ _ [.bool true] ⟨rfl, trivial⟩ (retH (fun r => laws_big.post sb s F0 r _ _) (show some _ = some r from H) ⟨rfl, hH⟩)
  · replace H := iteF hb3 H
    refine HL_want ?_ ?_
    · exact wantT (j := 3) (b := false) (t := 8) (c := decide ((p0.length : Int) > 1048576)) rfl rfl rfl rfl hb3
    refine o_move ?_
    try dsimp only [putL, setL, evL, getL]
    refine HL_want ?_ ?_
    · exact wantT (j := 3) (b := false) (t := 8) (c := decide ((p0.length : Int) > 1048576)) rfl rfl rfl rfl hb3
    refine o_len rfl Try.underlying22 ?_
    try dsimp only [putL, setL, evL, getL]
    refine HL_want ?_ ?_
    · exact wantT (j := 3) (b := false) (t := 8) (c := decide ((p0.length : Int) > 1048576)) rfl rfl rfl rfl hb3
    refine o_move ?_
    try dsimp only [putL, setL, evL, getL]
    refine HL_want ?_ ?_
    · exact wantT (j := 3) (b := false) (t := 8) (c := decide ((p0.length : Int) > 1048576)) rfl rfl rfl rfl hb3
    refine o_len rfl Try.underlying22 ?_
    try dsimp only [putL, setL, evL, getL]
    refine HL_want ?_ ?_
    · exact wantT (j := 3) (b := false) (t := 8) (c := decide ((p0.length : Int) > 1048576)) rfl rfl rfl rfl hb3
    refine o_bin rfl rfl rfl ?_
    try dsimp only [putL, setL, evL, getL]
    refine HL_want ?_ ?_
    · exact wantT (j := 3) (b := false) (t := 8) (c := decide ((p0.length : Int) > 1048576)) rfl rfl rfl rfl hb3
    refine o_bin rfl rfl rfl ?_
    try dsimp only [putL, setL, evL, getL]
    refine HL_cons rfl ?_
    refine o_pickF rfl hb3 ?_
    try dsimp only [putL, setL, evL, getL]
    refine HL_cons rfl ?_
    refine o_assign ?_
    try dsimp only [putL, setL, evL, getL]
    refine HL_nil ?_
    refine hK2 _ _ ?_
    refine HT_ret ?_
    exact hQr _ _ [.bool (decide ((p1.length : Int) > (IntKind.i64.wrap (1048576 - (p0.length : Int)))))] ⟨rfl, trivial⟩ (retH (fun r => laws_big.post sb s F0 r _ _) (show some _ = some r from H) ⟨rfl, hH⟩)
def spec_l1Cur_next.f (p0_0 : List (Int)) (p0_1 : Int) (p0_2 : Int) : Option (Int × Int × Int) := (if (decide (p0_1 < (p0_0.length : Int))) = true then ((rd? p0_0 p0_1).bind fun u10 => some (IntKind.i64.wrap u10)) else (some 0)).bind fun (o : Int) => match o with | x7 => (if (decide ((IntKind.i64.wrap (p0_1 + 1)) ≤ (p0_0.length : Int))) = true then (some (x7, (IntKind.i64.wrap (p0_1 + 1)), (IntKind.u64.wrap ((IntKind.u64.wrap ((IntKind.u64.wrap (p0_2 * 6364136223846793005)) + (IntKind.u64.wrap x7))) + 1442695040888963407)))) else ((shrK? .u64 (IntKind.u64.wrap ((IntKind.u64.wrap ((IntKind.u64.wrap (p0_2 * 6364136223846793005)) + (IntKind.u64.wrap x7))) + 1442695040888963407)) 40).bind fun u21 => some ((IntKind.i64.wrap (bits .and .u64 u21 255)), (IntKind.i64.wrap (p0_1 + 1)), (IntKind.u64.wrap ((IntKind.u64.wrap ((IntKind.u64.wrap (p0_2 * 6364136223846793005)) + (IntKind.u64.wrap x7))) + 1442695040888963407)))))
def spec_l1Cur_next.post (sb s : St) (F0 : Fp) (bp0 : Nat) (A0_0p : Option Addr) (c0_0p : Nat) (p0_0 : List (Int)) (r : Int × Int × Int) : Value → St → Prop := fun v s' => v = .int .i64 r.1 ∧ Hp sb s F0 s' [Ck.ov bp0 [.slice A0_0p p0_0.length c0_0p, .int .i64 r.2.1, .int .u64 r.2.2] 113]
set_option maxRecDepth 100000 in
set_option maxHeartbeats 4000000 in
theorem spec_l1Cur_next.ok (sb s : St) (F0 : Fp) (bp0 : Nat) (A0_0p : Option Addr) (c0_0p : Nat) (p0_0 : List (Int)) (p0_1 : Int) (p0_2 : Int) (HRp0_0 : Rd (Kd.int .u8) sb A0_0p c0_0p p0_0) (hH : Hp sb s F0 s [Ck.ov bp0 [.slice A0_0p p0_0.length c0_0p, .int .i64 p0_1, .int .u64 p0_2] 113]) (r : Int × Int × Int) (H : spec_l1Cur_next.f p0_0 p0_1 p0_2 = some r) : GCall Try.prog 183 #[.pointer (some ⟨bp0, 0, none⟩)] s (spec_l1Cur_next.post sb s F0 bp0 A0_0p c0_0p p0_0 r) := by
  refine GCall_ofk [.tmp 2] [.pointer (some ⟨bp0, 0, none⟩), undef, undef, undef, undef, undef, undef, undef, undef, undef, undef, undef, undef, undef, undef, undef, undef, undef, undef, undef, undef, undef, undef, undef, undef, undef, undef, undef, undef, undef, undef, undef, undef, undef, undef, undef, undef, undef, undef, undef, undef, undef, undef, undef, undef, undef, undef, undef, undef, undef, undef, undef, undef, undef, undef, undef, undef, undef, undef, undef, undef, undef] Try.func183 rfl rfl rfl ?_
  intro w Q hQr hQn hQp
  replace H := topE H
  unfold spec_l1Cur_next.f at H
  refine HT_seq_k ?_
  intro K1 hK1
  refine HT_region ?_
  refine HL_cons rfl ?_
  refine o_assign ?_
  try dsimp only [putL, setL, evL, getL]
  refine HL_nil ?_
  refine hK1 _ _ ?_
  refine HT_seq_k ?_
  intro K2 hK2
  refine HT_region ?_
  refine HL_cons rfl ?_
  refine o_assign ?_
  try dsimp only [putL, setL, evL, getL]
  refine HL_nil ?_
  refine hK2 _ _ ?_
  refine joinH H fun G3 hG3 H => ?_
  refine HT_joinK (fun l' s' => ∃ (x7 : Int), G3 x7 = some r ∧ l' = [.pointer (some ⟨bp0, 0, none⟩), undef, .int .i64 0, .int .i64 x7, getL l' 4, getL l' 5, getL l' 6, getL l' 7, getL l' 8, getL l' 9, getL l' 10, getL l' 11, getL l' 12, getL l' 13, getL l' 14, getL l' 15, getL l' 16, getL l' 17, getL l' 18, getL l' 19, getL l' 20, getL l' 21, getL l' 22, getL l' 23, getL l' 24, undef, undef, undef, undef, undef, undef, undef, undef, undef, undef, undef, undef, undef, undef, undef, undef, undef, undef, undef, undef, undef, undef, undef, undef, undef, undef, undef, undef, undef, undef, undef, undef, undef, undef, undef, undef, undef] ∧ Hp sb s F0 s' [Ck.ov bp0 [.slice A0_0p p0_0.length c0_0p, .int .i64 p0_1, .int .u64 p0_2] 113]) ?_ ?_
  · intro K3 hK3
    refine HT_seq_k ?_
    intro K8 hK8
    refine HX_draw hMix ?_
    refine HX_lim (R := fun _ => True) (k := 0) (fun s' => Gro s s') 11 ?_
    have hR := Gro.refl s
    have hH0 := hH
    refine HK_readP 0 (v := .pointer (some ⟨bp0, 0, none⟩)) rfl (by kernel_rfl) (fun c l s h => hQp c l s h) rfl (fun s' K hK => ?_) rfl rfl (fun _ => hR) ?_
    · refine o_move ?_
      exact hK
    try dsimp only [putL, setL, evL, getL]
    refine HK_readP 1 (v := .pointer (some ⟨bp0, 0, none⟩)) rfl (by kernel_rfl) (fun c l s h => hQp c l s h) rfl (fun s' K hK => ?_) rfl rfl (fun _ => hR) ?_
    · refine o_nilck rfl ?_
      exact hK
    try dsimp only [putL, setL, evL, getL]
    refine HK_readP 2 (v := .pointer (some ⟨bp0, 0 + 1, none⟩)) rfl (by kernel_rfl) (fun c l s h => hQp c l s h) rfl (fun s' K hK => ?_) rfl rfl (fun _ => hR) ?_
    · refine o_faddr' (ft := 3) (off := 1) rfl Try.underlying113 rfl tI3 (by decide) ?_
      exact hK
    try dsimp only [putL, setL, evL, getL]
    refine HK_read 3 (v := .int .i64 p0_1) rfl (by kernel_rfl) (fun c l s h => hQp c l s h) rfl (fun s' hR' K hK => ?_) rfl rfl hR ?_
    · refine o_load' rfl Try.underlying3 rfl (has_gro hR' (hH0.hasv 0 rfl rfl)) ?_
      exact hK
    try dsimp only [putL, setL, evL, getL]
    refine HK_readP 4 (v := .pointer (some ⟨bp0, 0, none⟩)) rfl (by kernel_rfl) (fun c l s h => hQp c l s h) rfl (fun s' K hK => ?_) rfl rfl (fun _ => hR) ?_
    · refine o_move ?_
      exact hK
    try dsimp only [putL, setL, evL, getL]
    refine HK_readP 5 (v := .pointer (some ⟨bp0, 0, none⟩)) rfl (by kernel_rfl) (fun c l s h => hQp c l s h) rfl (fun s' K hK => ?_) rfl rfl (fun _ => hR) ?_
    · refine o_nilck rfl ?_
      exact hK
    try dsimp only [putL, setL, evL, getL]
    refine HK_readP 6 (v := .pointer (some ⟨bp0, 0 + 0, none⟩)) rfl (by kernel_rfl) (fun c l s h => hQp c l s h) rfl (fun s' K hK => ?_) rfl rfl (fun _ => hR) ?_
    · refine o_faddr' (ft := 22) (off := 0) rfl Try.underlying113 rfl tI22 (by decide) ?_
      exact hK
    try dsimp only [putL, setL, evL, getL]
    refine HK_read 7 (v := .slice A0_0p p0_0.length c0_0p) rfl (by kernel_rfl) (fun c l s h => hQp c l s h) rfl (fun s' hR' K hK => ?_) rfl rfl hR ?_
    · refine o_load' rfl Try.underlying22 rfl (has_gro hR' (hH0.hasv 0 rfl rfl)) ?_
      exact hK
    try dsimp only [putL, setL, evL, getL]
    refine HK_readP 8 (v := .int .i64 (p0_0.length : Int)) rfl (by kernel_rfl) (fun c l s h => hQp c l s h) rfl (fun s' K hK => ?_) rfl rfl (fun _ => hR) ?_
    · refine o_len rfl Try.underlying22 ?_
      exact hK
    try dsimp only [putL, setL, evL, getL]
    refine HK_readP 9 (v := .bool (decide (p0_1 < (p0_0.length : Int)))) rfl (by kernel_rfl) (fun c l s h => hQp c l s h) rfl (fun s' K hK => ?_) rfl rfl (fun _ => hR) ?_
    · refine o_bin rfl rfl rfl ?_
      exact hK
    try dsimp only [putL, setL, evL, getL]
    refine HK_done (fun _ => hR) (by kernel_rfl) ?_
    refine hK8 _ _ ?_
    rcases Bool.eq_false_or_eq_true (decide (p0_1 < (p0_0.length : Int))) with hb9 | hb9
    · replace H := iteT hb9 H
      refine HT_true (congrArg Value.bool hb9) ?_
      refine HX_draw hMix ?_
      refine HX_lim (R := fun _ => True) (k := 0) (fun s' => Gro s s') 13 ?_
      have hR := Gro.refl s
      have hH0 := hH
      refine HK_readP 0 (v := .pointer (some ⟨bp0, 0, none⟩)) rfl (by kernel_rfl) (fun c l s h => hQp c l s h) rfl (fun s' K hK => ?_) rfl rfl (fun _ => hR) ?_
      · refine o_move ?_
        exact hK
      try dsimp only [putL, setL, evL, getL]
      refine HK_readP 1 (v := .pointer (some ⟨bp0, 0, none⟩)) rfl (by kernel_rfl) (fun c l s h => hQp c l s h) rfl (fun s' K hK => ?_) rfl rfl (fun _ => hR) ?_
      · refine o_nilck rfl ?_
        exact hK
      try dsimp only [putL, setL, evL, getL]
      refine HK_readP 2 (v := .pointer (some ⟨bp0, 0 + 0, none⟩)) rfl (by kernel_rfl) (fun c l s h => hQp c l s h) rfl (fun s' K hK => ?_) rfl rfl (fun _ => hR) ?_
      · refine o_faddr' (ft := 22) (off := 0) rfl Try.underlying113 rfl tI22 (by decide) ?_
        exact hK
      try dsimp only [putL, setL, evL, getL]
      refine HK_read 3 (v := .slice A0_0p p0_0.length c0_0p) rfl (by kernel_rfl) (fun c l s h => hQp c l s h) rfl (fun s' hR' K hK => ?_) rfl rfl hR ?_
      · refine o_load' rfl Try.underlying22 rfl (has_gro hR' (hH0.hasv 0 rfl rfl)) ?_
        exact hK
      try dsimp only [putL, setL, evL, getL]
      refine HK_readP 4 (v := .pointer (some ⟨bp0, 0, none⟩)) rfl (by kernel_rfl) (fun c l s h => hQp c l s h) rfl (fun s' K hK => ?_) rfl rfl (fun _ => hR) ?_
      · refine o_move ?_
        exact hK
      try dsimp only [putL, setL, evL, getL]
      refine HK_readP 5 (v := .pointer (some ⟨bp0, 0, none⟩)) rfl (by kernel_rfl) (fun c l s h => hQp c l s h) rfl (fun s' K hK => ?_) rfl rfl (fun _ => hR) ?_
      · refine o_nilck rfl ?_
        exact hK
      try dsimp only [putL, setL, evL, getL]
      refine HK_readP 6 (v := .pointer (some ⟨bp0, 0 + 1, none⟩)) rfl (by kernel_rfl) (fun c l s h => hQp c l s h) rfl (fun s' K hK => ?_) rfl rfl (fun _ => hR) ?_
      · refine o_faddr' (ft := 3) (off := 1) rfl Try.underlying113 rfl tI3 (by decide) ?_
        exact hK
      try dsimp only [putL, setL, evL, getL]
      refine HK_read 7 (v := .int .i64 p0_1) rfl (by kernel_rfl) (fun c l s h => hQp c l s h) rfl (fun s' hR' K hK => ?_) rfl rfl hR ?_
      · refine o_load' rfl Try.underlying3 rfl (has_gro hR' (hH0.hasv 0 rfl rfl)) ?_
        exact hK
      try dsimp only [putL, setL, evL, getL]
      replace H := headE H
      obtain ⟨u10, hu10, H⟩ := H
      obtain ⟨b10, o10, cs10, hr10, hh10, hel10⟩ := Rd.elb HRp0_0 hu10
      obtain rfl := hr10
      refine HK_readP 8 (v := .pointer (some ⟨b10, o10, none⟩)) rfl (by kernel_rfl) (fun c l s h => hQp c l s h) rfl (fun s' K hK => ?_) rfl rfl (fun _ => hR) ?_
      · refine hel10 s' rfl rfl Try.underlying22 tI5 ?_
        exact hK
      try dsimp only [putL, setL, evL, getL]
      refine HK_read 9 (v := .int .u8 u10) rfl (by kernel_rfl) (fun c l s h => hQp c l s h) rfl (fun s' hR' K hK => ?_) rfl rfl hR ?_
      · refine o_load' rfl Try.underlying5 rfl ((hh10 (hH0.bs.mono.trans hR'.mono)) 0 _ rfl) ?_
        exact hK
      try dsimp only [putL, setL, evL, getL]
      refine HK_readP 10 (v := .int .i64 (IntKind.i64.wrap u10)) rfl (by kernel_rfl) (fun c l s h => hQp c l s h) rfl (fun s' K hK => ?_) rfl rfl (fun _ => hR) ?_
      · refine o_conv rfl Try.underlying5 Try.underlying3 ?_
        exact hK
      try dsimp only [putL, setL, evL, getL]
      refine HK_more [11] (by kernel_rfl) rfl (fun _ => hR) ⟨⟨_, rfl, Or.inl ⟨rfl, ?_⟩⟩, trivial⟩
      skip
      refine o_assign ?_
      try dsimp only [putL, setL, evL, getL]
      refine HK_done (fun _ => hR) (by kernel_rfl) ?_
      exact hK3 _ _ ⟨IntKind.i64.wrap u10, H, rfl, hH⟩
    · replace H := iteF hb9 H
      refine HT_false (congrArg Value.bool hb9) ?_
      refine HT_skip ?_
      exact hK3 _ _ ⟨0, H, rfl, hH⟩
  · rintro l' s11 ⟨x7, H, hl, hH⟩
    generalize getL l' 4 = j4, getL l' 5 = j5, getL l' 6 = j6, getL l' 7 = j7, getL l' 8 = j8, getL l' 9 = j9, getL l' 10 = j10, getL l' 11 = j11, getL l' 12 = j12, getL l' 13 = j13, getL l' 14 = j14, getL l' 15 = j15, getL l' 16 = j16, getL l' 17 = j17, getL l' 18 = j18, getL l' 19 = j19, getL l' 20 = j20, getL l' 21 = j21, getL l' 22 = j22, getL l' 23 = j23, getL l' 24 = j24 at hl
    subst hl
    replace H := hG3 _ H
    try dsimp only at H
    refine HT_seq_k ?_
    intro K12 hK12
    refine HT_region ?_
    refine HL_cons rfl ?_
    refine o_move ?_
    try dsimp only [putL, setL, evL, getL]
    refine HL_cons rfl ?_
    refine o_nilck rfl ?_
    try dsimp only [putL, setL, evL, getL]
    refine HL_cons rfl ?_
    refine o_faddr' (ft := 3) (off := 1) rfl Try.underlying113 rfl tI3 (by decide) ?_
    try dsimp only [putL, setL, evL, getL]
    refine HL_cons rfl ?_
    refine o_load' rfl Try.underlying3 rfl (hH.hasv 0 rfl rfl) ?_
    try dsimp only [putL, setL, evL, getL]
    refine HL_cons rfl ?_
    refine o_bin rfl rfl rfl ?_
    try dsimp only [putL, setL, evL, getL]
    refine HL_cons rfl ?_
    refine o_nilck rfl ?_
    try dsimp only [putL, setL, evL, getL]
    refine HL_cons rfl ?_
    refine o_faddr' (ft := 3) (off := 1) rfl Try.underlying113 rfl tI3 (by decide) ?_
    try dsimp only [putL, setL, evL, getL]
    refine HL_cons rfl ?_
    refine o_stvH (vs := [.int .i64 (IntKind.i64.wrap (p0_1 + 1))]) (us' := [.slice A0_0p p0_0.length c0_0p, .int .i64 (IntKind.i64.wrap (p0_1 + 1)), .int .u64 p0_2]) hH 0 rfl rfl rfl rfl rfl tI3 rfl (List.cons_ne_nil _ _) rfl rfl rfl ?_
    intro s13 hH'
    replace hH : Hp sb s F0 s13 [Ck.ov bp0 [.slice A0_0p p0_0.length c0_0p, .int .i64 (IntKind.i64.wrap (p0_1 + 1)), .int .u64 p0_2] 113] := hH'
    clear hH'
    try dsimp only [putL, setL, evL, getL]
    refine HL_nil ?_
    refine hK12 _ _ ?_
    refine HT_seq_k ?_
    intro K14 hK14
    refine HT_region ?_
    refine HL_cons rfl ?_
    refine o_move ?_
    try dsimp only [putL, setL, evL, getL]
    refine HL_cons rfl ?_
    refine o_move ?_
    try dsimp only [putL, setL, evL, getL]
    refine HL_cons rfl ?_
    refine o_nilck rfl ?_
    try dsimp only [putL, setL, evL, getL]
    refine HL_cons rfl ?_
    refine o_faddr' (ft := 111) (off := 2) rfl Try.underlying113 rfl tI111 (by decide) ?_
    try dsimp only [putL, setL, evL, getL]
    refine HL_cons rfl ?_
    refine o_load' rfl Try.underlying111 rfl (hH.hasv 0 rfl rfl) ?_
    try dsimp only [putL, setL, evL, getL]
    refine HL_cons rfl ?_
    refine o_bin rfl rfl rfl ?_
    try dsimp only [putL, setL, evL, getL]
    refine HL_cons rfl ?_
    refine o_move ?_
    try dsimp only [putL, setL, evL, getL]
    refine HL_cons rfl ?_
    refine o_conv rfl Try.underlying3 Try.underlying111 ?_
    try dsimp only [putL, setL, evL, getL]
    refine HL_cons rfl ?_
    refine o_bin rfl rfl rfl ?_
    try dsimp only [putL, setL, evL, getL]
    refine HL_cons rfl ?_
    refine o_bin rfl rfl rfl ?_
    try dsimp only [putL, setL, evL, getL]
    refine HL_cons rfl ?_
    refine o_nilck rfl ?_
    try dsimp only [putL, setL, evL, getL]
    refine HL_cons rfl ?_
    refine o_faddr' (ft := 111) (off := 2) rfl Try.underlying113 rfl tI111 (by decide) ?_
    try dsimp only [putL, setL, evL, getL]
    refine HL_cons rfl ?_
    refine o_stvH (vs := [.int .u64 (IntKind.u64.wrap ((IntKind.u64.wrap ((IntKind.u64.wrap (p0_2 * 6364136223846793005)) + (IntKind.u64.wrap x7))) + 1442695040888963407))]) (us' := [.slice A0_0p p0_0.length c0_0p, .int .i64 (IntKind.i64.wrap (p0_1 + 1)), .int .u64 (IntKind.u64.wrap ((IntKind.u64.wrap ((IntKind.u64.wrap (p0_2 * 6364136223846793005)) + (IntKind.u64.wrap x7))) + 1442695040888963407))]) hH 0 rfl rfl rfl rfl rfl tI111 rfl (List.cons_ne_nil _ _) rfl rfl rfl ?_
    intro s15 hH'
    replace hH : Hp sb s F0 s15 [Ck.ov bp0 [.slice A0_0p p0_0.length c0_0p, .int .i64 (IntKind.i64.wrap (p0_1 + 1)), .int .u64 (IntKind.u64.wrap ((IntKind.u64.wrap ((IntKind.u64.wrap (p0_2 * 6364136223846793005)) + (IntKind.u64.wrap x7))) + 1442695040888963407))] 113] := hH'
    clear hH'
    try dsimp only [putL, setL, evL, getL]
    refine HL_nil ?_
    refine hK14 _ _ ?_
    refine HT_seq_k ?_
    intro K16 hK16
    refine HT_seq_k ?_
    intro K17 hK17
    refine HX_draw hMix ?_
    refine HX_lim (R := fun _ => True) (k := 0) (fun s' => Gro s15 s') 11 ?_
    have hR := Gro.refl s15
    have hH0 := hH
    refine HK_readP 0 (v := .pointer (some ⟨bp0, 0, none⟩)) rfl (by kernel_rfl) (fun c l s h => hQp c l s h) rfl (fun s' K hK => ?_) rfl rfl (fun _ => hR) ?_
    · refine o_move ?_
      exact hK
    try dsimp only [putL, setL, evL, getL]
    refine HK_readP 1 (v := .pointer (some ⟨bp0, 0, none⟩)) rfl (by kernel_rfl) (fun c l s h => hQp c l s h) rfl (fun s' K hK => ?_) rfl rfl (fun _ => hR) ?_
    · refine o_nilck rfl ?_
      exact hK
    try dsimp only [putL, setL, evL, getL]
    refine HK_readP 2 (v := .pointer (some ⟨bp0, 0 + 1, none⟩)) rfl (by kernel_rfl) (fun c l s h => hQp c l s h) rfl (fun s' K hK => ?_) rfl rfl (fun _ => hR) ?_
    · refine o_faddr' (ft := 3) (off := 1) rfl Try.underlying113 rfl tI3 (by decide) ?_
      exact hK
    try dsimp only [putL, setL, evL, getL]
    refine HK_read 3 (v := .int .i64 (IntKind.i64.wrap (p0_1 + 1))) rfl (by kernel_rfl) (fun c l s h => hQp c l s h) rfl (fun s' hR' K hK => ?_) rfl rfl hR ?_
    · refine o_load' rfl Try.underlying3 rfl (has_gro hR' (hH0.hasv 0 rfl rfl)) ?_
      exact hK
    try dsimp only [putL, setL, evL, getL]
    refine HK_readP 4 (v := .pointer (some ⟨bp0, 0, none⟩)) rfl (by kernel_rfl) (fun c l s h => hQp c l s h) rfl (fun s' K hK => ?_) rfl rfl (fun _ => hR) ?_
    · refine o_move ?_
      exact hK
    try dsimp only [putL, setL, evL, getL]
    refine HK_readP 5 (v := .pointer (some ⟨bp0, 0, none⟩)) rfl (by kernel_rfl) (fun c l s h => hQp c l s h) rfl (fun s' K hK => ?_) rfl rfl (fun _ => hR) ?_
    · refine o_nilck rfl ?_
      exact hK
    try dsimp only [putL, setL, evL, getL]
    refine HK_readP 6 (v := .pointer (some ⟨bp0, 0 + 0, none⟩)) rfl (by kernel_rfl) (fun c l s h => hQp c l s h) rfl (fun s' K hK => ?_) rfl rfl (fun _ => hR) ?_
    · refine o_faddr' (ft := 22) (off := 0) rfl Try.underlying113 rfl tI22 (by decide) ?_
      exact hK
    try dsimp only [putL, setL, evL, getL]
    refine HK_read 7 (v := .slice A0_0p p0_0.length c0_0p) rfl (by kernel_rfl) (fun c l s h => hQp c l s h) rfl (fun s' hR' K hK => ?_) rfl rfl hR ?_
    · refine o_load' rfl Try.underlying22 rfl (has_gro hR' (hH0.hasv 0 rfl rfl)) ?_
      exact hK
    try dsimp only [putL, setL, evL, getL]
    refine HK_readP 8 (v := .int .i64 (p0_0.length : Int)) rfl (by kernel_rfl) (fun c l s h => hQp c l s h) rfl (fun s' K hK => ?_) rfl rfl (fun _ => hR) ?_
    · refine o_len rfl Try.underlying22 ?_
      exact hK
    try dsimp only [putL, setL, evL, getL]
    refine HK_readP 9 (v := .bool (decide ((IntKind.i64.wrap (p0_1 + 1)) ≤ (p0_0.length : Int)))) rfl (by kernel_rfl) (fun c l s h => hQp c l s h) rfl (fun s' K hK => ?_) rfl rfl (fun _ => hR) ?_
    · refine o_bin rfl rfl rfl ?_
      exact hK
    try dsimp only [putL, setL, evL, getL]
    refine HK_done (fun _ => hR) (by kernel_rfl) ?_
    refine hK17 _ _ ?_
    rcases Bool.eq_false_or_eq_true (decide ((IntKind.i64.wrap (p0_1 + 1)) ≤ (p0_0.length : Int))) with hb18 | hb18
    · replace H := iteT hb18 H
      refine HT_true (congrArg Value.bool hb18) ?_
      refine HT_seq_k ?_
      intro K19 hK19
      refine HT_region ?_
      refine HL_cons rfl ?_
      refine o_move ?_
      try dsimp only [putL, setL, evL, getL]
      refine HL_cons rfl ?_
      refine o_assign ?_
      try dsimp only [putL, setL, evL, getL]
      refine HL_nil ?_
      refine hK19 _ _ ?_
      refine HT_ret ?_
      exact hQr _ _ [.int .i64 x7] ⟨rfl, trivial⟩ (retH (fun r => spec_l1Cur_next.post sb s F0 bp0 A0_0p c0_0p p0_0 r _ _) (show some _ = some r from H) ⟨rfl, hH⟩)
    · replace H := iteF hb18 H
      refine HT_false (congrArg Value.bool hb18) ?_
      refine HT_skip ?_
      refine hK16 _ _ ?_
      refine HT_seq_k ?_
      intro K20 hK20
      refine HT_region ?_
      refine HL_cons rfl ?_
      refine o_move ?_
      try dsimp only [putL, setL, evL, getL]
      refine HL_cons rfl ?_
      refine o_nilck rfl ?_
      try dsimp only [putL, setL, evL, getL]
      refine HL_cons rfl ?_
      refine o_faddr' (ft := 111) (off := 2) rfl Try.underlying113 rfl tI111 (by decide) ?_
      try dsimp only [putL, setL, evL, getL]
      refine HL_cons rfl ?_
      refine o_load' rfl Try.underlying111 rfl (hH.hasv 0 rfl rfl) ?_
      try dsimp only [putL, setL, evL, getL]
      replace H := headE H
      obtain ⟨u21, hu21, H⟩ := H
      refine HL_cons rfl ?_
      refine o_shrK rfl rfl hu21 ?_
      try dsimp only [putL, setL, evL, getL]
      refine HL_cons rfl ?_
      refine o_bin rfl rfl rfl ?_
      try dsimp only [putL, setL, evL, getL]
      refine HL_cons rfl ?_
      refine o_conv rfl Try.underlying111 Try.underlying3 ?_
      try dsimp only [putL, setL, evL, getL]
      refine HL_cons rfl ?_
      refine o_assign ?_
      try dsimp only [putL, setL, evL, getL]
      refine HL_nil ?_
      refine hK20 _ _ ?_
      refine HT_ret ?_
      exact hQr _ _ [.int .i64 (IntKind.i64.wrap (bits .and .u64 u21 255))] ⟨rfl, trivial⟩ (retH (fun r => spec_l1Cur_next.post sb s F0 bp0 A0_0p c0_0p p0_0 r _ _) (show some _ = some r from H) ⟨rfl, hH⟩)
def spec_l1Cur_pick.f (p0_0 : List (Int)) (p0_1 : Int) (p0_2 : Int) (p1 : Int) : Option (Int × Int × Int) := if (decide (p1 ≤ 1)) = true then (some (0, p0_1, p0_2)) else ((spec_l1Cur_next.f p0_0 p0_1 p0_2).bind fun u7 => (if (decide (p1 > 200)) = true then ((spec_l1Cur_next.f p0_0 u7.2.1 u7.2.2).bind fun u17 => some ((IntKind.i64.wrap ((IntKind.i64.wrap (u7.1 * 256)) + u17.1)), u17.2.1, u17.2.2)) else (some (u7.1, u7.2.1, u7.2.2))).bind fun (o : Int × Int × Int) => match o with | (x12, x13, x14) => ((rem? x12 p1).bind fun u20 => some (u20, x13, x14)))
def spec_l1Cur_pick.post (sb s : St) (F0 : Fp) (bp0 : Nat) (A0_0p : Option Addr) (c0_0p : Nat) (p0_0 : List (Int)) (r : Int × Int × Int) : Value → St → Prop := fun v s' => v = .int .i64 r.1 ∧ Hp sb s F0 s' [Ck.ov bp0 [.slice A0_0p p0_0.length c0_0p, .int .i64 r.2.1, .int .u64 r.2.2] 113]
set_option maxRecDepth 100000 in
set_option maxHeartbeats 4000000 in
theorem spec_l1Cur_pick.ok (sb s : St) (F0 : Fp) (bp0 : Nat) (A0_0p : Option Addr) (c0_0p : Nat) (p0_0 : List (Int)) (p0_1 : Int) (p0_2 : Int) (p1 : Int) (HRp0_0 : Rd (Kd.int .u8) sb A0_0p c0_0p p0_0) (hH : Hp sb s F0 s [Ck.ov bp0 [.slice A0_0p p0_0.length c0_0p, .int .i64 p0_1, .int .u64 p0_2] 113]) (r : Int × Int × Int) (H : spec_l1Cur_pick.f p0_0 p0_1 p0_2 p1 = some r) : GCall Try.prog 112 #[.pointer (some ⟨bp0, 0, none⟩), .int .i64 p1] s (spec_l1Cur_pick.post sb s F0 bp0 A0_0p c0_0p p0_0 r) := by
  refine GCall_ofk [.tmp 4] [.pointer (some ⟨bp0, 0, none⟩), .int .i64 p1, undef, undef, undef, undef, undef, undef, undef, undef, undef, undef, undef, undef, undef, undef, undef, undef, undef, undef] Try.func112 rfl rfl rfl ?_
  intro w Q hQr hQn hQp
  replace H := topE H
  unfold spec_l1Cur_pick.f at H
  refine HT_seq_k ?_
  intro K1 hK1
  refine HT_region ?_
  refine HL_cons rfl ?_
  refine o_assign ?_
  try dsimp only [putL, setL, evL, getL]
  refine HL_nil ?_
  refine hK1 _ _ ?_
  refine HT_seq_k ?_
  intro K2 hK2
  refine HT_seq_k ?_
  intro K3 hK3
  refine HT_region ?_
  refine HL_cons rfl ?_
  refine o_move ?_
  try dsimp only [putL, setL, evL, getL]
  refine HL_cons rfl ?_
  refine o_bin rfl rfl rfl ?_
  try dsimp only [putL, setL, evL, getL]
  refine HL_nil ?_
  refine hK3 _ _ ?_
  rcases Bool.eq_false_or_eq_true (decide (p1 ≤ 1)) with hb4 | hb4
  · replace H := iteT hb4 H
    refine HT_true (congrArg Value.bool hb4) ?_
    refine HT_seq_k ?_
    intro K5 hK5
    refine HT_region ?_
    refine HL_cons rfl ?_
    refine o_assign ?_
    try dsimp only [putL, setL, evL, getL]
    refine HL_nil ?_
    refine hK5 _ _ ?_
    refine HT_ret ?_
    exact hQr _ _ [.int .i64 0] ⟨rfl, trivial⟩ (retH (fun r => spec_l1Cur_pick.post sb s F0 bp0 A0_0p c0_0p p0_0 r _ _) (show some _ = some r from H) ⟨rfl, hH⟩)
  · replace H := iteF hb4 H
    refine HT_false (congrArg Value.bool hb4) ?_
    refine HT_skip ?_
    refine hK2 _ _ ?_
    refine HT_seq_k ?_
    intro K6 hK6
    refine HT_region ?_
    refine HL_cons rfl ?_
    refine o_move ?_
    try dsimp only [putL, setL, evL, getL]
    replace H := headE H
    obtain ⟨u7, hu7, H⟩ := H
    obtain ⟨F1, hA, hB⟩ := hH.take [0] (by decide)
    dsimp only [addC, setC, rmC, selC, getC] at hA
    refine HL_cons rfl ?_
    refine o_call (args := #[.pointer (some ⟨bp0, 0, none⟩)]) Try.func183 rfl rfl rfl (spec_l1Cur_next.ok sb s F1 bp0 A0_0p c0_0p p0_0 p0_1 p0_2 HRp0_0 hA _ hu7) ?_
    rintro _ s7 ⟨rfl, hD⟩
    replace hH := hB _ _ _ (Up.refl _ _ _) hD
    clear hD hA hB
    dsimp only [addC, setC, rmC, selC, getC] at hH
    try dsimp only [putL, setL, evL, getL]
    refine HL_cons rfl ?_
    refine o_assign ?_
    try dsimp only [putL, setL, evL, getL]
    refine HL_nil ?_
    refine hK6 _ _ ?_
    refine joinH H fun G8 hG8 H => ?_
    refine HT_joinK (fun l' s' => ∃ (x12 : Int) (x13 : Int) (x14 : Int), G8 (x12, x13, x14) = some r ∧ l' = [.pointer (some ⟨bp0, 0, none⟩), .int .i64 p1, undef, undef, .int .i64 0, .int .i64 x12, .int .i64 p1, .bool (decide (p1 ≤ 1)), .pointer (some ⟨bp0, 0, none⟩), .int .i64 u7.1, getL l' 10, getL l' 11, getL l' 12, getL l' 13, getL l' 14, getL l' 15, getL l' 16, undef, undef, undef] ∧ Hp sb s F0 s' [Ck.ov bp0 [.slice A0_0p p0_0.length c0_0p, .int .i64 x13, .int .u64 x14] 113]) ?_ ?_
    · intro K8 hK8
      refine HT_seq_k ?_
      intro K15 hK15
      refine HT_region ?_
      refine HL_cons rfl ?_
      refine o_move ?_
      try dsimp only [putL, setL, evL, getL]
      refine HL_cons rfl ?_
      refine o_bin rfl rfl rfl ?_
      try dsimp only [putL, setL, evL, getL]
      refine HL_nil ?_
      refine hK15 _ _ ?_
      rcases Bool.eq_false_or_eq_true (decide (p1 > 200)) with hb16 | hb16
      · replace H := iteT hb16 H
        refine HT_true (congrArg Value.bool hb16) ?_
        refine HT_region ?_
        refine HL_cons rfl ?_
        refine o_move ?_
        try dsimp only [putL, setL, evL, getL]
        refine HL_cons rfl ?_
        refine o_bin rfl rfl rfl ?_
        try dsimp only [putL, setL, evL, getL]
        refine HL_cons rfl ?_
        refine o_move ?_
        try dsimp only [putL, setL, evL, getL]
        replace H := headE H
        obtain ⟨u17, hu17, H⟩ := H
        obtain ⟨F1, hA, hB⟩ := hH.take [1] (by decide)
        dsimp only [addC, setC, rmC, selC, getC] at hA
        refine HL_cons rfl ?_
        refine o_call (args := #[.pointer (some ⟨bp0, 0, none⟩)]) Try.func183 rfl rfl rfl (spec_l1Cur_next.ok sb s7 F1 bp0 A0_0p c0_0p p0_0 u7.2.1 u7.2.2 HRp0_0 hA _ hu17) ?_
        rintro _ s17 ⟨rfl, hD⟩
        replace hH := hB _ _ _ (Up.refl _ _ _) hD
        clear hD hA hB
        dsimp only [addC, setC, rmC, selC, getC] at hH
        try dsimp only [putL, setL, evL, getL]
        refine HL_cons rfl ?_
        refine o_bin rfl rfl rfl ?_
        try dsimp only [putL, setL, evL, getL]
        refine HL_cons rfl ?_
        refine o_assign ?_
        try dsimp only [putL, setL, evL, getL]
        refine HL_nil ?_
        exact hK8 _ _ ⟨IntKind.i64.wrap ((IntKind.i64.wrap (u7.1 * 256)) + u17.1), u17.2.1, u17.2.2, H, rfl, hH.sel [2] (by decide)⟩
      · replace H := iteF hb16 H
        refine HT_false (congrArg Value.bool hb16) ?_
        refine HT_skip ?_
        exact hK8 _ _ ⟨u7.1, u7.2.1, u7.2.2, H, rfl, hH.sel [1] (by decide)⟩
    · rintro l' s18 ⟨x12, x13, x14, H, hl, hH⟩
      generalize getL l' 10 = j10, getL l' 11 = j11, getL l' 12 = j12, getL l' 13 = j13, getL l' 14 = j14, getL l' 15 = j15, getL l' 16 = j16 at hl
      subst hl
      replace H := hG8 _ H
      try dsimp only at H
      refine HT_seq_k ?_
      intro K19 hK19
      refine HT_region ?_
      refine HL_cons rfl ?_
      refine o_move ?_
      try dsimp only [putL, setL, evL, getL]
      refine HL_cons rfl ?_
      refine o_move ?_
      try dsimp only [putL, setL, evL, getL]
      replace H := headE H
      obtain ⟨u20, hu20, H⟩ := H
      refine HL_cons rfl ?_
      refine o_rem' rfl rfl hu20 ?_
      try dsimp only [putL, setL, evL, getL]
      refine HL_cons rfl ?_
      refine o_assign ?_
      try dsimp only [putL, setL, evL, getL]
      refine HL_nil ?_
      refine hK19 _ _ ?_
      refine HT_ret ?_
      exact hQr _ _ [.int .i64 u20] ⟨rfl, trivial⟩ (retH (fun r => spec_l1Cur_pick.post sb s F0 bp0 A0_0p c0_0p p0_0 r _ _) (show some _ = some r from H) ⟨rfl, hH⟩)
def spec_l1Cur_among.f (p0_0 : List (Int)) (p0_1 : Int) (p0_2 : Int) (p1 : List (Int)) : Option (Int × Int × Int) := (spec_l1Cur_pick.f p0_0 p0_1 p0_2 (p1.length : Int)).bind fun u3 => (rd? p1 u3.1).bind fun u4 => some (u4, u3.2.1, u3.2.2)
def spec_l1Cur_among.post (sb s : St) (F0 : Fp) (bp0 : Nat) (A0_0p : Option Addr) (c0_0p : Nat) (p0_0 : List (Int)) (r : Int × Int × Int) : Value → St → Prop := fun v s' => v = .int .i64 r.1 ∧ Hp sb s F0 s' [Ck.ov bp0 [.slice A0_0p p0_0.length c0_0p, .int .i64 r.2.1, .int .u64 r.2.2] 113]
set_option maxRecDepth 100000 in
set_option maxHeartbeats 4000000 in
theorem spec_l1Cur_among.ok (sb s : St) (F0 : Fp) (bp0 : Nat) (A0_0p : Option Addr) (c0_0p : Nat) (p0_0 : List (Int)) (p0_1 : Int) (p0_2 : Int) (A1p : Option Addr) (c1p : Nat) (p1 : List (Int)) (HRp0_0 : Rd (Kd.int .u8) sb A0_0p c0_0p p0_0) (HRp1 : Rd KI sb A1p c1p p1) (hH : Hp sb s F0 s [Ck.ov bp0 [.slice A0_0p p0_0.length c0_0p, .int .i64 p0_1, .int .u64 p0_2] 113]) (r : Int × Int × Int) (H : spec_l1Cur_among.f p0_0 p0_1 p0_2 p1 = some r) : GCall Try.prog 104 #[.pointer (some ⟨bp0, 0, none⟩), .slice A1p p1.length c1p] s (spec_l1Cur_among.post sb s F0 bp0 A0_0p c0_0p p0_0 r) := by
  refine GCall_ofk [.tmp 4] [.pointer (some ⟨bp0, 0, none⟩), .slice A1p p1.length c1p, undef, undef, undef, undef, undef, undef, undef, undef, undef, undef] Try.func104 rfl rfl rfl ?_
  intro w Q hQr hQn hQp
  replace H := topE H
  unfold spec_l1Cur_among.f at H
  refine HT_seq_k ?_
  intro K1 hK1
  refine HT_region ?_
  refine HL_cons rfl ?_
  refine o_assign ?_
  try dsimp only [putL, setL, evL, getL]
  refine HL_nil ?_
  refine hK1 _ _ ?_
  refine HT_seq_k ?_
  intro K2 hK2
  refine HT_region ?_
  refine HL_cons rfl ?_
  refine o_move ?_
  try dsimp only [putL, setL, evL, getL]
  refine HL_cons rfl ?_
  refine o_move ?_
  try dsimp only [putL, setL, evL, getL]
  refine HL_cons rfl ?_
  refine o_move ?_
  try dsimp only [putL, setL, evL, getL]
  refine HL_cons rfl ?_
  refine o_len rfl Try.underlying24 ?_
  try dsimp only [putL, setL, evL, getL]
  replace H := headE H
  obtain ⟨u3, hu3, H⟩ := H
  obtain ⟨F1, hA, hB⟩ := hH.take [0] (by decide)
  dsimp only [addC, setC, rmC, selC, getC] at hA
  refine HL_cons rfl ?_
  refine o_call (args := #[.pointer (some ⟨bp0, 0, none⟩), .int .i64 (p1.length : Int)]) Try.func112 rfl rfl rfl (spec_l1Cur_pick.ok sb s F1 bp0 A0_0p c0_0p p0_0 p0_1 p0_2 (p1.length : Int) HRp0_0 hA _ hu3) ?_
  rintro _ s3 ⟨rfl, hD⟩
  replace hH := hB _ _ _ (Up.refl _ _ _) hD
  clear hD hA hB
  dsimp only [addC, setC, rmC, selC, getC] at hH
  try dsimp only [putL, setL, evL, getL]
  replace H := headE H
  obtain ⟨u4, hu4, H⟩ := H
  obtain ⟨b4, o4, cs4, hr4, hh4, hel4⟩ := Rd.elb HRp1 hu4
  obtain rfl := hr4
  refine HL_cons rfl ?_
  refine hel4 s3 rfl rfl Try.underlying24 tI3 ?_
  try dsimp only [putL, setL, evL, getL]
  refine HL_cons rfl ?_
  refine o_load' rfl Try.underlying3 rfl ((hh4 hH.bs.mono) 0 _ rfl) ?_
  try dsimp only [putL, setL, evL, getL]
  refine HL_cons rfl ?_
  refine o_assign ?_
  try dsimp only [putL, setL, evL, getL]
  refine HL_nil ?_
  refine hK2 _ _ ?_
  refine HT_ret ?_
  exact hQr _ _ [.int .i64 u4] ⟨rfl, trivial⟩ (retH (fun r => spec_l1Cur_among.post sb s F0 bp0 A0_0p c0_0p p0_0 r _ _) (show some _ = some r from H) ⟨rfl, hH.sel [1] (by decide)⟩)
def spec_l1Cur_small.l1 (p0_0 : List (Int)) : Nat → (List (Int)) → Int → Int → Int → Option ((List (Int)) × Int × Int)
  | 0, _, _, _, _ => none
  | kf + 1, x53, x54, x55, x56 => if (decide (x54 > 0)) = true then ((spec_l1Cur_among.f p0_0 x55 x56 [97, 98, 97, 98, 99, 12354]).bind fun u75 => (app? 17592186044416 x53 [u75.1]).bind fun x77 => spec_l1Cur_small.l1 p0_0 kf x77 (IntKind.i64.wrap (x54 - 1)) u75.2.1 u75.2.2) else (some (x53, x55, x56))
def spec_l1Cur_small.f (p0_0 : List (Int)) (p0_1 : Int) (p0_2 : Int) (p1 : Int) : Option ((List (Int)) × Int × Int) := (spec_l1Cur_pick.f p0_0 p0_1 p0_2 (IntKind.i64.wrap (p1 + 1))).bind fun u5 => (spec_l1Cur_small.l1 p0_0 (((u5.1) - (0)).toNat + 2) [] u5.1 u5.2.1 u5.2.2).bind fun (o : (List (Int)) × Int × Int) => match o with | (x41, x42, x43) => (some (x41, x42, x43))
def spec_l1Cur_small.post (sb s : St) (F0 : Fp) (bp0 : Nat) (A0_0p : Option Addr) (c0_0p : Nat) (p0_0 : List (Int)) (r : (List (Int)) × Int × Int) : Value → St → Prop := fun v s' => ∃ (A0 : Option Addr) (c0 : Nat), v = .slice A0 r.1.length c0 ∧ Hp sb s F0 s' [Ck.ol OI 3 A0 c0 r.1, Ck.ov bp0 [.slice A0_0p p0_0.length c0_0p, .int .i64 r.2.1, .int .u64 r.2.2] 113]
set_option maxRecDepth 100000 in
set_option maxHeartbeats 4000000 in
theorem spec_l1Cur_small.ok (sb s : St) (F0 : Fp) (bp0 : Nat) (A0_0p : Option Addr) (c0_0p : Nat) (p0_0 : List (Int)) (p0_1 : Int) (p0_2 : Int) (p1 : Int) (HRp0_0 : Rd (Kd.int .u8) sb A0_0p c0_0p p0_0) (hH : Hp sb s F0 s [Ck.ov bp0 [.slice A0_0p p0_0.length c0_0p, .int .i64 p0_1, .int .u64 p0_2] 113]) (r : (List (Int)) × Int × Int) (H : spec_l1Cur_small.f p0_0 p0_1 p0_2 p1 = some r) : GCall Try.prog 103 #[.pointer (some ⟨bp0, 0, none⟩), .int .i64 p1] s (spec_l1Cur_small.post sb s F0 bp0 A0_0p c0_0p p0_0 r) := by
  refine GCall_ofk [.tmp 4] [.pointer (some ⟨bp0, 0, none⟩), .int .i64 p1, undef, undef, undef, undef, undef, undef, undef, undef, undef, undef, undef, undef, undef, undef, undef, undef, undef, undef, undef, undef] Try.func103 rfl rfl rfl ?_
  intro w Q hQr hQn hQp
  replace H := topE H
  unfold spec_l1Cur_small.f at H
  refine HT_seq_k ?_
  intro K1 hK1
  refine HT_region ?_
  refine HL_cons rfl ?_
  refine o_assign ?_
  try dsimp only [putL, setL, evL, getL]
  refine HL_nil ?_
  refine hK1 _ _ ?_
  refine HT_seq_k ?_
  intro K2 hK2
  refine HT_region ?_
  refine HL_cons rfl ?_
  refine o_assign ?_
  try dsimp only [putL, setL, evL, getL]
  refine HL_nil ?_
  refine hK2 _ _ ?_
  refine HT_seq_k ?_
  intro K3 hK3
  refine HT_seq_k ?_
  intro K4 hK4
  refine HT_region ?_
  refine HL_cons rfl ?_
  refine o_move ?_
  try dsimp only [putL, setL, evL, getL]
  refine HL_cons rfl ?_
  refine o_move ?_
  try dsimp only [putL, setL, evL, getL]
  refine HL_cons rfl ?_
  refine o_bin rfl rfl rfl ?_
  try dsimp only [putL, setL, evL, getL]
  replace H := headE H
  obtain ⟨u5, hu5, H⟩ := H
  obtain ⟨F1, hA, hB⟩ := hH.take [0] (by decide)
  dsimp only [addC, setC, rmC, selC, getC] at hA
  refine HL_cons rfl ?_
  refine o_call (args := #[.pointer (some ⟨bp0, 0, none⟩), .int .i64 (IntKind.i64.wrap (p1 + 1))]) Try.func112 rfl rfl rfl (spec_l1Cur_pick.ok sb s F1 bp0 A0_0p c0_0p p0_0 p0_1 p0_2 (IntKind.i64.wrap (p1 + 1)) HRp0_0 hA _ hu5) ?_
  rintro _ s5 ⟨rfl, hD⟩
  replace hH := hB _ _ _ (Up.refl _ _ _) hD
  clear hD hA hB
  dsimp only [addC, setC, rmC, selC, getC] at hH
  try dsimp only [putL, setL, evL, getL]
  refine HL_cons rfl ?_
  refine o_assign ?_
  try dsimp only [putL, setL, evL, getL]
  refine HL_nil ?_
  refine hK4 _ _ ?_
  refine joinH H fun G6 hG6 H => ?_
  refine HT_toK (fun l' s' => ∃ (x41 : List (Int)) (A41 : Option Addr) (c41 : Nat) (x42 : Int) (x43 : Int), G6 (x41, x42, x43) = some r ∧ l' = [.pointer (some ⟨bp0, 0, none⟩), .int .i64 p1, undef, undef, .slice none 0 0, .slice A41 x41.length c41, getL l' 6, .pointer (some ⟨bp0, 0, none⟩), .int .i64 p1, .int .i64 (IntKind.i64.wrap (p1 + 1)), .int .i64 u5.1, getL l' 11, getL l' 12, getL l' 13, getL l' 14, getL l' 15, getL l' 16, getL l' 17, getL l' 18, getL l' 19, getL l' 20, undef] ∧ Hp sb s F0 s' [Ck.ol OI 3 A41 c41 x41, Ck.ov bp0 [.slice A0_0p p0_0.length c0_0p, .int .i64 x42, .int .u64 x43] 113]) ?_ ?_
  · intro K6 hK6
    refine HT_block ?_
    refine HT_loopK (fun kf l' s' => ∃ (x53 : List (Int)) (A53 : Option Addr) (c53 : Nat) (x54 : Int) (x55 : Int) (x56 : Int), (spec_l1Cur_small.l1 p0_0 kf x53 x54 x55 x56).bind G6 = some r ∧ l' = [.pointer (some ⟨bp0, 0, none⟩), .int .i64 p1, undef, undef, .slice none 0 0, .slice A53 x53.length c53, .int .i64 x54, .pointer (some ⟨bp0, 0, none⟩), .int .i64 p1, .int .i64 (IntKind.i64.wrap (p1 + 1)), .int .i64 u5.1, getL l' 11, getL l' 12, getL l' 13, getL l' 14, getL l' 15, getL l' 16, getL l' 17, getL l' 18, getL l' 19, getL l' 20, undef] ∧ Hp sb s F0 s' [Ck.ol OI 3 A53 c53 x53, Ck.ov bp0 [.slice A0_0p p0_0.length c0_0p, .int .i64 x55, .int .u64 x56] 113]) (((u5.1) - (0)).toNat + 2) ⟨[], none, 0, u5.1, u5.2.1, u5.2.2, H, rfl, (hH.nil (K := KI) OI 3).sel [2, 1] (by decide)⟩ ?_
    rintro kf l' s69 ⟨x53, A53, c53, x54, x55, x56, H, hl, hH⟩ K69 hK69
    generalize getL l' 11 = j11, getL l' 12 = j12, getL l' 13 = j13, getL l' 14 = j14, getL l' 15 = j15, getL l' 16 = j16, getL l' 17 = j17, getL l' 18 = j18, getL l' 19 = j19, getL l' 20 = j20 at hl
    subst hl
    cases kf with
    | zero => simp [spec_l1Cur_small.l1] at H
    | succ kf =>
      rw [spec_l1Cur_small.l1] at H
      refine HT_seq_k ?_
      intro K70 hK70
      refine HT_seq_k ?_
      intro K71 hK71
      refine HT_region ?_
      refine HL_cons rfl ?_
      refine o_move ?_
      try dsimp only [putL, setL, evL, getL]
      refine HL_cons rfl ?_
      refine o_bin rfl rfl rfl ?_
      try dsimp only [putL, setL, evL, getL]
      refine HL_nil ?_
      refine hK71 _ _ ?_
      rcases Bool.eq_false_or_eq_true (decide (x54 > 0)) with hb72 | hb72
      · replace H := iteT hb72 H
        refine HT_true (congrArg Value.bool hb72) ?_
        refine HT_skip ?_
        refine hK70 _ _ ?_
        refine HT_seq_k ?_
        intro K73 hK73
        refine HT_block ?_
        refine HT_region ?_
        refine HL_cons rfl ?_
        refine o_move ?_
        try dsimp only [putL, setL, evL, getL]
        refine HL_cons rfl ?_
        refine o_move ?_
        try dsimp only [putL, setL, evL, getL]
        refine HL_cons rfl ?_
        refine o_litF (K := KI) (O := OI) (ca := #[.int .i64 97, .int .i64 98, .int .i64 97, .int .i64 98, .int .i64 99, .int .i64 12354]) [[.int .i64 97], [.int .i64 98], [.int .i64 97], [.int .i64 98], [.int .i64 99], [.int .i64 12354]] [97, 98, 97, 98, 99, 12354] hH Try.underlying24 tI3 rfl (by decide) rfl rfl (by kernel_rfl) rfl ⟨rfl, Ent.own (Ent.flat rfl), rfl, Ent.own (Ent.flat rfl), rfl, Ent.own (Ent.flat rfl), rfl, Ent.own (Ent.flat rfl), rfl, Ent.own (Ent.flat rfl), rfl, Ent.own (Ent.flat rfl), trivial⟩ ?_
        intro A74 s74 hH' hG
        replace hH : Hp sb s F0 s74 [Ck.ol OI 3 A53 c53 x53, Ck.ov bp0 [.slice A0_0p p0_0.length c0_0p, .int .i64 x55, .int .u64 x56] 113, Ck.ol OI 3 A74 6 [97, 98, 97, 98, 99, 12354]] := hH'
        clear hH' hG
        try dsimp only [putL, setL, evL, getL]
        replace H := headE H
        obtain ⟨u75, hu75, H⟩ := H
        obtain ⟨F1, sx, hx, hC, hA, hB⟩ := hH.takeT [1] (by decide)
        dsimp only [addC, setC, rmC, selC, getC] at hA
        refine HL_cons rfl ?_
        refine o_call (args := #[.pointer (some ⟨bp0, 0, none⟩), .slice A74 [97, 98, 97, 98, 99, 12354].length 6]) Try.func104 rfl rfl rfl (spec_l1Cur_among.ok sx s74 F1 bp0 A0_0p c0_0p p0_0 x55 x56 A74 6 [97, 98, 97, 98, 99, 12354] (HRp0_0.mono hx.mono) (Ck.rdT hx (hC 2 (by decide)) rfl) hA _ hu75) ?_
        rintro _ s75 ⟨rfl, hD⟩
        replace hH := hB _ _ _ inferInstance hD
        clear hD hA hB hx hC
        dsimp only [addC, setC, rmC, selC, getC] at hH
        try dsimp only [putL, setL, evL, getL]
        refine HL_cons rfl ?_
        refine o_litF (K := KI) (O := OI) (ca := #[.int .i64 u75.1]) [[.int .i64 u75.1]] [u75.1] hH Try.underlying24 tI3 rfl (by decide) rfl rfl (by kernel_rfl) rfl ⟨rfl, Ent.own (Ent.flat rfl), trivial⟩ ?_
        intro A76 s76 hH' hG
        replace hH : Hp sb s F0 s76 [Ck.ol OI 3 A53 c53 x53, Ck.emp, Ck.ol OI 3 A74 6 [97, 98, 97, 98, 99, 12354], Ck.ov bp0 [.slice A0_0p p0_0.length c0_0p, .int .i64 u75.2.1, .int .u64 u75.2.2] 113, Ck.ol OI 3 A76 1 [u75.1]] := hH'
        clear hH' hG
        try dsimp only [putL, setL, evL, getL]
        replace H := headE H
        obtain ⟨x77, hx77, H⟩ := H
        refine HL_cons rfl ?_
        refine o_appF (K := KI) (n := 17592186044416) (A := A53) (c := c53) (xs := x53) (ys := [u75.1]) (B := A76) (c2 := 1) hH 0 rfl rfl rfl rfl Try.underlying24 tI3 rfl (by decide) (by decide) (by decide) (Src.flat (hH.rd 4 rfl)) hx77 ?_
        intro A77 c77 s77 hH'
        replace hH : Hp sb s F0 s77 [Ck.ol OI 3 A77 c77 x77, Ck.emp, Ck.ol OI 3 A74 6 [97, 98, 97, 98, 99, 12354], Ck.ov bp0 [.slice A0_0p p0_0.length c0_0p, .int .i64 u75.2.1, .int .u64 u75.2.2] 113, Ck.ol OI 3 A76 1 [u75.1]] := hH'
        clear hH'
        try dsimp only [putL, setL, evL, getL]
        refine HL_cons rfl ?_
        refine o_assign ?_
        try dsimp only [putL, setL, evL, getL]
        refine HL_nil ?_
        refine hK73 _ _ ?_
        refine HT_region ?_
        refine HL_cons rfl ?_
        refine o_move ?_
        try dsimp only [putL, setL, evL, getL]
        refine HL_cons rfl ?_
        refine o_bin rfl rfl rfl ?_
        try dsimp only [putL, setL, evL, getL]
        refine HL_cons rfl ?_
        refine o_assign ?_
        try dsimp only [putL, setL, evL, getL]
        refine HL_nil ?_
        exact hK69 _ _ ⟨kf, Nat.lt_succ_self kf, x77, A77, c77, IntKind.i64.wrap (x54 - 1), u75.2.1, u75.2.2, H, rfl, hH.sel [0, 3] (by decide)⟩
      · replace H := iteF hb72 H
        refine HT_false (congrArg Value.bool hb72) ?_
        refine HT_exit ?_
        exact hK6 _ _ ⟨x53, A53, c53, x55, x56, H, rfl, hH⟩
  · rintro l' s78 ⟨x41, A41, c41, x42, x43, H, hl, hH⟩
    generalize getL l' 6 = j6, getL l' 11 = j11, getL l' 12 = j12, getL l' 13 = j13, getL l' 14 = j14, getL l' 15 = j15, getL l' 16 = j16, getL l' 17 = j17, getL l' 18 = j18, getL l' 19 = j19, getL l' 20 = j20 at hl
    subst hl
    replace H := hG6 _ H
    try dsimp only at H
    refine hK3 _ _ ?_
    refine HT_seq_k ?_
    intro K79 hK79
    refine HT_region ?_
    refine HL_cons rfl ?_
    refine o_move ?_
    try dsimp only [putL, setL, evL, getL]
    refine HL_cons rfl ?_
    refine o_assign ?_
    try dsimp only [putL, setL, evL, getL]
    refine HL_nil ?_
    refine hK79 _ _ ?_
    refine HT_ret ?_
    exact hQr _ _ [.slice A41 x41.length c41] ⟨rfl, trivial⟩ (retH (fun r => spec_l1Cur_small.post sb s F0 bp0 A0_0p c0_0p p0_0 r _ _) (show some _ = some r from H) ⟨A41, c41, rfl, hH⟩)
def spec_l1Own.f (p0 : List (Int)) : Option (List (Int)) := (app? 17592186044416 ([] : List (Int)) p0).bind fun x4 => some x4
def spec_l1Own.post (sb s : St) (F0 : Fp) (r : (List (Int))) : Value → St → Prop := fun v s' => ∃ (A0 : Option Addr) (c0 : Nat), v = .slice A0 r.length c0 ∧ Hp sb s F0 s' [Ck.ol OI 3 A0 c0 r]
set_option maxRecDepth 100000 in
set_option maxHeartbeats 4000000 in
theorem spec_l1Own.ok (sb s : St) (F0 : Fp) (A0p : Option Addr) (c0p : Nat) (p0 : List (Int)) (HRp0 : Rd KI sb A0p c0p p0) (hH : Hp sb s F0 s []) (r : (List (Int))) (H : spec_l1Own.f p0 = some r) : GCall Try.prog 144 #[.slice A0p p0.length c0p] s (spec_l1Own.post sb s F0 r) := by
  refine GCall_ofk [.tmp 2] [.slice A0p p0.length c0p, undef, undef, undef, undef, undef] Try.func144 rfl rfl rfl ?_
  intro w Q hQr hQn hQp
  replace H := topE H
  unfold spec_l1Own.f at H
  refine HT_seq_k ?_
  intro K1 hK1
  refine HT_region ?_
  refine HL_cons rfl ?_
  refine o_assign ?_
  try dsimp only [putL, setL, evL, getL]
  refine HL_nil ?_
  refine hK1 _ _ ?_
  refine HT_seq_k ?_
  intro K2 hK2
  refine HT_region ?_
  refine HL_cons rfl ?_
  refine o_lit0H (α := Int) (K := KI) (O := OI) hH Try.underlying24 tI3 ?_
  intro A3 s3 hH' hG
  replace hH : Hp sb s F0 s3 [Ck.ol OI 3 A3 0 ([] : List (Int))] := hH'
  clear hH' hG
  try dsimp only [putL, setL, evL, getL]
  refine HL_cons rfl ?_
  refine o_move ?_
  try dsimp only [putL, setL, evL, getL]
  replace H := headE H
  obtain ⟨x4, hx4, H⟩ := H
  refine HL_cons rfl ?_
  refine o_appF (K := KI) (n := 17592186044416) (A := A3) (c := 0) (xs := ([] : List (Int))) (ys := p0) (B := A0p) (c2 := c0p) hH 0 rfl rfl rfl rfl Try.underlying24 tI3 rfl (by decide) (by decide) (by decide) (Src.flat (HRp0.mono hH.bs.mono)) hx4 ?_
  intro A4 c4 s4 hH'
  replace hH : Hp sb s F0 s4 [Ck.ol OI 3 A4 c4 x4] := hH'
  clear hH'
  try dsimp only [putL, setL, evL, getL]
  refine HL_cons rfl ?_
  refine o_assign ?_
  try dsimp only [putL, setL, evL, getL]
  refine HL_nil ?_
  refine hK2 _ _ ?_
  refine HT_ret ?_
  exact hQr _ _ [.slice A4 x4.length c4] ⟨rfl, trivial⟩ (retH (fun r => spec_l1Own.post sb s F0 r _ _) (show some _ = some r from H) ⟨A4, c4, rfl, hH⟩)
def spec_l1Cur_one.f (p0_0 : List (Int)) (p0_1 : Int) (p0_2 : Int) (p1 : Int) : Option (Bool × Int × Int) := (spec_l1Cur_pick.f p0_0 p0_1 p0_2 p1).bind fun u3 => some ((u3.1 == 0), u3.2.1, u3.2.2)
def spec_l1Cur_one.post (sb s : St) (F0 : Fp) (bp0 : Nat) (A0_0p : Option Addr) (c0_0p : Nat) (p0_0 : List (Int)) (r : Bool × Int × Int) : Value → St → Prop := fun v s' => v = .bool r.1 ∧ Hp sb s F0 s' [Ck.ov bp0 [.slice A0_0p p0_0.length c0_0p, .int .i64 r.2.1, .int .u64 r.2.2] 113]
set_option maxRecDepth 100000 in
set_option maxHeartbeats 4000000 in
theorem spec_l1Cur_one.ok (sb s : St) (F0 : Fp) (bp0 : Nat) (A0_0p : Option Addr) (c0_0p : Nat) (p0_0 : List (Int)) (p0_1 : Int) (p0_2 : Int) (p1 : Int) (HRp0_0 : Rd (Kd.int .u8) sb A0_0p c0_0p p0_0) (hH : Hp sb s F0 s [Ck.ov bp0 [.slice A0_0p p0_0.length c0_0p, .int .i64 p0_1, .int .u64 p0_2] 113]) (r : Bool × Int × Int) (H : spec_l1Cur_one.f p0_0 p0_1 p0_2 p1 = some r) : GCall Try.prog 113 #[.pointer (some ⟨bp0, 0, none⟩), .int .i64 p1] s (spec_l1Cur_one.post sb s F0 bp0 A0_0p c0_0p p0_0 r) := by
  refine GCall_ofk [.tmp 4] [.pointer (some ⟨bp0, 0, none⟩), .int .i64 p1, undef, undef, undef, undef, undef, undef, undef] Try.func113 rfl rfl rfl ?_
  intro w Q hQr hQn hQp
  replace H := topE H
  unfold spec_l1Cur_one.f at H
  refine HT_seq_k ?_
  intro K1 hK1
  refine HT_region ?_
  refine HL_cons rfl ?_
  refine o_assign ?_
  try dsimp only [putL, setL, evL, getL]
  refine HL_nil ?_
  refine hK1 _ _ ?_
  refine HT_seq_k ?_
  intro K2 hK2
  refine HT_region ?_
  refine HL_cons rfl ?_
  refine o_move ?_
  try dsimp only [putL, setL, evL, getL]
  refine HL_cons rfl ?_
  refine o_move ?_
  try dsimp only [putL, setL, evL, getL]
  replace H := headE H
  obtain ⟨u3, hu3, H⟩ := H
  obtain ⟨F1, hA, hB⟩ := hH.take [0] (by decide)
  dsimp only [addC, setC, rmC, selC, getC] at hA
  refine HL_cons rfl ?_
  refine o_call (args := #[.pointer (some ⟨bp0, 0, none⟩), .int .i64 p1]) Try.func112 rfl rfl rfl (spec_l1Cur_pick.ok sb s F1 bp0 A0_0p c0_0p p0_0 p0_1 p0_2 p1 HRp0_0 hA _ hu3) ?_
  rintro _ s3 ⟨rfl, hD⟩
  replace hH := hB _ _ _ (Up.refl _ _ _) hD
  clear hD hA hB
  dsimp only [addC, setC, rmC, selC, getC] at hH
  try dsimp only [putL, setL, evL, getL]
  refine HL_cons rfl ?_
  refine o_bin rfl rfl rfl ?_
  try dsimp only [putL, setL, evL, getL]
  refine HL_cons rfl ?_
  refine o_assign ?_
  try dsimp only [putL, setL, evL, getL]
  refine HL_nil ?_
  refine hK2 _ _ ?_
  refine HT_ret ?_
  exact hQr _ _ [.bool (u3.1 == 0)] ⟨rfl, trivial⟩ (retH (fun r => spec_l1Cur_one.post sb s F0 bp0 A0_0p c0_0p p0_0 r _ _) (show some _ = some r from H) ⟨rfl, hH.sel [1] (by decide)⟩)
def spec_l1Cur_near.l1 (p0_0 : List (Int)) : Nat → (List (Int)) → Int → Int → Int → Option ((List (Int)) × Int × Int)
  | 0, _, _, _, _ => none
  | kf + 1, x500, x501, x502, x503 => if (decide (x501 > 0)) = true then ((spec_l1Cur_pick.f p0_0 x502 x503 (IntKind.i64.wrap ((x500.length : Int) + 1))).bind fun u691 => (cut? x500 u691.1 (x500.length : Int)).bind fun x693 => (spec_l1Own.f x693).bind fun u694 => ((if (decide ((u694.length : Int) > 0)) = true then ((spec_l1Cur_one.f p0_0 u691.2.1 u691.2.2 2).bind fun u718 => some (u718.1, u718.2.1, u718.2.2)) else (some (false, u691.2.1, u691.2.2))).bind fun (o : Bool × Int × Int) => match o with | (x714, x715, x716) => (if x714 = true then ((cut? u694 1 (u694.length : Int)).bind fun x721 => some (x721, x715, x716)) else (some (u694, x715, x716)))).bind fun (o : (List (Int)) × Int × Int) => match o with | (x708, x709, x710) => ((cut? x500 0 u691.1).bind fun x724 => (spec_l1Own.f x724).bind fun u725 => ((spec_l1Cur_one.f p0_0 x709 x710 2).bind fun u739 => if u739.1 = true then ((spec_l1Cur_among.f p0_0 u739.2.1 u739.2.2 [97, 98, 120]).bind fun u742 => (app? 17592186044416 u725 [u742.1]).bind fun x744 => some (x744, u742.2.1, u742.2.2)) else (some (u725, u739.2.1, u739.2.2))).bind fun (o : (List (Int)) × Int × Int) => match o with | (x735, x736, x737) => ((app? 17592186044416 x735 x708).bind fun x746 => spec_l1Cur_near.l1 p0_0 kf x746 (IntKind.i64.wrap (x501 - 1)) x736 x737))) else (some (x500, x502, x503))
def spec_l1Cur_near.f (p0_0 : List (Int)) (p0_1 : Int) (p0_2 : Int) : Option ((List (Int)) × (List (Int)) × Int × Int) := (spec_l1Cur_small.f p0_0 p0_1 p0_2 10).bind fun u3 => (spec_l1Own.f u3.1).bind fun u6 => (spec_l1Cur_pick.f p0_0 u3.2.1 u3.2.2 4).bind fun u10 => (spec_l1Cur_near.l1 p0_0 (((u10.1) - (0)).toNat + 2) u6 u10.1 u10.2.1 u10.2.2).bind fun (o : (List (Int)) × Int × Int) => match o with | (x378, x379, x380) => (((spec_l1Cur_one.f p0_0 x379 x380 30).bind fun u758 => if u758.1 = true then ((app? 17592186044416 x378 [-1]).bind fun x761 => some (x761, u758.2.1, u758.2.2)) else (some (x378, u758.2.1, u758.2.2))).bind fun (o : (List (Int)) × Int × Int) => match o with | (x754, x755, x756) => (some (u3.1, x754, x755, x756)))
def spec_l1Cur_near.post (sb s : St) (F0 : Fp) (bp0 : Nat) (A0_0p : Option Addr) (c0_0p : Nat) (p0_0 : List (Int)) (r : (List (Int)) × (List (Int)) × Int × Int) : Value → St → Prop := fun v s' => ∃ (A0 : Option Addr) (c0 : Nat) (A1 : Option Addr) (c1 : Nat), v = .tuple #[.slice A0 r.1.length c0, .slice A1 r.2.1.length c1] ∧ Hp sb s F0 s' [Ck.ol OI 3 A0 c0 r.1, Ck.ol OI 3 A1 c1 r.2.1, Ck.ov bp0 [.slice A0_0p p0_0.length c0_0p, .int .i64 r.2.2.1, .int .u64 r.2.2.2] 113]
set_option maxRecDepth 100000 in
set_option maxHeartbeats 4000000 in
theorem spec_l1Cur_near.ok (sb s : St) (F0 : Fp) (bp0 : Nat) (A0_0p : Option Addr) (c0_0p : Nat) (p0_0 : List (Int)) (p0_1 : Int) (p0_2 : Int) (HRp0_0 : Rd (Kd.int .u8) sb A0_0p c0_0p p0_0) (hH : Hp sb s F0 s [Ck.ov bp0 [.slice A0_0p p0_0.length c0_0p, .int .i64 p0_1, .int .u64 p0_2] 113]) (r : (List (Int)) × (List (Int)) × Int × Int) (H : spec_l1Cur_near.f p0_0 p0_1 p0_2 = some r) : GCall Try.prog 98 #[.pointer (some ⟨bp0, 0, none⟩)] s (spec_l1Cur_near.post sb s F0 bp0 A0_0p c0_0p p0_0 r) := by
  refine GCall_ofk [.tmp 2, .tmp 3] [.pointer (some ⟨bp0, 0, none⟩), undef, undef, undef, undef, undef, undef, undef, undef, undef, undef, undef, undef, undef, undef, undef, undef, undef, undef, undef, undef, undef, undef, undef, undef, undef, undef, undef, undef, undef, undef, undef, undef, undef, undef, undef, undef, undef, undef, undef, undef, undef, undef, undef, undef, undef, undef, undef, undef, undef, undef, undef, undef, undef, undef, undef, undef, undef, undef] Try.func98 rfl rfl rfl ?_
  intro w Q hQr hQn hQp
  replace H := topE H
  unfold spec_l1Cur_near.f at H
  refine HT_seq_k ?_
  intro K1 hK1
  refine HT_region ?_
  refine HL_cons rfl ?_
  refine o_assign ?_
  try dsimp only [putL, setL, evL, getL]
  refine HL_cons rfl ?_
  refine o_assign ?_
  try dsimp only [putL, setL, evL, getL]
  refine HL_nil ?_
  refine hK1 _ _ ?_
  refine HT_seq_k ?_
  intro K2 hK2
  refine HT_region ?_
  refine HL_cons rfl ?_
  refine o_move ?_
  try dsimp only [putL, setL, evL, getL]
  replace H := headE H
  obtain ⟨u3, hu3, H⟩ := H
  obtain ⟨F1, hA, hB⟩ := hH.take [0] (by decide)
  dsimp only [addC, setC, rmC, selC, getC] at hA
  refine HL_cons rfl ?_
  refine o_call (args := #[.pointer (some ⟨bp0, 0, none⟩), .int .i64 10]) Try.func103 rfl rfl rfl (spec_l1Cur_small.ok sb s F1 bp0 A0_0p c0_0p p0_0 p0_1 p0_2 10 HRp0_0 hA _ hu3) ?_
  rintro _ s3 ⟨A4, c4, rfl, hD⟩
  replace hH := hB _ _ _ (Up.refl _ _ _) hD
  clear hD hA hB
  dsimp only [addC, setC, rmC, selC, getC] at hH
  try dsimp only [putL, setL, evL, getL]
  refine HL_cons rfl ?_
  refine o_assign ?_
  try dsimp only [putL, setL, evL, getL]
  refine HL_nil ?_
  refine hK2 _ _ ?_
  refine HT_seq_k ?_
  intro K5 hK5
  refine HT_region ?_
  refine HL_cons rfl ?_
  refine o_move ?_
  try dsimp only [putL, setL, evL, getL]
  replace H := headE H
  obtain ⟨u6, hu6, H⟩ := H
  refine HL_cons rfl ?_
  refine o_call (args := #[.slice A4 u3.1.length c4]) Try.func144 rfl rfl rfl (spec_l1Own.ok s3 s3 no A4 c4 u3.1 (hH.rd 1 rfl) (Hp.own (Bs.refl s3)) _ hu6) ?_
  rintro _ s6 ⟨A7, c7, rfl, hD⟩
  replace hH := hH.back0T hD
  clear hD
  dsimp only [addC, setC, rmC, selC, getC] at hH
  try dsimp only [putL, setL, evL, getL]
  refine HL_cons rfl ?_
  refine o_assign ?_
  try dsimp only [putL, setL, evL, getL]
  refine HL_nil ?_
  refine hK5 _ _ ?_
  refine HT_seq_k ?_
  intro K8 hK8
  refine HT_seq_k ?_
  intro K9 hK9
  refine HT_region ?_
  refine HL_cons rfl ?_
  refine o_move ?_
  try dsimp only [putL, setL, evL, getL]
  replace H := headE H
  obtain ⟨u10, hu10, H⟩ := H
  obtain ⟨F1, hA, hB⟩ := hH.take [2] (by decide)
  dsimp only [addC, setC, rmC, selC, getC] at hA
  refine HL_cons rfl ?_
  refine o_call (args := #[.pointer (some ⟨bp0, 0, none⟩), .int .i64 4]) Try.func112 rfl rfl rfl (spec_l1Cur_pick.ok sb s6 F1 bp0 A0_0p c0_0p p0_0 u3.2.1 u3.2.2 4 HRp0_0 hA _ hu10) ?_
  rintro _ s10 ⟨rfl, hD⟩
  replace hH := hB _ _ _ (Up.refl _ _ _) hD
  clear hD hA hB
  dsimp only [addC, setC, rmC, selC, getC] at hH
  try dsimp only [putL, setL, evL, getL]
  refine HL_cons rfl ?_
  refine o_assign ?_
  try dsimp only [putL, setL, evL, getL]
  refine HL_nil ?_
  refine hK9 _ _ ?_
  refine joinH H fun G11 hG11 H => ?_
  refine HT_toK (fun l' s' => ∃ (x378 : List (Int)) (A378 : Option Addr) (c378 : Nat) (x379 : Int) (x380 : Int), G11 (x378, x379, x380) = some r ∧ l' = [.pointer (some ⟨bp0, 0, none⟩), undef, .slice none 0 0, .slice none 0 0, .slice A4 u3.1.length c4, .slice A378 x378.length c378, getL l' 6, getL l' 7, getL l' 8, .pointer (some ⟨bp0, 0, none⟩), .slice A4 u3.1.length c4, .slice A4 u3.1.length c4, .slice A7 u6.length c7, .pointer (some ⟨bp0, 0, none⟩), .int .i64 u10.1, getL l' 15, getL l' 16, getL l' 17, getL l' 18, getL l' 19, getL l' 20, getL l' 21, getL l' 22, getL l' 23, getL l' 24, getL l' 25, getL l' 26, getL l' 27, getL l' 28, getL l' 29, getL l' 30, getL l' 31, getL l' 32, getL l' 33, getL l' 34, getL l' 35, getL l' 36, getL l' 37, getL l' 38, getL l' 39, getL l' 40, getL l' 41, getL l' 42, getL l' 43, getL l' 44, getL l' 45, getL l' 46, getL l' 47, getL l' 48, getL l' 49, getL l' 50, getL l' 51, undef, undef, undef, undef, undef, undef, undef] ∧ Hp sb s F0 s' [Ck.ol OI 3 A378 c378 x378, Ck.ol OI 3 A4 c4 u3.1, Ck.ov bp0 [.slice A0_0p p0_0.length c0_0p, .int .i64 x379, .int .u64 x380] 113]) ?_ ?_
  · intro K11 hK11
    refine HT_block ?_
    refine HT_loopK (fun kf l' s' => ∃ (x500 : List (Int)) (A500 : Option Addr) (c500 : Nat) (x501 : Int) (x502 : Int) (x503 : Int), (spec_l1Cur_near.l1 p0_0 kf x500 x501 x502 x503).bind G11 = some r ∧ l' = [.pointer (some ⟨bp0, 0, none⟩), undef, .slice none 0 0, .slice none 0 0, .slice A4 u3.1.length c4, .slice A500 x500.length c500, .int .i64 x501, getL l' 7, getL l' 8, .pointer (some ⟨bp0, 0, none⟩), .slice A4 u3.1.length c4, .slice A4 u3.1.length c4, .slice A7 u6.length c7, .pointer (some ⟨bp0, 0, none⟩), .int .i64 u10.1, getL l' 15, getL l' 16, getL l' 17, getL l' 18, getL l' 19, getL l' 20, getL l' 21, getL l' 22, getL l' 23, getL l' 24, getL l' 25, getL l' 26, getL l' 27, getL l' 28, getL l' 29, getL l' 30, getL l' 31, getL l' 32, getL l' 33, getL l' 34, getL l' 35, getL l' 36, getL l' 37, getL l' 38, getL l' 39, getL l' 40, getL l' 41, getL l' 42, getL l' 43, getL l' 44, getL l' 45, getL l' 46, getL l' 47, getL l' 48, getL l' 49, getL l' 50, getL l' 51, undef, undef, undef, undef, undef, undef, undef] ∧ Hp sb s F0 s' [Ck.ol OI 3 A500 c500 x500, Ck.ol OI 3 A4 c4 u3.1, Ck.ov bp0 [.slice A0_0p p0_0.length c0_0p, .int .i64 x502, .int .u64 x503] 113]) (((u10.1) - (0)).toNat + 2) ⟨u6, A7, c7, u10.1, u10.2.1, u10.2.2, H, rfl, hH.sel [3, 1, 4] (by decide)⟩ ?_
    rintro kf l' s627 ⟨x500, A500, c500, x501, x502, x503, H, hl, hH⟩ K627 hK627
    generalize getL l' 7 = j7, getL l' 8 = j8, getL l' 15 = j15, getL l' 16 = j16, getL l' 17 = j17, getL l' 18 = j18, getL l' 19 = j19, getL l' 20 = j20, getL l' 21 = j21, getL l' 22 = j22, getL l' 23 = j23, getL l' 24 = j24, getL l' 25 = j25, getL l' 26 = j26, getL l' 27 = j27, getL l' 28 = j28, getL l' 29 = j29, getL l' 30 = j30, getL l' 31 = j31, getL l' 32 = j32, getL l' 33 = j33, getL l' 34 = j34, getL l' 35 = j35, getL l' 36 = j36, getL l' 37 = j37, getL l' 38 = j38, getL l' 39 = j39, getL l' 40 = j40, getL l' 41 = j41, getL l' 42 = j42, getL l' 43 = j43, getL l' 44 = j44, getL l' 45 = j45, getL l' 46 = j46, getL l' 47 = j47, getL l' 48 = j48, getL l' 49 = j49, getL l' 50 = j50, getL l' 51 = j51 at hl
    subst hl
    cases kf with
    | zero => simp [spec_l1Cur_near.l1] at H
    | succ kf =>
      rw [spec_l1Cur_near.l1] at H
      refine HT_seq_k ?_
      intro K628 hK628
      refine HT_seq_k ?_
      intro K629 hK629
      refine HT_region ?_
      refine HL_cons rfl ?_
      refine o_move ?_
      try dsimp only [putL, setL, evL, getL]
      refine HL_cons rfl ?_
      refine o_bin rfl rfl rfl ?_
      try dsimp only [putL, setL, evL, getL]
      refine HL_nil ?_
      refine hK629 _ _ ?_
      rcases Bool.eq_false_or_eq_true (decide (x501 > 0)) with hb630 | hb630
      · replace H := iteT hb630 H
        refine HT_true (congrArg Value.bool hb630) ?_
        refine HT_skip ?_
        refine hK628 _ _ ?_
        refine HT_seq_k ?_
        intro K689 hK689
        refine HT_block ?_
        refine HT_seq_k ?_
        intro K690 hK690
        refine HT_region ?_
        refine HL_cons rfl ?_
        refine o_move ?_
        try dsimp only [putL, setL, evL, getL]
        refine HL_cons rfl ?_
        refine o_move ?_
        try dsimp only [putL, setL, evL, getL]
        refine HL_cons rfl ?_
        refine o_len rfl Try.underlying24 ?_
        try dsimp only [putL, setL, evL, getL]
        refine HL_cons rfl ?_
        refine o_bin rfl rfl rfl ?_
        try dsimp only [putL, setL, evL, getL]
        replace H := headE H
        obtain ⟨u691, hu691, H⟩ := H
        obtain ⟨F1, hA, hB⟩ := hH.take [2] (by decide)
        dsimp only [addC, setC, rmC, selC, getC] at hA
        refine HL_cons rfl ?_
        refine o_call (args := #[.pointer (some ⟨bp0, 0, none⟩), .int .i64 (IntKind.i64.wrap ((x500.length : Int) + 1))]) Try.func112 rfl rfl rfl (spec_l1Cur_pick.ok sb s627 F1 bp0 A0_0p c0_0p p0_0 x502 x503 (IntKind.i64.wrap ((x500.length : Int) + 1)) HRp0_0 hA _ hu691) ?_
        rintro _ s691 ⟨rfl, hD⟩
        replace hH := hB _ _ _ (Up.refl _ _ _) hD
        clear hD hA hB
        dsimp only [addC, setC, rmC, selC, getC] at hH
        try dsimp only [putL, setL, evL, getL]
        refine HL_cons rfl ?_
        refine o_assign ?_
        try dsimp only [putL, setL, evL, getL]
        refine HL_nil ?_
        refine hK690 _ _ ?_
        refine HT_seq_k ?_
        intro K692 hK692
        refine HT_region ?_
        refine HL_cons rfl ?_
        refine o_move ?_
        try dsimp only [putL, setL, evL, getL]
        refine HL_cons rfl ?_
        refine o_move ?_
        try dsimp only [putL, setL, evL, getL]
        replace H := headE H
        obtain ⟨x693, hx693, H⟩ := H
        refine HL_cons rfl ?_
        refine o_cutA (xs := x500) (kl := .i64) (kh := .i64) (L := u691.1) (H := (x500.length : Int)) rfl rfl rfl Try.underlying24 tI3 (hH.rd 0 rfl).1 hx693 ?_
        have D693 := @Der.cut _ _ OI 3 A500 c500 _ _ _ _ hx693
        try dsimp only [putL, setL, evL, getL]
        replace H := headE H
        obtain ⟨u694, hu694, H⟩ := H
        refine HL_cons rfl ?_
        refine o_call (args := #[.slice (cutA A500 c500 (Int.toNat u691.1) (Kd.sz KI)) x693.length (c500 - Int.toNat u691.1)]) Try.func144 rfl rfl rfl (spec_l1Own.ok s691 s691 no (cutA A500 c500 (Int.toNat u691.1) (Kd.sz KI)) (c500 - Int.toNat u691.1) x693 (D693 _ _ hH.bs (hH.ckP 0)) (Hp.own (Bs.refl s691)) _ hu694) ?_
        rintro _ s694 ⟨A695, c695, rfl, hD⟩
        replace hH := hH.back0T hD
        clear hD
        dsimp only [addC, setC, rmC, selC, getC] at hH
        try dsimp only [putL, setL, evL, getL]
        refine HL_cons rfl ?_
        refine o_assign ?_
        try dsimp only [putL, setL, evL, getL]
        refine HL_nil ?_
        refine hK692 _ _ ?_
        refine joinH H fun G696 hG696 H => ?_
        refine HT_joinK (fun l' s' => ∃ (x708 : List (Int)) (A708 : Option Addr) (c708 : Nat) (x709 : Int) (x710 : Int), G696 (x708, x709, x710) = some r ∧ l' = [.pointer (some ⟨bp0, 0, none⟩), undef, .slice none 0 0, .slice none 0 0, .slice A4 u3.1.length c4, .slice A500 x500.length c500, .int .i64 x501, .int .i64 u691.1, .slice A708 x708.length c708, .pointer (some ⟨bp0, 0, none⟩), .slice A4 u3.1.length c4, .slice A4 u3.1.length c4, .slice A7 u6.length c7, .pointer (some ⟨bp0, 0, none⟩), .int .i64 u10.1, .int .i64 x501, .bool (decide (x501 > 0)), j17, j18, .pointer (some ⟨bp0, 0, none⟩), .slice A500 x500.length c500, .int .i64 (x500.length : Int), .int .i64 (IntKind.i64.wrap ((x500.length : Int) + 1)), .int .i64 u691.1, .slice A500 x500.length c500, .int .i64 u691.1, .slice (cutA A500 c500 (Int.toNat u691.1) (Kd.sz KI)) x693.length (c500 - Int.toNat u691.1), .slice A695 u694.length c695, getL l' 28, getL l' 29, getL l' 30, getL l' 31, getL l' 32, getL l' 33, getL l' 34, getL l' 35, getL l' 36, j37, j38, j39, j40, j41, j42, j43, j44, j45, j46, j47, j48, j49, j50, j51, undef, undef, undef, undef, undef, undef, undef] ∧ Hp sb s F0 s' [Ck.ol OI 3 A708 c708 x708, Ck.ol OI 3 A4 c4 u3.1, Ck.ol OI 3 A500 c500 x500, Ck.ov bp0 [.slice A0_0p p0_0.length c0_0p, .int .i64 x709, .int .u64 x710] 113]) ?_ ?_
        · intro K696 hK696
          refine joinH H fun G711 hG711 H => ?_
          refine HT_joinK (fun l' s' => ∃ (x714 : Bool) (x715 : Int) (x716 : Int), G711 (x714, x715, x716) = some r ∧ l' = [.pointer (some ⟨bp0, 0, none⟩), undef, .slice none 0 0, .slice none 0 0, .slice A4 u3.1.length c4, .slice A500 x500.length c500, .int .i64 x501, .int .i64 u691.1, .slice A695 u694.length c695, .pointer (some ⟨bp0, 0, none⟩), .slice A4 u3.1.length c4, .slice A4 u3.1.length c4, .slice A7 u6.length c7, .pointer (some ⟨bp0, 0, none⟩), .int .i64 u10.1, .int .i64 x501, .bool (decide (x501 > 0)), j17, j18, .pointer (some ⟨bp0, 0, none⟩), .slice A500 x500.length c500, .int .i64 (x500.length : Int), .int .i64 (IntKind.i64.wrap ((x500.length : Int) + 1)), .int .i64 u691.1, .slice A500 x500.length c500, .int .i64 u691.1, .slice (cutA A500 c500 (Int.toNat u691.1) (Kd.sz KI)) x693.length (c500 - Int.toNat u691.1), .slice A695 u694.length c695, getL l' 28, getL l' 29, getL l' 30, getL l' 31, getL l' 32, getL l' 33, .bool x714, j35, j36, j37, j38, j39, j40, j41, j42, j43, j44, j45, j46, j47, j48, j49, j50, j51, undef, undef, undef, undef, undef, undef, undef] ∧ Hp sb s F0 s' [Ck.ol OI 3 A4 c4 u3.1, Ck.ol OI 3 A500 c500 x500, Ck.ol OI 3 A695 c695 u694, Ck.ov bp0 [.slice A0_0p p0_0.length c0_0p, .int .i64 x715, .int .u64 x716] 113]) ?_ ?_
          · intro K711 hK711
            refine HT_region ?_
            refine HL_cons rfl ?_
            refine o_move ?_
            try dsimp only [putL, setL, evL, getL]
            refine HL_cons rfl ?_
            refine o_len rfl Try.underlying24 ?_
            try dsimp only [putL, setL, evL, getL]
            refine HL_cons rfl ?_
            refine o_bin rfl rfl rfl ?_
            try dsimp only [putL, setL, evL, getL]
            refine HL_cons rfl ?_
            refine o_move ?_
            try dsimp only [putL, setL, evL, getL]
            rcases Bool.eq_false_or_eq_true (decide ((u694.length : Int) > 0)) with hb717 | hb717
            · replace H := iteT hb717 H
              refine HL_want ?_ ?_
              · exact wantT (j := 3) (b := true) (t := 31) (c := decide ((u694.length : Int) > 0)) rfl rfl rfl rfl hb717
              refine o_move ?_
              try dsimp only [putL, setL, evL, getL]
              replace H := headE H
              obtain ⟨u718, hu718, H⟩ := H
              obtain ⟨F1, hA, hB⟩ := hH.take [3] (by decide)
              dsimp only [addC, setC, rmC, selC, getC] at hA
              refine HL_want ?_ ?_
              · exact wantT (j := 3) (b := true) (t := 31) (c := decide ((u694.length : Int) > 0)) rfl rfl rfl rfl hb717
              refine o_call (args := #[.pointer (some ⟨bp0, 0, none⟩), .int .i64 2]) Try.func113 rfl rfl rfl (spec_l1Cur_one.ok sb s694 F1 bp0 A0_0p c0_0p p0_0 u691.2.1 u691.2.2 2 HRp0_0 hA _ hu718) ?_
              rintro _ s718 ⟨rfl, hD⟩
              replace hH := hB _ _ _ (Up.refl _ _ _) hD
              clear hD hA hB
              dsimp only [addC, setC, rmC, selC, getC] at hH
              try dsimp only [putL, setL, evL, getL]
              refine HL_cons rfl ?_
              refine o_pickT rfl hb717 ?_
              try dsimp only [putL, setL, evL, getL]
              refine HL_nil ?_
              exact hK711 _ _ ⟨u718.1, u718.2.1, u718.2.2, H, rfl, hH.sel [1, 0, 4, 5] (by decide)⟩
            · replace H := iteF hb717 H
              refine HL_skip ?_ ?_
              · exact wantF (j := 3) (b := true) (t := 31) (c := decide ((u694.length : Int) > 0)) rfl rfl rfl rfl hb717
              try dsimp only [putL, setL, evL, getL]
              refine HL_skip ?_ ?_
              · exact wantF (j := 3) (b := true) (t := 31) (c := decide ((u694.length : Int) > 0)) rfl rfl rfl rfl hb717
              try dsimp only [putL, setL, evL, getL]
              refine HL_cons rfl ?_
              refine o_pickF rfl hb717 ?_
              try dsimp only [putL, setL, evL, getL]
              refine HL_nil ?_
              exact hK711 _ _ ⟨false, u691.2.1, u691.2.2, H, rfl, hH.sel [1, 0, 4, 3] (by decide)⟩
          · rintro l' s719 ⟨x714, x715, x716, H, hl, hH⟩
            generalize getL l' 28 = j28, getL l' 29 = j29, getL l' 30 = j30, getL l' 31 = j31, getL l' 32 = j32, getL l' 33 = j33 at hl
            subst hl
            replace H := hG711 _ H
            try dsimp only at H
            rcases Bool.eq_false_or_eq_true x714 with hb720 | hb720
            · replace H := iteT hb720 H
              refine HT_true (congrArg Value.bool hb720) ?_
              refine HT_region ?_
              refine HL_cons rfl ?_
              refine o_move ?_
              try dsimp only [putL, setL, evL, getL]
              replace H := headE H
              obtain ⟨x721, hx721, H⟩ := H
              refine HL_cons rfl ?_
              refine o_cutA (xs := u694) (kl := .i64) (kh := .i64) (L := 1) (H := (u694.length : Int)) rfl rfl rfl Try.underlying24 tI3 (hH.rd 2 rfl).1 hx721 ?_
              have D721 := @Der.cut _ _ OI 3 A695 c695 _ _ _ _ hx721
              try dsimp only [putL, setL, evL, getL]
              refine HL_cons rfl ?_
              refine o_assign ?_
              try dsimp only [putL, setL, evL, getL]
              refine HL_nil ?_
              exact hK696 _ _ ⟨x721, (cutA A695 c695 (Int.toNat 1) (Kd.sz KI)), c695 - Int.toNat 1, x715, x716, H, rfl, (hH.cut 2 rfl rfl hx721).sel [2, 0, 1, 3] (by decide)⟩
            · replace H := iteF hb720 H
              refine HT_false (congrArg Value.bool hb720) ?_
              refine HT_skip ?_
              exact hK696 _ _ ⟨u694, A695, c695, x715, x716, H, rfl, hH.sel [2, 0, 1, 3] (by decide)⟩
        · rintro l' s722 ⟨x708, A708, c708, x709, x710, H, hl, hH⟩
          generalize getL l' 28 = j28, getL l' 29 = j29, getL l' 30 = j30, getL l' 31 = j31, getL l' 32 = j32, getL l' 33 = j33, getL l' 34 = j34, getL l' 35 = j35, getL l' 36 = j36 at hl
          subst hl
          replace H := hG696 _ H
          try dsimp only at H
          refine HT_seq_k ?_
          intro K723 hK723
          refine HT_region ?_
          refine HL_cons rfl ?_
          refine o_move ?_
          try dsimp only [putL, setL, evL, getL]
          refine HL_cons rfl ?_
          refine o_move ?_
          try dsimp only [putL, setL, evL, getL]
          replace H := headE H
          obtain ⟨x724, hx724, H⟩ := H
          refine HL_cons rfl ?_
          refine o_cutA (xs := x500) (kl := .i64) (kh := .i64) (L := 0) (H := u691.1) rfl rfl rfl Try.underlying24 tI3 (hH.rd 2 rfl).1 hx724 ?_
          have D724 := @Der.cut _ _ OI 3 A500 c500 _ _ _ _ hx724
          try dsimp only [putL, setL, evL, getL]
          replace H := headE H
          obtain ⟨u725, hu725, H⟩ := H
          refine HL_cons rfl ?_
          refine o_call (args := #[.slice (cutA A500 c500 (Int.toNat 0) (Kd.sz KI)) x724.length (c500 - Int.toNat 0)]) Try.func144 rfl rfl rfl (spec_l1Own.ok s722 s722 no (cutA A500 c500 (Int.toNat 0) (Kd.sz KI)) (c500 - Int.toNat 0) x724 (D724 _ _ hH.bs (hH.ckP 2)) (Hp.own (Bs.refl s722)) _ hu725) ?_
          rintro _ s725 ⟨A726, c726, rfl, hD⟩
          replace hH := hH.back0T hD
          clear hD
          dsimp only [addC, setC, rmC, selC, getC] at hH
          try dsimp only [putL, setL, evL, getL]
          refine HL_cons rfl ?_
          refine o_assign ?_
          try dsimp only [putL, setL, evL, getL]
          refine HL_nil ?_
          refine hK723 _ _ ?_
          refine joinH H fun G727 hG727 H => ?_
          refine HT_joinK (fun l' s' => ∃ (x735 : List (Int)) (A735 : Option Addr) (c735 : Nat) (x736 : Int) (x737 : Int), G727 (x735, x736, x737) = some r ∧ l' = [.pointer (some ⟨bp0, 0, none⟩), undef, .slice none 0 0, .slice none 0 0, .slice A4 u3.1.length c4, .slice A735 x735.length c735, .int .i64 x501, .int .i64 u691.1, .slice A708 x708.length c708, .pointer (some ⟨bp0, 0, none⟩), .slice A4 u3.1.length c4, .slice A4 u3.1.length c4, .slice A7 u6.length c7, .pointer (some ⟨bp0, 0, none⟩), .int .i64 u10.1, .int .i64 x501, .bool (decide (x501 > 0)), j17, j18, .pointer (some ⟨bp0, 0, none⟩), .slice A500 x500.length c500, .int .i64 (x500.length : Int), .int .i64 (IntKind.i64.wrap ((x500.length : Int) + 1)), .int .i64 u691.1, .slice A500 x500.length c500, .int .i64 u691.1, .slice (cutA A500 c500 (Int.toNat u691.1) (Kd.sz KI)) x693.length (c500 - Int.toNat u691.1), .slice A695 u694.length c695, j28, j29, j30, j31, j32, j33, j34, j35, j36, .slice A500 x500.length c500, .int .i64 u691.1, .slice (cutA A500 c500 (Int.toNat 0) (Kd.sz KI)) x724.length (c500 - Int.toNat 0), .slice A726 u725.length c726, getL l' 41, getL l' 42, getL l' 43, getL l' 44, getL l' 45, getL l' 46, getL l' 47, getL l' 48, j49, j50, j51, undef, undef, undef, undef, undef, undef, undef] ∧ Hp sb s F0 s' [Ck.ol OI 3 A735 c735 x735, Ck.ol OI 3 A4 c4 u3.1, Ck.ol OI 3 A708 c708 x708, Ck.ov bp0 [.slice A0_0p p0_0.length c0_0p, .int .i64 x736, .int .u64 x737] 113]) ?_ ?_
          · intro K727 hK727
            refine HT_seq_k ?_
            intro K738 hK738
            refine HT_region ?_
            refine HL_cons rfl ?_
            refine o_move ?_
            try dsimp only [putL, setL, evL, getL]
            replace H := headE H
            obtain ⟨u739, hu739, H⟩ := H
            obtain ⟨F1, hA, hB⟩ := hH.take [3] (by decide)
            dsimp only [addC, setC, rmC, selC, getC] at hA
            refine HL_cons rfl ?_
            refine o_call (args := #[.pointer (some ⟨bp0, 0, none⟩), .int .i64 2]) Try.func113 rfl rfl rfl (spec_l1Cur_one.ok sb s725 F1 bp0 A0_0p c0_0p p0_0 x709 x710 2 HRp0_0 hA _ hu739) ?_
            rintro _ s739 ⟨rfl, hD⟩
            replace hH := hB _ _ _ (Up.refl _ _ _) hD
            clear hD hA hB
            dsimp only [addC, setC, rmC, selC, getC] at hH
            try dsimp only [putL, setL, evL, getL]
            refine HL_nil ?_
            refine hK738 _ _ ?_
            rcases Bool.eq_false_or_eq_true u739.1 with hb740 | hb740
            · replace H := iteT hb740 H
              refine HT_true (congrArg Value.bool hb740) ?_
              refine HT_region ?_
              refine HL_cons rfl ?_
              refine o_move ?_
              try dsimp only [putL, setL, evL, getL]
              refine HL_cons rfl ?_
              refine o_move ?_
              try dsimp only [putL, setL, evL, getL]
              refine HL_cons rfl ?_
              refine o_litF (K := KI) (O := OI) (ca := #[.int .i64 97, .int .i64 98, .int .i64 120]) [[.int .i64 97], [.int .i64 98], [.int .i64 120]] [97, 98, 120] hH Try.underlying24 tI3 rfl (by decide) rfl rfl (by kernel_rfl) rfl ⟨rfl, Ent.own (Ent.flat rfl), rfl, Ent.own (Ent.flat rfl), rfl, Ent.own (Ent.flat rfl), trivial⟩ ?_
              intro A741 s741 hH' hG
              replace hH : Hp sb s F0 s741 [Ck.ol OI 3 A708 c708 x708, Ck.ol OI 3 A4 c4 u3.1, Ck.ol OI 3 A500 c500 x500, Ck.emp, Ck.ol OI 3 A726 c726 u725, Ck.ov bp0 [.slice A0_0p p0_0.length c0_0p, .int .i64 u739.2.1, .int .u64 u739.2.2] 113, Ck.ol OI 3 A741 3 [97, 98, 120]] := hH'
              clear hH' hG
              try dsimp only [putL, setL, evL, getL]
              replace H := headE H
              obtain ⟨u742, hu742, H⟩ := H
              obtain ⟨F1, sx, hx, hC, hA, hB⟩ := hH.takeT [5] (by decide)
              dsimp only [addC, setC, rmC, selC, getC] at hA
              refine HL_cons rfl ?_
              refine o_call (args := #[.pointer (some ⟨bp0, 0, none⟩), .slice A741 [97, 98, 120].length 3]) Try.func104 rfl rfl rfl (spec_l1Cur_among.ok sx s741 F1 bp0 A0_0p c0_0p p0_0 u739.2.1 u739.2.2 A741 3 [97, 98, 120] (HRp0_0.mono hx.mono) (Ck.rdT hx (hC 6 (by decide)) rfl) hA _ hu742) ?_
              rintro _ s742 ⟨rfl, hD⟩
              replace hH := hB _ _ _ inferInstance hD
              clear hD hA hB hx hC
              dsimp only [addC, setC, rmC, selC, getC] at hH
              try dsimp only [putL, setL, evL, getL]
              refine HL_cons rfl ?_
              refine o_litF (K := KI) (O := OI) (ca := #[.int .i64 u742.1]) [[.int .i64 u742.1]] [u742.1] hH Try.underlying24 tI3 rfl (by decide) rfl rfl (by kernel_rfl) rfl ⟨rfl, Ent.own (Ent.flat rfl), trivial⟩ ?_
              intro A743 s743 hH' hG
              replace hH : Hp sb s F0 s743 [Ck.ol OI 3 A708 c708 x708, Ck.ol OI 3 A4 c4 u3.1, Ck.ol OI 3 A500 c500 x500, Ck.emp, Ck.ol OI 3 A726 c726 u725, Ck.emp, Ck.ol OI 3 A741 3 [97, 98, 120], Ck.ov bp0 [.slice A0_0p p0_0.length c0_0p, .int .i64 u742.2.1, .int .u64 u742.2.2] 113, Ck.ol OI 3 A743 1 [u742.1]] := hH'
              clear hH' hG
              try dsimp only [putL, setL, evL, getL]
              replace H := headE H
              obtain ⟨x744, hx744, H⟩ := H
              refine HL_cons rfl ?_
              refine o_appF (K := KI) (n := 17592186044416) (A := A726) (c := c726) (xs := u725) (ys := [u742.1]) (B := A743) (c2 := 1) hH 4 rfl rfl rfl rfl Try.underlying24 tI3 rfl (by decide) (by decide) (by decide) (Src.flat (hH.rd 8 rfl)) hx744 ?_
              intro A744 c744 s744 hH'
              replace hH : Hp sb s F0 s744 [Ck.ol OI 3 A708 c708 x708, Ck.ol OI 3 A4 c4 u3.1, Ck.ol OI 3 A500 c500 x500, Ck.emp, Ck.ol OI 3 A744 c744 x744, Ck.emp, Ck.ol OI 3 A741 3 [97, 98, 120], Ck.ov bp0 [.slice A0_0p p0_0.length c0_0p, .int .i64 u742.2.1, .int .u64 u742.2.2] 113, Ck.ol OI 3 A743 1 [u742.1]] := hH'
              clear hH'
              try dsimp only [putL, setL, evL, getL]
              refine HL_cons rfl ?_
              refine o_assign ?_
              try dsimp only [putL, setL, evL, getL]
              refine HL_nil ?_
              exact hK727 _ _ ⟨x744, A744, c744, u742.2.1, u742.2.2, H, rfl, hH.sel [4, 1, 0, 7] (by decide)⟩
            · replace H := iteF hb740 H
              refine HT_false (congrArg Value.bool hb740) ?_
              refine HT_skip ?_
              exact hK727 _ _ ⟨u725, A726, c726, u739.2.1, u739.2.2, H, rfl, hH.sel [4, 1, 0, 5] (by decide)⟩
          · rintro l' s745 ⟨x735, A735, c735, x736, x737, H, hl, hH⟩
            generalize getL l' 41 = j41, getL l' 42 = j42, getL l' 43 = j43, getL l' 44 = j44, getL l' 45 = j45, getL l' 46 = j46, getL l' 47 = j47, getL l' 48 = j48 at hl
            subst hl
            replace H := hG727 _ H
            try dsimp only at H
            refine HT_region ?_
            refine HL_cons rfl ?_
            refine o_move ?_
            try dsimp only [putL, setL, evL, getL]
            refine HL_cons rfl ?_
            refine o_move ?_
            try dsimp only [putL, setL, evL, getL]
            replace H := headE H
            obtain ⟨x746, hx746, H⟩ := H
            refine HL_cons rfl ?_
            refine o_appF (K := KI) (n := 17592186044416) (A := A735) (c := c735) (xs := x735) (ys := x708) (B := A708) (c2 := c708) hH 0 rfl rfl rfl rfl Try.underlying24 tI3 rfl (by decide) (by decide) (by decide) (Src.flat (hH.rd 2 rfl)) hx746 ?_
            intro A746 c746 s746 hH'
            replace hH : Hp sb s F0 s746 [Ck.ol OI 3 A746 c746 x746, Ck.ol OI 3 A4 c4 u3.1, Ck.ol OI 3 A708 c708 x708, Ck.ov bp0 [.slice A0_0p p0_0.length c0_0p, .int .i64 x736, .int .u64 x737] 113] := hH'
            clear hH'
            try dsimp only [putL, setL, evL, getL]
            refine HL_cons rfl ?_
            refine o_assign ?_
            try dsimp only [putL, setL, evL, getL]
            refine HL_nil ?_
            refine hK689 _ _ ?_
            refine HT_region ?_
            refine HL_cons rfl ?_
            refine o_move ?_
            try dsimp only [putL, setL, evL, getL]
            refine HL_cons rfl ?_
            refine o_bin rfl rfl rfl ?_
            try dsimp only [putL, setL, evL, getL]
            refine HL_cons rfl ?_
            refine o_assign ?_
            try dsimp only [putL, setL, evL, getL]
            refine HL_nil ?_
            exact hK627 _ _ ⟨kf, Nat.lt_succ_self kf, x746, A746, c746, IntKind.i64.wrap (x501 - 1), x736, x737, H, rfl, hH.sel [0, 1, 3] (by decide)⟩
      · replace H := iteF hb630 H
        refine HT_false (congrArg Value.bool hb630) ?_
        refine HT_exit ?_
        exact hK11 _ _ ⟨x500, A500, c500, x502, x503, H, rfl, hH⟩
  · rintro l' s747 ⟨x378, A378, c378, x379, x380, H, hl, hH⟩
    generalize getL l' 6 = j6, getL l' 7 = j7, getL l' 8 = j8, getL l' 15 = j15, getL l' 16 = j16, getL l' 17 = j17, getL l' 18 = j18, getL l' 19 = j19, getL l' 20 = j20, getL l' 21 = j21, getL l' 22 = j22, getL l' 23 = j23, getL l' 24 = j24, getL l' 25 = j25, getL l' 26 = j26, getL l' 27 = j27, getL l' 28 = j28, getL l' 29 = j29, getL l' 30 = j30, getL l' 31 = j31, getL l' 32 = j32, getL l' 33 = j33, getL l' 34 = j34, getL l' 35 = j35, getL l' 36 = j36, getL l' 37 = j37, getL l' 38 = j38, getL l' 39 = j39, getL l' 40 = j40, getL l' 41 = j41, getL l' 42 = j42, getL l' 43 = j43, getL l' 44 = j44, getL l' 45 = j45, getL l' 46 = j46, getL l' 47 = j47, getL l' 48 = j48, getL l' 49 = j49, getL l' 50 = j50, getL l' 51 = j51 at hl
    subst hl
    replace H := hG11 _ H
    try dsimp only at H
    refine hK8 _ _ ?_
    refine joinH H fun G748 hG748 H => ?_
    refine HT_joinK (fun l' s' => ∃ (x754 : List (Int)) (A754 : Option Addr) (c754 : Nat) (x755 : Int) (x756 : Int), G748 (x754, x755, x756) = some r ∧ l' = [.pointer (some ⟨bp0, 0, none⟩), undef, .slice none 0 0, .slice none 0 0, .slice A4 u3.1.length c4, .slice A754 x754.length c754, j6, j7, j8, .pointer (some ⟨bp0, 0, none⟩), .slice A4 u3.1.length c4, .slice A4 u3.1.length c4, .slice A7 u6.length c7, .pointer (some ⟨bp0, 0, none⟩), .int .i64 u10.1, j15, j16, j17, j18, j19, j20, j21, j22, j23, j24, j25, j26, j27, j28, j29, j30, j31, j32, j33, j34, j35, j36, j37, j38, j39, j40, j41, j42, j43, j44, j45, j46, j47, j48, j49, j50, j51, getL l' 52, getL l' 53, getL l' 54, getL l' 55, getL l' 56, undef, undef] ∧ Hp sb s F0 s' [Ck.ol OI 3 A754 c754 x754, Ck.ol OI 3 A4 c4 u3.1, Ck.ov bp0 [.slice A0_0p p0_0.length c0_0p, .int .i64 x755, .int .u64 x756] 113]) ?_ ?_
    · intro K748 hK748
      refine HT_seq_k ?_
      intro K757 hK757
      refine HT_region ?_
      refine HL_cons rfl ?_
      refine o_move ?_
      try dsimp only [putL, setL, evL, getL]
      replace H := headE H
      obtain ⟨u758, hu758, H⟩ := H
      obtain ⟨F1, hA, hB⟩ := hH.take [2] (by decide)
      dsimp only [addC, setC, rmC, selC, getC] at hA
      refine HL_cons rfl ?_
      refine o_call (args := #[.pointer (some ⟨bp0, 0, none⟩), .int .i64 30]) Try.func113 rfl rfl rfl (spec_l1Cur_one.ok sb s747 F1 bp0 A0_0p c0_0p p0_0 x379 x380 30 HRp0_0 hA _ hu758) ?_
      rintro _ s758 ⟨rfl, hD⟩
      replace hH := hB _ _ _ (Up.refl _ _ _) hD
      clear hD hA hB
      dsimp only [addC, setC, rmC, selC, getC] at hH
      try dsimp only [putL, setL, evL, getL]
      refine HL_nil ?_
      refine hK757 _ _ ?_
      rcases Bool.eq_false_or_eq_true u758.1 with hb759 | hb759
      · replace H := iteT hb759 H
        refine HT_true (congrArg Value.bool hb759) ?_
        refine HT_region ?_
        refine HL_cons rfl ?_
        refine o_move ?_
        try dsimp only [putL, setL, evL, getL]
        refine HL_cons rfl ?_
        refine o_litF (K := KI) (O := OI) (ca := #[.int .i64 (-1)]) [[.int .i64 (-1)]] [-1] hH Try.underlying24 tI3 rfl (by decide) rfl rfl (by kernel_rfl) rfl ⟨rfl, Ent.own (Ent.flat rfl), trivial⟩ ?_
        intro A760 s760 hH' hG
        replace hH : Hp sb s F0 s760 [Ck.ol OI 3 A378 c378 x378, Ck.ol OI 3 A4 c4 u3.1, Ck.emp, Ck.ov bp0 [.slice A0_0p p0_0.length c0_0p, .int .i64 u758.2.1, .int .u64 u758.2.2] 113, Ck.ol OI 3 A760 1 [-1]] := hH'
        clear hH' hG
        try dsimp only [putL, setL, evL, getL]
        replace H := headE H
        obtain ⟨x761, hx761, H⟩ := H
        refine HL_cons rfl ?_
        refine o_appF (K := KI) (n := 17592186044416) (A := A378) (c := c378) (xs := x378) (ys := [-1]) (B := A760) (c2 := 1) hH 0 rfl rfl rfl rfl Try.underlying24 tI3 rfl (by decide) (by decide) (by decide) (Src.flat (hH.rd 4 rfl)) hx761 ?_
        intro A761 c761 s761 hH'
        replace hH : Hp sb s F0 s761 [Ck.ol OI 3 A761 c761 x761, Ck.ol OI 3 A4 c4 u3.1, Ck.emp, Ck.ov bp0 [.slice A0_0p p0_0.length c0_0p, .int .i64 u758.2.1, .int .u64 u758.2.2] 113, Ck.ol OI 3 A760 1 [-1]] := hH'
        clear hH'
        try dsimp only [putL, setL, evL, getL]
        refine HL_cons rfl ?_
        refine o_assign ?_
        try dsimp only [putL, setL, evL, getL]
        refine HL_nil ?_
        exact hK748 _ _ ⟨x761, A761, c761, u758.2.1, u758.2.2, H, rfl, hH.sel [0, 1, 3] (by decide)⟩
      · replace H := iteF hb759 H
        refine HT_false (congrArg Value.bool hb759) ?_
        refine HT_skip ?_
        exact hK748 _ _ ⟨x378, A378, c378, u758.2.1, u758.2.2, H, rfl, hH.sel [0, 1, 3] (by decide)⟩
    · rintro l' s762 ⟨x754, A754, c754, x755, x756, H, hl, hH⟩
      generalize getL l' 52 = j52, getL l' 53 = j53, getL l' 54 = j54, getL l' 55 = j55, getL l' 56 = j56 at hl
      subst hl
      replace H := hG748 _ H
      try dsimp only at H
      refine HT_seq_k ?_
      intro K763 hK763
      refine HT_region ?_
      refine HL_cons rfl ?_
      refine o_move ?_
      try dsimp only [putL, setL, evL, getL]
      refine HL_cons rfl ?_
      refine o_move ?_
      try dsimp only [putL, setL, evL, getL]
      refine HL_cons rfl ?_
      refine o_assign ?_
      try dsimp only [putL, setL, evL, getL]
      refine HL_cons rfl ?_
      refine o_assign ?_
      try dsimp only [putL, setL, evL, getL]
      refine HL_nil ?_
      refine hK763 _ _ ?_
      refine HT_ret ?_
      exact hQr _ _ [.slice A4 u3.1.length c4, .slice A754 x754.length c754] ⟨rfl, rfl, trivial⟩ (retH (fun r => spec_l1Cur_near.post sb s F0 bp0 A0_0p c0_0p p0_0 r _ _) (show some _ = some r from H) ⟨A4, c4, A754, c754, rfl, hH.sel [1, 0, 2] (by decide)⟩)
def spec_DrawDistanceOf.f (p0 : List (Int)) : Option ((List (Int)) × (List (Int))) := (spec_l1Cur_near.f p0 0 0).bind fun u5 => some (u5.1, u5.2.1)
def spec_DrawDistanceOf.post (sb s : St) (F0 : Fp) (r : (List (Int)) × (List (Int))) : Value → St → Prop := fun v s' => ∃ (A0 : Option Addr) (c0 : Nat) (A1 : Option Addr) (c1 : Nat), v = .tuple #[.slice A0 r.1.length c0, .slice A1 r.2.length c1] ∧ Hp sb s F0 s' [Ck.ol OI 3 A0 c0 r.1, Ck.ol OI 3 A1 c1 r.2]
set_option maxRecDepth 100000 in
set_option maxHeartbeats 4000000 in
theorem spec_DrawDistanceOf.ok (sb s : St) (F0 : Fp) (A0p : Option Addr) (c0p : Nat) (p0 : List (Int)) (HRp0 : Rd (Kd.int .u8) sb A0p c0p p0) (hH : Hp sb s F0 s []) (r : (List (Int)) × (List (Int))) (H : spec_DrawDistanceOf.f p0 = some r) : GCall Try.prog 15 #[.slice A0p p0.length c0p] s (spec_DrawDistanceOf.post sb s F0 r) := by
  refine GCall_ofk [.tmp 2, .tmp 3] [.slice A0p p0.length c0p, undef, undef, undef, undef, undef, undef, undef, undef, undef, undef, undef] Try.func15 rfl rfl rfl ?_
  intro w Q hQr hQn hQp
  replace H := topE H
  unfold spec_DrawDistanceOf.f at H
  refine HT_seq_k ?_
  intro K1 hK1
  refine HT_region ?_
  refine HL_cons rfl ?_
  refine o_assign ?_
  try dsimp only [putL, setL, evL, getL]
  refine HL_cons rfl ?_
  refine o_assign ?_
  try dsimp only [putL, setL, evL, getL]
  refine HL_nil ?_
  refine hK1 _ _ ?_
  refine HT_seq_k ?_
  intro K2 hK2
  refine HT_region ?_
  refine HL_cons rfl ?_
  refine o_move ?_
  try dsimp only [putL, setL, evL, getL]
  refine HL_cons rfl ?_
  refine o_build (pl := [(0, 1), (1, 1), (2, 1)]) (cs := #[.slice A0p p0.length c0p, .int .i64 0, .int .u64 0]) Try.underlying113 tI113 (by kernel_rfl) (by kernel_rfl) rfl ?_
  try dsimp only [putL, setL, evL, getL]
  refine HL_cons rfl ?_
  refine o_boxH hH rfl ?_
  intro b3 s3 hH' hG
  replace hH : Hp sb s F0 s3 [Ck.ov b3 [.slice A0p p0.length c0p, .int .i64 0, .int .u64 0] 113] := hH'
  clear hH' hG
  try dsimp only [putL, setL, evL, getL]
  refine HL_cons rfl ?_
  refine o_assign ?_
  try dsimp only [putL, setL, evL, getL]
  refine HL_nil ?_
  refine hK2 _ _ ?_
  refine HT_seq_k ?_
  intro K4 hK4
  refine HT_region ?_
  refine HL_cons rfl ?_
  refine o_move ?_
  try dsimp only [putL, setL, evL, getL]
  replace H := headE H
  obtain ⟨u5, hu5, H⟩ := H
  obtain ⟨F1, hA, hB⟩ := hH.take [0] (by decide)
  dsimp only [addC, setC, rmC, selC, getC] at hA
  refine HL_cons rfl ?_
  refine o_call (args := #[.pointer (some ⟨b3, 0, none⟩)]) Try.func98 rfl rfl rfl (spec_l1Cur_near.ok sb s3 F1 b3 A0p c0p p0 0 0 HRp0 hA _ hu5) ?_
  rintro _ s5 ⟨A6, c6, A7, c7, rfl, hD⟩
  replace hH := hB _ _ _ (Up.refl _ _ _) hD
  clear hD hA hB
  dsimp only [addC, setC, rmC, selC, getC] at hH
  try dsimp only [putL, setL, evL, getL]
  refine HL_cons rfl ?_
  refine o_extract rfl rfl ?_
  try dsimp only [putL, setL, evL, getL]
  refine HL_cons rfl ?_
  refine o_extract rfl rfl ?_
  try dsimp only [putL, setL, evL, getL]
  refine HL_cons rfl ?_
  refine o_assign ?_
  try dsimp only [putL, setL, evL, getL]
  refine HL_cons rfl ?_
  refine o_assign ?_
  try dsimp only [putL, setL, evL, getL]
  refine HL_nil ?_
  refine hK4 _ _ ?_
  refine HT_ret ?_
  exact hQr _ _ [.slice A6 u5.1.length c6, .slice A7 u5.2.1.length c7] ⟨rfl, rfl, trivial⟩ (retH (fun r => spec_DrawDistanceOf.post sb s F0 r _ _) (show some _ = some r from H) ⟨A6, c6, A7, c7, rfl, hH.sel [1, 2] (by decide)⟩)
def impl_inRange.f (p0 : Int) (p1 : Int) (p2 : Int) : Option Bool := if (decide (p1 ≤ p0)) = true then (some (decide (p0 ≤ p2))) else (some false)
def impl_inRange.post (sb s : St) (F0 : Fp) (r : Bool) : Value → St → Prop := fun v s' => v = .bool r ∧ Hp sb s F0 s' []
set_option maxRecDepth 100000 in
set_option maxHeartbeats 4000000 in
theorem impl_inRange.ok (sb s : St) (F0 : Fp) (p0 : Int) (p1 : Int) (p2 : Int) (hH : Hp sb s F0 s []) (r : Bool) (H : impl_inRange.f p0 p1 p2 = some r) : GCall Try.prog 105 #[.int .i64 p0, .int .i64 p1, .int .i64 p2] s (impl_inRange.post sb s F0 r) := by
  refine GCall_ofk [.tmp 6] [.int .i64 p0, .int .i64 p1, .int .i64 p2, undef, undef, undef, undef, undef, undef, undef, undef, undef, undef, undef, undef] Try.func105 rfl rfl rfl ?_
  intro w Q hQr hQn hQp
  replace H := topE H
  unfold impl_inRange.f at H
  refine HT_seq_k ?_
  intro K1 hK1
  refine HT_region ?_
  refine HL_cons rfl ?_
  refine o_assign ?_
  try dsimp only [putL, setL, evL, getL]
  refine HL_nil ?_
  refine hK1 _ _ ?_
  refine HT_seq_k ?_
  intro K2 hK2
  refine HT_region ?_
  refine HL_cons rfl ?_
  refine o_move ?_
  try dsimp only [putL, setL, evL, getL]
  refine HL_cons rfl ?_
  refine o_move ?_
  try dsimp only [putL, setL, evL, getL]
  refine HL_cons rfl ?_
  refine o_bin rfl rfl rfl ?_
  try dsimp only [putL, setL, evL, getL]
  refine HL_cons rfl ?_
  refine o_move ?_
  try dsimp only [putL, setL, evL, getL]
  rcases Bool.eq_false_or_eq_true (decide (p1 ≤ p0)) with hb3 | hb3
  · replace H := iteT hb3 H
    refine HL_want ?_ ?_
    · exact wantT (j := 3) (b := true) (t := 10) (c := decide (p1 ≤ p0)) rfl rfl rfl rfl hb3
    refine o_move ?_
    try dsimp only [putL, setL, evL, getL]
    refine HL_want ?_ ?_
    · exact wantT (j := 3) (b := true) (t := 10) (c := decide (p1 ≤ p0)) rfl rfl rfl rfl hb3
    refine o_move ?_
    try dsimp only [putL, setL, evL, getL]
    refine HL_want ?_ ?_
    · exact wantT (j := 3) (b := true) (t := 10) (c := decide (p1 ≤ p0)) rfl rfl rfl rfl hb3
    refine o_bin rfl rfl rfl ?_
    try dsimp only [putL, setL, evL, getL]
    refine HL_cons rfl ?_
    refine o_pickT rfl hb3 ?_
    try dsimp only [putL, setL, evL, getL]
    refine HL_cons rfl ?_
    refine o_assign ?_
    try dsimp only [putL, setL, evL, getL]
    refine HL_nil ?_
    refine hK2 _ _ ?_
    refine HT_ret ?_
    exact hQr _ _ [.bool (decide (p0 ≤ p2))] ⟨rfl, trivial⟩ (retH (fun r => impl_inRange.post sb s F0 r _ _) (show some _ = some r from H) ⟨rfl, hH⟩)
  · replace H := iteF hb3 H
    refine HL_skip ?_ ?_
    · exact wantF (j := 3) (b := true) (t := 10) (c := decide (p1 ≤ p0)) rfl rfl rfl rfl hb3
    try dsimp only [putL, setL, evL, getL]
    refine HL_skip ?_ ?_
    · exact wantF (j := 3) (b := true) (t := 10) (c := decide (p1 ≤ p0)) rfl rfl rfl rfl hb3
    try dsimp only [putL, setL, evL, getL]
    refine HL_skip ?_ ?_
    · exact wantF (j := 3) (b := true) (t := 10) (c := decide (p1 ≤ p0)) rfl rfl rfl rfl hb3
    try dsimp only [putL, setL, evL, getL]
    refine HL_cons rfl ?_
    refine o_pickF rfl hb3 ?_
    try dsimp only [putL, setL, evL, getL]
    refine HL_cons rfl ?_
    refine o_assign ?_
    try dsimp only [putL, setL, evL, getL]
    refine HL_nil ?_
    refine hK2 _ _ ?_
    refine HT_ret ?_
    exact hQr _ _ [.bool false] ⟨rfl, trivial⟩ (retH (fun r => impl_inRange.post sb s F0 r _ _) (show some _ = some r from H) ⟨rfl, hH⟩)
def impl_GoodRune.f (p0 : Int) : Option Bool := (impl_inRange.f p0 0 1114111).bind fun u3 => if u3 = true then ((impl_inRange.f p0 55296 57343).bind fun u5 => some (!u5)) else (some false)
def impl_GoodRune.post (sb s : St) (F0 : Fp) (r : Bool) : Value → St → Prop := fun v s' => v = .bool r ∧ Hp sb s F0 s' []
set_option maxRecDepth 100000 in
set_option maxHeartbeats 4000000 in
theorem impl_GoodRune.ok (sb s : St) (F0 : Fp) (p0 : Int) (hH : Hp sb s F0 s []) (r : Bool) (H : impl_GoodRune.f p0 = some r) : GCall Try.prog 146 #[.int .i64 p0] s (impl_GoodRune.post sb s F0 r) := by
  refine GCall_ofk [.tmp 2] [.int .i64 p0, undef, undef, undef, undef, undef, undef, undef, undef, undef] Try.func146 rfl rfl rfl ?_
  intro w Q hQr hQn hQp
  replace H := topE H
  unfold impl_GoodRune.f at H
  refine HT_seq_k ?_
  intro K1 hK1
  refine HT_region ?_
  refine HL_cons rfl ?_
  refine o_assign ?_
  try dsimp only [putL, setL, evL, getL]
  refine HL_nil ?_
  refine hK1 _ _ ?_
  refine HT_seq_k ?_
  intro K2 hK2
  refine HT_region ?_
  refine HL_cons rfl ?_
  refine o_move ?_
  try dsimp only [putL, setL, evL, getL]
  replace H := headE H
  obtain ⟨u3, hu3, H⟩ := H
  refine HL_cons rfl ?_
  refine o_call (args := #[.int .i64 p0, .int .i64 0, .int .i64 1114111]) Try.func105 rfl rfl rfl (impl_inRange.ok sb s no p0 0 1114111 (Hp.own hH.bs) _ hu3) ?_
  rintro _ s3 ⟨rfl, hD⟩
  replace hH := hH.back0 hD (Up.refl _ _ _)
  clear hD
  dsimp only [addC, setC, rmC, selC, getC] at hH
  try dsimp only [putL, setL, evL, getL]
  refine HL_cons rfl ?_
  refine o_move ?_
  try dsimp only [putL, setL, evL, getL]
  rcases Bool.eq_false_or_eq_true u3 with hb4 | hb4
  · replace H := iteT hb4 H
    refine HL_want ?_ ?_
    · exact wantT (j := 2) (b := true) (t := 5) (c := u3) rfl rfl rfl rfl hb4
    refine o_move ?_
    try dsimp only [putL, setL, evL, getL]
    replace H := headE H
    obtain ⟨u5, hu5, H⟩ := H
    refine HL_want ?_ ?_
    · exact wantT (j := 2) (b := true) (t := 5) (c := u3) rfl rfl rfl rfl hb4
    refine o_call (args := #[.int .i64 p0, .int .i64 55296, .int .i64 57343]) Try.func105 rfl rfl rfl (impl_inRange.ok sb s3 no p0 55296 57343 (Hp.own hH.bs) _ hu5) ?_
    rintro _ s5 ⟨rfl, hD⟩
    replace hH := hH.back0 hD (Up.refl _ _ _)
    clear hD
    dsimp only [addC, setC, rmC, selC, getC] at hH
    try dsimp only [putL, setL, evL, getL]
    refine HL_want ?_ ?_
    · exact wantT (j := 2) (b := true) (t := 5) (c := u3) rfl rfl rfl rfl hb4
    refine o_not rfl ?_
    try dsimp only [putL, setL, evL, getL]
    refine HL_cons rfl ?_
    refine o_pickT rfl hb4 ?_
    try dsimp only [putL, setL, evL, getL]
    refine HL_cons rfl ?_
    refine o_assign ?_
    try dsimp only [putL, setL, evL, getL]
    refine HL_nil ?_
    refine hK2 _ _ ?_
    refine HT_ret ?_
    exact hQr _ _ [.bool (!u5)] ⟨rfl, trivial⟩ (retH (fun r => impl_GoodRune.post sb s F0 r _ _) (show some _ = some r from H) ⟨rfl, hH⟩)
  · replace H := iteF hb4 H
    refine HL_skip ?_ ?_
    · exact wantF (j := 2) (b := true) (t := 5) (c := u3) rfl rfl rfl rfl hb4
    try dsimp only [putL, setL, evL, getL]
    refine HL_skip ?_ ?_
    · exact wantF (j := 2) (b := true) (t := 5) (c := u3) rfl rfl rfl rfl hb4
    try dsimp only [putL, setL, evL, getL]
    refine HL_skip ?_ ?_
    · exact wantF (j := 2) (b := true) (t := 5) (c := u3) rfl rfl rfl rfl hb4
    try dsimp only [putL, setL, evL, getL]
    refine HL_cons rfl ?_
    refine o_pickF rfl hb4 ?_
    try dsimp only [putL, setL, evL, getL]
    refine HL_cons rfl ?_
    refine o_assign ?_
    try dsimp only [putL, setL, evL, getL]
    refine HL_nil ?_
    refine hK2 _ _ ?_
    refine HT_ret ?_
    exact hQr _ _ [.bool false] ⟨rfl, trivial⟩ (retH (fun r => impl_GoodRune.post sb s F0 r _ _) (show some _ = some r from H) ⟨rfl, hH⟩)
def impl_areRunes_1.f (p0 : Int) : Option Bool := (impl_GoodRune.f p0).bind fun u3 => some (!u3)
def impl_areRunes_1.post (sb s : St) (F0 : Fp) (r : Bool) : Value → St → Prop := fun v s' => v = .bool r ∧ Hp sb s F0 s' []
set_option maxRecDepth 100000 in
set_option maxHeartbeats 4000000 in
theorem impl_areRunes_1.ok (sb s : St) (F0 : Fp) (p0 : Int) (hH : Hp sb s F0 s []) (r : Bool) (H : impl_areRunes_1.f p0 = some r) : GCall Try.prog 186 #[.int .i64 p0] s (impl_areRunes_1.post sb s F0 r) := by
  refine GCall_ofk [.tmp 2] [.int .i64 p0, undef, undef, undef, undef, undef] Try.func186 rfl rfl rfl ?_
  intro w Q hQr hQn hQp
  replace H := topE H
  unfold impl_areRunes_1.f at H
  refine HT_seq_k ?_
  intro K1 hK1
  refine HT_region ?_
  refine HL_cons rfl ?_
  refine o_assign ?_
  try dsimp only [putL, setL, evL, getL]
  refine HL_nil ?_
  refine hK1 _ _ ?_
  refine HT_seq_k ?_
  intro K2 hK2
  refine HT_region ?_
  refine HL_cons rfl ?_
  refine o_move ?_
  try dsimp only [putL, setL, evL, getL]
  replace H := headE H
  obtain ⟨u3, hu3, H⟩ := H
  refine HL_cons rfl ?_
  refine o_call (args := #[.int .i64 p0]) Try.func146 rfl rfl rfl (impl_GoodRune.ok sb s no p0 (Hp.own hH.bs) _ hu3) ?_
  rintro _ s3 ⟨rfl, hD⟩
  replace hH := hH.back0 hD (Up.refl _ _ _)
  clear hD
  dsimp only [addC, setC, rmC, selC, getC] at hH
  try dsimp only [putL, setL, evL, getL]
  refine HL_cons rfl ?_
  refine o_not rfl ?_
  try dsimp only [putL, setL, evL, getL]
  refine HL_cons rfl ?_
  refine o_assign ?_
  try dsimp only [putL, setL, evL, getL]
  refine HL_nil ?_
  refine hK2 _ _ ?_
  refine HT_ret ?_
  exact hQr _ _ [.bool (!u3)] ⟨rfl, trivial⟩ (retH (fun r => impl_areRunes_1.post sb s F0 r _ _) (show some _ = some r from H) ⟨rfl, hH⟩)
def slices_IndexFunc_int_int_impl_areRunes_1.l1 (p0 : List (Int)) : Nat → Int → Option (Lo Unit Int)
  | 0, _ => none
  | kf + 1, x48 => if (decide (x48 < (p0.length : Int))) = true then ((rd? p0 x48).bind fun u67 => (impl_areRunes_1.f u67).bind fun u68 => if u68 = true then ((some x48).bind fun z => some (Lo.ret z)) else (slices_IndexFunc_int_int_impl_areRunes_1.l1 p0 kf (IntKind.i64.wrap (x48 + 1)))) else (some (Lo.go ()))
def slices_IndexFunc_int_int_impl_areRunes_1.f (p0 : List (Int)) : Option Int := (slices_IndexFunc_int_int_impl_areRunes_1.l1 p0 ((((p0.length : Int)) - (0)).toNat + 2) 0).bind fun (o : Lo Unit Int) => match o with | .go () => (some (-1)) | .ret z => some z
def slices_IndexFunc_int_int_impl_areRunes_1.post (sb s : St) (F0 : Fp) (r : Int) : Value → St → Prop := fun v s' => v = .int .i64 r ∧ Hp sb s F0 s' []
set_option maxRecDepth 100000 in
set_option maxHeartbeats 4000000 in
theorem slices_IndexFunc_int_int_impl_areRunes_1.ok (sb s : St) (F0 : Fp) (A0p : Option Addr) (c0p : Nat) (p0 : List (Int)) (HRp0 : Rd KI sb A0p c0p p0) (hH : Hp sb s F0 s []) (r : Int) (H : slices_IndexFunc_int_int_impl_areRunes_1.f p0 = some r) : GCall Try.prog 184 #[.slice A0p p0.length c0p, .func (.func 186) #[] #[]] s (slices_IndexFunc_int_int_impl_areRunes_1.post sb s F0 r) := by
  refine GCall_ofk [.tmp 4] [.slice A0p p0.length c0p, .func (.func 186) #[] #[], undef, undef, undef, undef, undef, undef, undef, undef, undef, undef, undef, undef, undef, undef, undef, undef, undef] Try.func184 rfl rfl rfl ?_
  intro w Q hQr hQn hQp
  replace H := topE H
  unfold slices_IndexFunc_int_int_impl_areRunes_1.f at H
  refine HT_seq_k ?_
  intro K1 hK1
  refine HT_region ?_
  refine HL_cons rfl ?_
  refine o_assign ?_
  try dsimp only [putL, setL, evL, getL]
  refine HL_nil ?_
  refine hK1 _ _ ?_
  refine HT_seq_k ?_
  intro K2 hK2
  refine HT_seq_k ?_
  intro K3 hK3
  refine HT_region ?_
  refine HL_cons rfl ?_
  refine o_move ?_
  try dsimp only [putL, setL, evL, getL]
  refine HL_cons rfl ?_
  refine o_len rfl Try.underlying24 ?_
  try dsimp only [putL, setL, evL, getL]
  refine HL_cons rfl ?_
  refine o_move ?_
  try dsimp only [putL, setL, evL, getL]
  refine HL_nil ?_
  refine hK3 _ _ ?_
  refine joinH H fun G4 hG4 H => ?_
  refine HT_toK (fun l' s' => G4 (.go ()) = some r ∧ l' = [.slice A0p p0.length c0p, .func (.func 186) #[] #[], undef, undef, getL l' 4, getL l' 5, .slice A0p p0.length c0p, .int .i64 (p0.length : Int), getL l' 8, getL l' 9, getL l' 10, getL l' 11, getL l' 12, getL l' 13, getL l' 14, getL l' 15, getL l' 16, getL l' 17, getL l' 18] ∧ Hp sb s F0 s' []) ?_ ?_
  · intro K4 hK4
    refine HT_block ?_
    refine HT_loopK (fun kf l' s' => ∃ (x48 : Int), (slices_IndexFunc_int_int_impl_areRunes_1.l1 p0 kf x48).bind G4 = some r ∧ l' = [.slice A0p p0.length c0p, .func (.func 186) #[] #[], undef, undef, getL l' 4, getL l' 5, .slice A0p p0.length c0p, .int .i64 (p0.length : Int), .int .i64 x48, getL l' 9, getL l' 10, getL l' 11, getL l' 12, getL l' 13, getL l' 14, getL l' 15, getL l' 16, getL l' 17, getL l' 18] ∧ Hp sb s F0 s' []) ((((p0.length : Int)) - (0)).toNat + 2) ⟨0, H, rfl, hH⟩ ?_
    rintro kf l' s60 ⟨x48, H, hl, hH⟩ K60 hK60
    generalize getL l' 4 = j4, getL l' 5 = j5, getL l' 9 = j9, getL l' 10 = j10, getL l' 11 = j11, getL l' 12 = j12, getL l' 13 = j13, getL l' 14 = j14, getL l' 15 = j15, getL l' 16 = j16, getL l' 17 = j17, getL l' 18 = j18 at hl
    subst hl
    cases kf with
    | zero => simp [slices_IndexFunc_int_int_impl_areRunes_1.l1] at H
    | succ kf =>
      rw [slices_IndexFunc_int_int_impl_areRunes_1.l1] at H
      refine HT_seq_k ?_
      intro K61 hK61
      refine HT_region ?_
      refine HL_cons rfl ?_
      refine o_bin rfl rfl rfl ?_
      try dsimp only [putL, setL, evL, getL]
      refine HL_nil ?_
      refine hK61 _ _ ?_
      refine HT_seq_k ?_
      intro K62 hK62
      rcases Bool.eq_false_or_eq_true (decide (x48 < (p0.length : Int))) with hb63 | hb63
      · replace H := iteT hb63 H
        refine HT_true (congrArg Value.bool hb63) ?_
        refine HT_skip ?_
        refine hK62 _ _ ?_
        refine HT_seq_k ?_
        intro K64 hK64
        refine HT_block ?_
        refine HT_seq_k ?_
        intro K65 hK65
        refine HT_region ?_
        refine HL_cons rfl ?_
        refine o_move ?_
        try dsimp only [putL, setL, evL, getL]
        refine HL_cons rfl ?_
        refine o_assign ?_
        try dsimp only [putL, setL, evL, getL]
        refine HL_nil ?_
        refine hK65 _ _ ?_
        refine HT_seq_k ?_
        intro K66 hK66
        refine HT_region ?_
        refine HL_cons rfl ?_
        refine o_move ?_
        try dsimp only [putL, setL, evL, getL]
        refine HL_cons rfl ?_
        refine o_move ?_
        try dsimp only [putL, setL, evL, getL]
        refine HL_cons rfl ?_
        refine o_move ?_
        try dsimp only [putL, setL, evL, getL]
        replace H := headE H
        obtain ⟨u67, hu67, H⟩ := H
        obtain ⟨b67, o67, cs67, hr67, hh67, hel67⟩ := Rd.elb HRp0 hu67
        obtain rfl := hr67
        refine HL_cons rfl ?_
        refine hel67 s60 rfl rfl Try.underlying24 tI3 ?_
        try dsimp only [putL, setL, evL, getL]
        refine HL_cons rfl ?_
        refine o_load' rfl Try.underlying3 rfl ((hh67 hH.bs.mono) 0 _ rfl) ?_
        try dsimp only [putL, setL, evL, getL]
        replace H := headE H
        obtain ⟨u68, hu68, H⟩ := H
        refine HL_cons rfl ?_
        refine o_callv (first := #[]) (cap := #[]) (args := #[.int .i64 u67]) rfl Try.func186 rfl rfl [.int .i64 u67] rfl (by simp) (impl_areRunes_1.ok sb s60 no u67 (Hp.own hH.bs) _ hu68) ?_
        rintro _ s68 ⟨rfl, hD⟩
        replace hH := hH.back0 hD (Up.refl _ _ _)
        clear hD
        dsimp only [addC, setC, rmC, selC, getC] at hH
        try dsimp only [putL, setL, evL, getL]
        refine HL_nil ?_
        refine hK66 _ _ ?_
        rcases Bool.eq_false_or_eq_true u68 with hb69 | hb69
        · replace H := iteT hb69 H
          refine HT_true (congrArg Value.bool hb69) ?_
          refine HT_seq_k ?_
          intro K70 hK70
          refine HT_region ?_
          refine HL_cons rfl ?_
          refine o_move ?_
          try dsimp only [putL, setL, evL, getL]
          refine HL_cons rfl ?_
          refine o_assign ?_
          try dsimp only [putL, setL, evL, getL]
          refine HL_nil ?_
          refine hK70 _ _ ?_
          refine HT_ret ?_
          replace H := escH (fun z hz => hG4 _ hz) H
          exact hQr _ _ [.int .i64 x48] ⟨rfl, trivial⟩ (retH (fun r => slices_IndexFunc_int_int_impl_areRunes_1.post sb s F0 r _ _) (show some _ = some r from H) ⟨rfl, hH⟩)
        · replace H := iteF hb69 H
          refine HT_false (congrArg Value.bool hb69) ?_
          refine HT_skip ?_
          refine hK64 _ _ ?_
          refine HT_region ?_
          refine HL_cons rfl ?_
          refine o_bin rfl rfl rfl ?_
          try dsimp only [putL, setL, evL, getL]
          refine HL_cons rfl ?_
          refine o_move ?_
          try dsimp only [putL, setL, evL, getL]
          refine HL_nil ?_
          exact hK60 _ _ ⟨kf, Nat.lt_succ_self kf, IntKind.i64.wrap (x48 + 1), H, rfl, hH⟩
      · replace H := iteF hb63 H
        refine HT_false (congrArg Value.bool hb63) ?_
        refine HT_exit ?_
        exact hK4 _ _ ⟨H, rfl, hH⟩
  · rintro l' s71 ⟨H, hl, hH⟩
    generalize getL l' 4 = j4, getL l' 5 = j5, getL l' 8 = j8, getL l' 9 = j9, getL l' 10 = j10, getL l' 11 = j11, getL l' 12 = j12, getL l' 13 = j13, getL l' 14 = j14, getL l' 15 = j15, getL l' 16 = j16, getL l' 17 = j17, getL l' 18 = j18 at hl
    subst hl
    replace H := hG4 _ H
    try dsimp only at H
    refine hK2 _ _ ?_
    refine HT_seq_k ?_
    intro K72 hK72
    refine HT_region ?_
    refine HL_cons rfl ?_
    refine o_assign ?_
    try dsimp only [putL, setL, evL, getL]
    refine HL_nil ?_
    refine hK72 _ _ ?_
    refine HT_ret ?_
    exact hQr _ _ [.int .i64 (-1)] ⟨rfl, trivial⟩ (retH (fun r => slices_IndexFunc_int_int_impl_areRunes_1.post sb s F0 r _ _) (show some _ = some r from H) ⟨rfl, hH⟩)
def slices_ContainsFunc_int_int_impl_areRunes_1.f (p0 : List (Int)) : Option Bool := (slices_IndexFunc_int_int_impl_areRunes_1.f p0).bind fun u3 => some (decide (u3 ≥ 0))
def slices_ContainsFunc_int_int_impl_areRunes_1.post (sb s : St) (F0 : Fp) (r : Bool) : Value → St → Prop := fun v s' => v = .bool r ∧ Hp sb s F0 s' []
set_option maxRecDepth 100000 in
set_option maxHeartbeats 4000000 in
theorem slices_ContainsFunc_int_int_impl_areRunes_1.ok (sb s : St) (F0 : Fp) (A0p : Option Addr) (c0p : Nat) (p0 : List (Int)) (HRp0 : Rd KI sb A0p c0p p0) (hH : Hp sb s F0 s []) (r : Bool) (H : slices_ContainsFunc_int_int_impl_areRunes_1.f p0 = some r) : GCall Try.prog 114 #[.slice A0p p0.length c0p, .func (.func 186) #[] #[]] s (slices_ContainsFunc_int_int_impl_areRunes_1.post sb s F0 r) := by
  refine GCall_ofk [.tmp 4] [.slice A0p p0.length c0p, .func (.func 186) #[] #[], undef, undef, undef, undef, undef, undef, undef] Try.func114 rfl rfl rfl ?_
  intro w Q hQr hQn hQp
  replace H := topE H
  unfold slices_ContainsFunc_int_int_impl_areRunes_1.f at H
  refine HT_seq_k ?_
  intro K1 hK1
  refine HT_region ?_
  refine HL_cons rfl ?_
  refine o_assign ?_
  try dsimp only [putL, setL, evL, getL]
  refine HL_nil ?_
  refine hK1 _ _ ?_
  refine HT_seq_k ?_
  intro K2 hK2
  refine HT_region ?_
  refine HL_cons rfl ?_
  refine o_move ?_
  try dsimp only [putL, setL, evL, getL]
  refine HL_cons rfl ?_
  refine o_move ?_
  try dsimp only [putL, setL, evL, getL]
  replace H := headE H
  obtain ⟨u3, hu3, H⟩ := H
  refine HL_cons rfl ?_
  refine o_call (args := #[.slice A0p p0.length c0p, .func (.func 186) #[] #[]]) Try.func184 rfl rfl rfl (slices_IndexFunc_int_int_impl_areRunes_1.ok sb s no A0p c0p p0 HRp0 (Hp.own hH.bs) _ hu3) ?_
  rintro _ s3 ⟨rfl, hD⟩
  replace hH := hH.back0 hD (Up.refl _ _ _)
  clear hD
  dsimp only [addC, setC, rmC, selC, getC] at hH
  try dsimp only [putL, setL, evL, getL]
  refine HL_cons rfl ?_
  refine o_bin rfl rfl rfl ?_
  try dsimp only [putL, setL, evL, getL]
  refine HL_cons rfl ?_
  refine o_assign ?_
  try dsimp only [putL, setL, evL, getL]
  refine HL_nil ?_
  refine hK2 _ _ ?_
  refine HT_ret ?_
  exact hQr _ _ [.bool (decide (u3 ≥ 0))] ⟨rfl, trivial⟩ (retH (fun r => slices_ContainsFunc_int_int_impl_areRunes_1.post sb s F0 r _ _) (show some _ = some r from H) ⟨rfl, hH⟩)
def impl_areRunes.f (p0 : List (Int)) (p1 : Int) : Option Bool := if (decide ((p0.length : Int) ≤ p1)) = true then ((slices_ContainsFunc_int_int_impl_areRunes_1.f p0).bind fun u4 => some (!u4)) else (some false)
def impl_areRunes.post (sb s : St) (F0 : Fp) (r : Bool) : Value → St → Prop := fun v s' => v = .bool r ∧ Hp sb s F0 s' []
set_option maxRecDepth 100000 in
set_option maxHeartbeats 4000000 in
theorem impl_areRunes.ok (sb s : St) (F0 : Fp) (A0p : Option Addr) (c0p : Nat) (p0 : List (Int)) (p1 : Int) (HRp0 : Rd KI sb A0p c0p p0) (hH : Hp sb s F0 s []) (r : Bool) (H : impl_areRunes.f p0 p1 = some r) : GCall Try.prog 118 #[.slice A0p p0.length c0p, .int .i64 p1] s (impl_areRunes.post sb s F0 r) := by
  refine GCall_ofk [.tmp 4] [.slice A0p p0.length c0p, .int .i64 p1, undef, undef, undef, undef, undef, undef, undef, undef, undef, undef, undef, undef] Try.func118 rfl rfl rfl ?_
  intro w Q hQr hQn hQp
  replace H := topE H
  unfold impl_areRunes.f at H
  refine HT_seq_k ?_
  intro K1 hK1
  refine HT_region ?_
  refine HL_cons rfl ?_
  refine o_assign ?_
  try dsimp only [putL, setL, evL, getL]
  refine HL_nil ?_
  refine hK1 _ _ ?_
  refine HT_seq_k ?_
  intro K2 hK2
  refine HT_region ?_
  refine HL_cons rfl ?_
  refine o_move ?_
  try dsimp only [putL, setL, evL, getL]
  refine HL_cons rfl ?_
  refine o_len rfl Try.underlying24 ?_
  try dsimp only [putL, setL, evL, getL]
  refine HL_cons rfl ?_
  refine o_move ?_
  try dsimp only [putL, setL, evL, getL]
  refine HL_cons rfl ?_
  refine o_bin rfl rfl rfl ?_
  try dsimp only [putL, setL, evL, getL]
  refine HL_cons rfl ?_
  refine o_move ?_
  try dsimp only [putL, setL, evL, getL]
  rcases Bool.eq_false_or_eq_true (decide ((p0.length : Int) ≤ p1)) with hb3 | hb3
  · replace H := iteT hb3 H
    refine HL_want ?_ ?_
    · exact wantT (j := 4) (b := true) (t := 9) (c := decide ((p0.length : Int) ≤ p1)) rfl rfl rfl rfl hb3
    refine o_move ?_
    try dsimp only [putL, setL, evL, getL]
    replace H := headE H
    obtain ⟨u4, hu4, H⟩ := H
    refine HL_want ?_ ?_
    · exact wantT (j := 4) (b := true) (t := 9) (c := decide ((p0.length : Int) ≤ p1)) rfl rfl rfl rfl hb3
    refine o_call (args := #[.slice A0p p0.length c0p, .func (.func 186) #[] #[]]) Try.func114 rfl rfl rfl (slices_ContainsFunc_int_int_impl_areRunes_1.ok sb s no A0p c0p p0 HRp0 (Hp.own hH.bs) _ hu4) ?_
    rintro _ s4 ⟨rfl, hD⟩
    replace hH := hH.back0 hD (Up.refl _ _ _)
    clear hD
    dsimp only [addC, setC, rmC, selC, getC] at hH
    try dsimp only [putL, setL, evL, getL]
    refine HL_want ?_ ?_
    · exact wantT (j := 4) (b := true) (t := 9) (c := decide ((p0.length : Int) ≤ p1)) rfl rfl rfl rfl hb3
    refine o_not rfl ?_
    try dsimp only [putL, setL, evL, getL]
    refine HL_cons rfl ?_
    refine o_pickT rfl hb3 ?_
    try dsimp only [putL, setL, evL, getL]
    refine HL_cons rfl ?_
    refine o_assign ?_
    try dsimp only [putL, setL, evL, getL]
    refine HL_nil ?_
    refine hK2 _ _ ?_
    refine HT_ret ?_
    exact hQr _ _ [.bool (!u4)] ⟨rfl, trivial⟩ (retH (fun r => impl_areRunes.post sb s F0 r _ _) (show some _ = some r from H) ⟨rfl, hH⟩)
  · replace H := iteF hb3 H
    refine HL_skip ?_ ?_
    · exact wantF (j := 4) (b := true) (t := 9) (c := decide ((p0.length : Int) ≤ p1)) rfl rfl rfl rfl hb3
    try dsimp only [putL, setL, evL, getL]
    refine HL_skip ?_ ?_
    · exact wantF (j := 4) (b := true) (t := 9) (c := decide ((p0.length : Int) ≤ p1)) rfl rfl rfl rfl hb3
    try dsimp only [putL, setL, evL, getL]
    refine HL_skip ?_ ?_
    · exact wantF (j := 4) (b := true) (t := 9) (c := decide ((p0.length : Int) ≤ p1)) rfl rfl rfl rfl hb3
    try dsimp only [putL, setL, evL, getL]
    refine HL_cons rfl ?_
    refine o_pickF rfl hb3 ?_
    try dsimp only [putL, setL, evL, getL]
    refine HL_cons rfl ?_
    refine o_assign ?_
    try dsimp only [putL, setL, evL, getL]
    refine HL_nil ?_
    refine hK2 _ _ ?_
    refine HT_ret ?_
    exact hQr _ _ [.bool false] ⟨rfl, trivial⟩ (retH (fun r => impl_areRunes.post sb s F0 r _ _) (show some _ = some r from H) ⟨rfl, hH⟩)
def impl_areShort_1.f (p0 : List (Int)) : Option Bool := (impl_areRunes.f p0 60).bind fun u3 => some (!u3)
def impl_areShort_1.post (sb s : St) (F0 : Fp) (r : Bool) : Value → St → Prop := fun v s' => v = .bool r ∧ Hp sb s F0 s' []
set_option maxRecDepth 100000 in
set_option maxHeartbeats 4000000 in
theorem impl_areShort_1.ok (sb s : St) (F0 : Fp) (A0p : Option Addr) (c0p : Nat) (p0 : List (Int)) (HRp0 : Rd KI sb A0p c0p p0) (hH : Hp sb s F0 s []) (r : Bool) (H : impl_areShort_1.f p0 = some r) : GCall Try.prog 181 #[.slice A0p p0.length c0p] s (impl_areShort_1.post sb s F0 r) := by
  refine GCall_ofk [.tmp 2] [.slice A0p p0.length c0p, undef, undef, undef, undef, undef] Try.func181 rfl rfl rfl ?_
  intro w Q hQr hQn hQp
  replace H := topE H
  unfold impl_areShort_1.f at H
  refine HT_seq_k ?_
  intro K1 hK1
  refine HT_region ?_
  refine HL_cons rfl ?_
  refine o_assign ?_
  try dsimp only [putL, setL, evL, getL]
  refine HL_nil ?_
  refine hK1 _ _ ?_
  refine HT_seq_k ?_
  intro K2 hK2
  refine HT_region ?_
  refine HL_cons rfl ?_
  refine o_move ?_
  try dsimp only [putL, setL, evL, getL]
  replace H := headE H
  obtain ⟨u3, hu3, H⟩ := H
  refine HL_cons rfl ?_
  refine o_call (args := #[.slice A0p p0.length c0p, .int .i64 60]) Try.func118 rfl rfl rfl (impl_areRunes.ok sb s no A0p c0p p0 60 HRp0 (Hp.own hH.bs) _ hu3) ?_
  rintro _ s3 ⟨rfl, hD⟩
  replace hH := hH.back0 hD (Up.refl _ _ _)
  clear hD
  dsimp only [addC, setC, rmC, selC, getC] at hH
  try dsimp only [putL, setL, evL, getL]
  refine HL_cons rfl ?_
  refine o_not rfl ?_
  try dsimp only [putL, setL, evL, getL]
  refine HL_cons rfl ?_
  refine o_assign ?_
  try dsimp only [putL, setL, evL, getL]
  refine HL_nil ?_
  refine hK2 _ _ ?_
  refine HT_ret ?_
  exact hQr _ _ [.bool (!u3)] ⟨rfl, trivial⟩ (retH (fun r => impl_areShort_1.post sb s F0 r _ _) (show some _ = some r from H) ⟨rfl, hH⟩)
def slices_IndexFunc_int_int_impl_areShort_1.l1 (p0 : List (List (Int))) : Nat → Int → Option (Lo Unit Int)
  | 0, _ => none
  | kf + 1, x52 => if (decide (x52 < (p0.length : Int))) = true then ((rd? p0 x52).bind fun u72 => (impl_areShort_1.f u72).bind fun u74 => if u74 = true then ((some x52).bind fun z => some (Lo.ret z)) else (slices_IndexFunc_int_int_impl_areShort_1.l1 p0 kf (IntKind.i64.wrap (x52 + 1)))) else (some (Lo.go ()))
def slices_IndexFunc_int_int_impl_areShort_1.f (p0 : List (List (Int))) : Option Int := (slices_IndexFunc_int_int_impl_areShort_1.l1 p0 ((((p0.length : Int)) - (0)).toNat + 2) 0).bind fun (o : Lo Unit Int) => match o with | .go () => (some (-1)) | .ret z => some z
def slices_IndexFunc_int_int_impl_areShort_1.post (sb s : St) (F0 : Fp) (r : Int) : Value → St → Prop := fun v s' => v = .int .i64 r ∧ Hp sb s F0 s' []
set_option maxRecDepth 100000 in
set_option maxHeartbeats 4000000 in
theorem slices_IndexFunc_int_int_impl_areShort_1.ok (sb s : St) (F0 : Fp) (A0p : Option Addr) (c0p : Nat) (p0 : List (List (Int))) (HRp0 : Rd (Kd.sl KI) sb A0p c0p p0) (hH : Hp sb s F0 s []) (r : Int) (H : slices_IndexFunc_int_int_impl_areShort_1.f p0 = some r) : GCall Try.prog 218 #[.slice A0p p0.length c0p, .func (.func 181) #[] #[]] s (slices_IndexFunc_int_int_impl_areShort_1.post sb s F0 r) := by
  refine GCall_ofk [.tmp 4] [.slice A0p p0.length c0p, .func (.func 181) #[] #[], undef, undef, undef, undef, undef, undef, undef, undef, undef, undef, undef, undef, undef, undef, undef, undef, undef] Try.func218 rfl rfl rfl ?_
  intro w Q hQr hQn hQp
  replace H := topE H
  unfold slices_IndexFunc_int_int_impl_areShort_1.f at H
  refine HT_seq_k ?_
  intro K1 hK1
  refine HT_region ?_
  refine HL_cons rfl ?_
  refine o_assign ?_
  try dsimp only [putL, setL, evL, getL]
  refine HL_nil ?_
  refine hK1 _ _ ?_
  refine HT_seq_k ?_
  intro K2 hK2
  refine HT_seq_k ?_
  intro K3 hK3
  refine HT_region ?_
  refine HL_cons rfl ?_
  refine o_move ?_
  try dsimp only [putL, setL, evL, getL]
  refine HL_cons rfl ?_
  refine o_len rfl Try.underlying105 ?_
  try dsimp only [putL, setL, evL, getL]
  refine HL_cons rfl ?_
  refine o_move ?_
  try dsimp only [putL, setL, evL, getL]
  refine HL_nil ?_
  refine hK3 _ _ ?_
  refine joinH H fun G4 hG4 H => ?_
  refine HT_toK (fun l' s' => G4 (.go ()) = some r ∧ l' = [.slice A0p p0.length c0p, .func (.func 181) #[] #[], undef, undef, getL l' 4, getL l' 5, .slice A0p p0.length c0p, .int .i64 (p0.length : Int), getL l' 8, getL l' 9, getL l' 10, getL l' 11, getL l' 12, getL l' 13, getL l' 14, getL l' 15, getL l' 16, getL l' 17, getL l' 18] ∧ Hp sb s F0 s' []) ?_ ?_
  · intro K4 hK4
    refine HT_block ?_
    refine HT_loopK (fun kf l' s' => ∃ (x52 : Int), (slices_IndexFunc_int_int_impl_areShort_1.l1 p0 kf x52).bind G4 = some r ∧ l' = [.slice A0p p0.length c0p, .func (.func 181) #[] #[], undef, undef, getL l' 4, getL l' 5, .slice A0p p0.length c0p, .int .i64 (p0.length : Int), .int .i64 x52, getL l' 9, getL l' 10, getL l' 11, getL l' 12, getL l' 13, getL l' 14, getL l' 15, getL l' 16, getL l' 17, getL l' 18] ∧ Hp sb s F0 s' []) ((((p0.length : Int)) - (0)).toNat + 2) ⟨0, H, rfl, hH⟩ ?_
    rintro kf l' s65 ⟨x52, H, hl, hH⟩ K65 hK65
    generalize getL l' 4 = j4, getL l' 5 = j5, getL l' 9 = j9, getL l' 10 = j10, getL l' 11 = j11, getL l' 12 = j12, getL l' 13 = j13, getL l' 14 = j14, getL l' 15 = j15, getL l' 16 = j16, getL l' 17 = j17, getL l' 18 = j18 at hl
    subst hl
    cases kf with
    | zero => simp [slices_IndexFunc_int_int_impl_areShort_1.l1] at H
    | succ kf =>
      rw [slices_IndexFunc_int_int_impl_areShort_1.l1] at H
      refine HT_seq_k ?_
      intro K66 hK66
      refine HT_region ?_
      refine HL_cons rfl ?_
      refine o_bin rfl rfl rfl ?_
      try dsimp only [putL, setL, evL, getL]
      refine HL_nil ?_
      refine hK66 _ _ ?_
      refine HT_seq_k ?_
      intro K67 hK67
      rcases Bool.eq_false_or_eq_true (decide (x52 < (p0.length : Int))) with hb68 | hb68
      · replace H := iteT hb68 H
        refine HT_true (congrArg Value.bool hb68) ?_
        refine HT_skip ?_
        refine hK67 _ _ ?_
        refine HT_seq_k ?_
        intro K69 hK69
        refine HT_block ?_
        refine HT_seq_k ?_
        intro K70 hK70
        refine HT_region ?_
        refine HL_cons rfl ?_
        refine o_move ?_
        try dsimp only [putL, setL, evL, getL]
        refine HL_cons rfl ?_
        refine o_assign ?_
        try dsimp only [putL, setL, evL, getL]
        refine HL_nil ?_
        refine hK70 _ _ ?_
        refine HT_seq_k ?_
        intro K71 hK71
        refine HT_region ?_
        refine HL_cons rfl ?_
        refine o_move ?_
        try dsimp only [putL, setL, evL, getL]
        refine HL_cons rfl ?_
        refine o_move ?_
        try dsimp only [putL, setL, evL, getL]
        refine HL_cons rfl ?_
        refine o_move ?_
        try dsimp only [putL, setL, evL, getL]
        replace H := headE H
        obtain ⟨u72, hu72, H⟩ := H
        obtain ⟨b72, o72, cs72, hr72, hh72, hel72⟩ := Rd.elb HRp0 hu72
        obtain ⟨A73, c73, rfl, D73⟩ := hr72
        refine HL_cons rfl ?_
        refine hel72 s65 rfl rfl Try.underlying105 tI24 ?_
        try dsimp only [putL, setL, evL, getL]
        refine HL_cons rfl ?_
        refine o_load' rfl Try.underlying24 rfl ((hh72 hH.bs.mono) 0 _ rfl) ?_
        try dsimp only [putL, setL, evL, getL]
        replace H := headE H
        obtain ⟨u74, hu74, H⟩ := H
        refine HL_cons rfl ?_
        refine o_callv (first := #[]) (cap := #[]) (args := #[.slice A73 u72.length c73]) rfl Try.func181 rfl rfl [.slice A73 u72.length c73] rfl (by simp) (impl_areShort_1.ok sb s65 no A73 c73 u72 D73 (Hp.own hH.bs) _ hu74) ?_
        rintro _ s74 ⟨rfl, hD⟩
        replace hH := hH.back0 hD (Up.refl _ _ _)
        clear hD
        dsimp only [addC, setC, rmC, selC, getC] at hH
        try dsimp only [putL, setL, evL, getL]
        refine HL_nil ?_
        refine hK71 _ _ ?_
        rcases Bool.eq_false_or_eq_true u74 with hb75 | hb75
        · replace H := iteT hb75 H
          refine HT_true (congrArg Value.bool hb75) ?_
          refine HT_seq_k ?_
          intro K76 hK76
          refine HT_region ?_
          refine HL_cons rfl ?_
          refine o_move ?_
          try dsimp only [putL, setL, evL, getL]
          refine HL_cons rfl ?_
          refine o_assign ?_
          try dsimp only [putL, setL, evL, getL]
          refine HL_nil ?_
          refine hK76 _ _ ?_
          refine HT_ret ?_
          replace H := escH (fun z hz => hG4 _ hz) H
          exact hQr _ _ [.int .i64 x52] ⟨rfl, trivial⟩ (retH (fun r => slices_IndexFunc_int_int_impl_areShort_1.post sb s F0 r _ _) (show some _ = some r from H) ⟨rfl, hH⟩)
        · replace H := iteF hb75 H
          refine HT_false (congrArg Value.bool hb75) ?_
          refine HT_skip ?_
          refine hK69 _ _ ?_
          refine HT_region ?_
          refine HL_cons rfl ?_
          refine o_bin rfl rfl rfl ?_
          try dsimp only [putL, setL, evL, getL]
          refine HL_cons rfl ?_
          refine o_move ?_
          try dsimp only [putL, setL, evL, getL]
          refine HL_nil ?_
          exact hK65 _ _ ⟨kf, Nat.lt_succ_self kf, IntKind.i64.wrap (x52 + 1), H, rfl, hH⟩
      · replace H := iteF hb68 H
        refine HT_false (congrArg Value.bool hb68) ?_
        refine HT_exit ?_
        exact hK4 _ _ ⟨H, rfl, hH⟩
  · rintro l' s77 ⟨H, hl, hH⟩
    generalize getL l' 4 = j4, getL l' 5 = j5, getL l' 8 = j8, getL l' 9 = j9, getL l' 10 = j10, getL l' 11 = j11, getL l' 12 = j12, getL l' 13 = j13, getL l' 14 = j14, getL l' 15 = j15, getL l' 16 = j16, getL l' 17 = j17, getL l' 18 = j18 at hl
    subst hl
    replace H := hG4 _ H
    try dsimp only at H
    refine hK2 _ _ ?_
    refine HT_seq_k ?_
    intro K78 hK78
    refine HT_region ?_
    refine HL_cons rfl ?_
    refine o_assign ?_
    try dsimp only [putL, setL, evL, getL]
    refine HL_nil ?_
    refine hK78 _ _ ?_
    refine HT_ret ?_
    exact hQr _ _ [.int .i64 (-1)] ⟨rfl, trivial⟩ (retH (fun r => slices_IndexFunc_int_int_impl_areShort_1.post sb s F0 r _ _) (show some _ = some r from H) ⟨rfl, hH⟩)
def slices_ContainsFunc_int_int_impl_areShort_1.f (p0 : List (List (Int))) : Option Bool := (slices_IndexFunc_int_int_impl_areShort_1.f p0).bind fun u3 => some (decide (u3 ≥ 0))
def slices_ContainsFunc_int_int_impl_areShort_1.post (sb s : St) (F0 : Fp) (r : Bool) : Value → St → Prop := fun v s' => v = .bool r ∧ Hp sb s F0 s' []
set_option maxRecDepth 100000 in
set_option maxHeartbeats 4000000 in
theorem slices_ContainsFunc_int_int_impl_areShort_1.ok (sb s : St) (F0 : Fp) (A0p : Option Addr) (c0p : Nat) (p0 : List (List (Int))) (HRp0 : Rd (Kd.sl KI) sb A0p c0p p0) (hH : Hp sb s F0 s []) (r : Bool) (H : slices_ContainsFunc_int_int_impl_areShort_1.f p0 = some r) : GCall Try.prog 180 #[.slice A0p p0.length c0p, .func (.func 181) #[] #[]] s (slices_ContainsFunc_int_int_impl_areShort_1.post sb s F0 r) := by
  refine GCall_ofk [.tmp 4] [.slice A0p p0.length c0p, .func (.func 181) #[] #[], undef, undef, undef, undef, undef, undef, undef] Try.func180 rfl rfl rfl ?_
  intro w Q hQr hQn hQp
  replace H := topE H
  unfold slices_ContainsFunc_int_int_impl_areShort_1.f at H
  refine HT_seq_k ?_
  intro K1 hK1
  refine HT_region ?_
  refine HL_cons rfl ?_
  refine o_assign ?_
  try dsimp only [putL, setL, evL, getL]
  refine HL_nil ?_
  refine hK1 _ _ ?_
  refine HT_seq_k ?_
  intro K2 hK2
  refine HT_region ?_
  refine HL_cons rfl ?_
  refine o_move ?_
  try dsimp only [putL, setL, evL, getL]
  refine HL_cons rfl ?_
  refine o_move ?_
  try dsimp only [putL, setL, evL, getL]
  replace H := headE H
  obtain ⟨u3, hu3, H⟩ := H
  refine HL_cons rfl ?_
  refine o_call (args := #[.slice A0p p0.length c0p, .func (.func 181) #[] #[]]) Try.func218 rfl rfl rfl (slices_IndexFunc_int_int_impl_areShort_1.ok sb s no A0p c0p p0 HRp0 (Hp.own hH.bs) _ hu3) ?_
  rintro _ s3 ⟨rfl, hD⟩
  replace hH := hH.back0 hD (Up.refl _ _ _)
  clear hD
  dsimp only [addC, setC, rmC, selC, getC] at hH
  try dsimp only [putL, setL, evL, getL]
  refine HL_cons rfl ?_
  refine o_bin rfl rfl rfl ?_
  try dsimp only [putL, setL, evL, getL]
  refine HL_cons rfl ?_
  refine o_assign ?_
  try dsimp only [putL, setL, evL, getL]
  refine HL_nil ?_
  refine hK2 _ _ ?_
  refine HT_ret ?_
  exact hQr _ _ [.bool (decide (u3 ≥ 0))] ⟨rfl, trivial⟩ (retH (fun r => slices_ContainsFunc_int_int_impl_areShort_1.post sb s F0 r _ _) (show some _ = some r from H) ⟨rfl, hH⟩)
def impl_areShort.f (p0 : List (List (Int))) : Option Bool := (slices_ContainsFunc_int_int_impl_areShort_1.f p0).bind fun u3 => some (!u3)
def impl_areShort.post (sb s : St) (F0 : Fp) (r : Bool) : Value → St → Prop := fun v s' => v = .bool r ∧ Hp sb s F0 s' []
set_option maxRecDepth 100000 in
set_option maxHeartbeats 4000000 in
theorem impl_areShort.ok (sb s : St) (F0 : Fp) (A0p : Option Addr) (c0p : Nat) (p0 : List (List (Int))) (HRp0 : Rd (Kd.sl KI) sb A0p c0p p0) (hH : Hp sb s F0 s []) (r : Bool) (H : impl_areShort.f p0 = some r) : GCall Try.prog 99 #[.slice A0p p0.length c0p] s (impl_areShort.post sb s F0 r) := by
  refine GCall_ofk [.tmp 2] [.slice A0p p0.length c0p, undef, undef, undef, undef, undef] Try.func99 rfl rfl rfl ?_
  intro w Q hQr hQn hQp
  replace H := topE H
  unfold impl_areShort.f at H
  refine HT_seq_k ?_
  intro K1 hK1
  refine HT_region ?_
  refine HL_cons rfl ?_
  refine o_assign ?_
  try dsimp only [putL, setL, evL, getL]
  refine HL_nil ?_
  refine hK1 _ _ ?_
  refine HT_seq_k ?_
  intro K2 hK2
  refine HT_region ?_
  refine HL_cons rfl ?_
  refine o_move ?_
  try dsimp only [putL, setL, evL, getL]
  replace H := headE H
  obtain ⟨u3, hu3, H⟩ := H
  refine HL_cons rfl ?_
  refine o_call (args := #[.slice A0p p0.length c0p, .func (.func 181) #[] #[]]) Try.func180 rfl rfl rfl (slices_ContainsFunc_int_int_impl_areShort_1.ok sb s no A0p c0p p0 HRp0 (Hp.own hH.bs) _ hu3) ?_
  rintro _ s3 ⟨rfl, hD⟩
  replace hH := hH.back0 hD (Up.refl _ _ _)
  clear hD
  dsimp only [addC, setC, rmC, selC, getC] at hH
  try dsimp only [putL, setL, evL, getL]
  refine HL_cons rfl ?_
  refine o_not rfl ?_
  try dsimp only [putL, setL, evL, getL]
  refine HL_cons rfl ?_
  refine o_assign ?_
  try dsimp only [putL, setL, evL, getL]
  refine HL_nil ?_
  refine hK2 _ _ ?_
  refine HT_ret ?_
  exact hQr _ _ [.bool (!u3)] ⟨rfl, trivial⟩ (retH (fun r => impl_areShort.post sb s F0 r _ _) (show some _ = some r from H) ⟨rfl, hH⟩)
def impl_firstRow.l1 (p0 : Int) : Nat → (List (Int)) → Int → Option (List (Int))
  | 0, _, _ => none
  | kf + 1, x41, x42 => if (decide (x42 < (IntKind.i64.wrap (p0 + 1)))) = true then ((app? 17592186044416 x41 [x42]).bind fun x59 => impl_firstRow.l1 p0 kf x59 (IntKind.i64.wrap (x42 + 1))) else (some x41)
def impl_firstRow.f (p0 : Int) : Option (List (Int)) := (impl_firstRow.l1 p0 (((IntKind.i64.wrap (p0 + 1)) - (0)).toNat + 2) ([] : List (Int)) 0).bind fun (o : (List (Int))) => match o with | x33 => (some x33)
def impl_firstRow.post (sb s : St) (F0 : Fp) (r : (List (Int))) : Value → St → Prop := fun v s' => ∃ (A0 : Option Addr) (c0 : Nat), v = .slice A0 r.length c0 ∧ Hp sb s F0 s' [Ck.ol OI 3 A0 c0 r]
set_option maxRecDepth 100000 in
set_option maxHeartbeats 4000000 in
theorem impl_firstRow.ok (sb s : St) (F0 : Fp) (p0 : Int) (hH : Hp sb s F0 s []) (r : (List (Int))) (H : impl_firstRow.f p0 = some r) : GCall Try.prog 106 #[.int .i64 p0] s (impl_firstRow.post sb s F0 r) := by
  refine GCall_ofk [.tmp 2] [.int .i64 p0, undef, undef, undef, undef, undef, undef, undef, undef, undef, undef, undef, undef, undef, undef, undef, undef] Try.func106 rfl rfl rfl ?_
  intro w Q hQr hQn hQp
  replace H := topE H
  unfold impl_firstRow.f at H
  refine HT_seq_k ?_
  intro K1 hK1
  refine HT_region ?_
  refine HL_cons rfl ?_
  refine o_assign ?_
  try dsimp only [putL, setL, evL, getL]
  refine HL_nil ?_
  refine hK1 _ _ ?_
  refine HT_seq_k ?_
  intro K2 hK2
  refine HT_region ?_
  refine HL_cons rfl ?_
  refine o_lit0H (α := Int) (K := KI) (O := OI) hH Try.underlying24 tI3 ?_
  intro A3 s3 hH' hG
  replace hH : Hp sb s F0 s3 [Ck.ol OI 3 A3 0 ([] : List (Int))] := hH'
  clear hH' hG
  try dsimp only [putL, setL, evL, getL]
  refine HL_cons rfl ?_
  refine o_assign ?_
  try dsimp only [putL, setL, evL, getL]
  refine HL_nil ?_
  refine hK2 _ _ ?_
  refine HT_seq_k ?_
  intro K4 hK4
  refine HT_seq_k ?_
  intro K5 hK5
  refine HT_region ?_
  refine HL_cons rfl ?_
  refine o_move ?_
  try dsimp only [putL, setL, evL, getL]
  refine HL_cons rfl ?_
  refine o_bin rfl rfl rfl ?_
  try dsimp only [putL, setL, evL, getL]
  refine HL_cons rfl ?_
  refine o_move ?_
  try dsimp only [putL, setL, evL, getL]
  refine HL_nil ?_
  refine hK5 _ _ ?_
  refine joinH H fun G6 hG6 H => ?_
  refine HT_toK (fun l' s' => ∃ (x33 : List (Int)) (A33 : Option Addr) (c33 : Nat), G6 x33 = some r ∧ l' = [.int .i64 p0, undef, .slice none 0 0, .slice A33 x33.length c33, getL l' 4, .slice A3 ([] : List (Int)).length 0, .int .i64 p0, .int .i64 (IntKind.i64.wrap (p0 + 1)), getL l' 8, getL l' 9, getL l' 10, getL l' 11, getL l' 12, getL l' 13, getL l' 14, getL l' 15, undef] ∧ Hp sb s F0 s' [Ck.ol OI 3 A33 c33 x33]) ?_ ?_
  · intro K6 hK6
    refine HT_block ?_
    refine HT_loopK (fun kf l' s' => ∃ (x41 : List (Int)) (A41 : Option Addr) (c41 : Nat) (x42 : Int), (impl_firstRow.l1 p0 kf x41 x42).bind G6 = some r ∧ l' = [.int .i64 p0, undef, .slice none 0 0, .slice A41 x41.length c41, getL l' 4, .slice A3 ([] : List (Int)).length 0, .int .i64 p0, .int .i64 (IntKind.i64.wrap (p0 + 1)), .int .i64 x42, getL l' 9, getL l' 10, getL l' 11, getL l' 12, getL l' 13, getL l' 14, getL l' 15, undef] ∧ Hp sb s F0 s' [Ck.ol OI 3 A41 c41 x41]) (((IntKind.i64.wrap (p0 + 1)) - (0)).toNat + 2) ⟨([] : List (Int)), A3, 0, 0, H, rfl, hH⟩ ?_
    rintro kf l' s52 ⟨x41, A41, c41, x42, H, hl, hH⟩ K52 hK52
    generalize getL l' 4 = j4, getL l' 9 = j9, getL l' 10 = j10, getL l' 11 = j11, getL l' 12 = j12, getL l' 13 = j13, getL l' 14 = j14, getL l' 15 = j15 at hl
    subst hl
    cases kf with
    | zero => simp [impl_firstRow.l1] at H
    | succ kf =>
      rw [impl_firstRow.l1] at H
      refine HT_seq_k ?_
      intro K53 hK53
      refine HT_region ?_
      refine HL_cons rfl ?_
      refine o_bin rfl rfl rfl ?_
      try dsimp only [putL, setL, evL, getL]
      refine HL_nil ?_
      refine hK53 _ _ ?_
      refine HT_seq_k ?_
      intro K54 hK54
      rcases Bool.eq_false_or_eq_true (decide (x42 < (IntKind.i64.wrap (p0 + 1)))) with hb55 | hb55
      · replace H := iteT hb55 H
        refine HT_true (congrArg Value.bool hb55) ?_
        refine HT_skip ?_
        refine hK54 _ _ ?_
        refine HT_seq_k ?_
        intro K56 hK56
        refine HT_block ?_
        refine HT_seq_k ?_
        intro K57 hK57
        refine HT_region ?_
        refine HL_cons rfl ?_
        refine o_move ?_
        try dsimp only [putL, setL, evL, getL]
        refine HL_cons rfl ?_
        refine o_assign ?_
        try dsimp only [putL, setL, evL, getL]
        refine HL_nil ?_
        refine hK57 _ _ ?_
        refine HT_region ?_
        refine HL_cons rfl ?_
        refine o_move ?_
        try dsimp only [putL, setL, evL, getL]
        refine HL_cons rfl ?_
        refine o_move ?_
        try dsimp only [putL, setL, evL, getL]
        refine HL_cons rfl ?_
        refine o_litF (K := KI) (O := OI) (ca := #[.int .i64 x42]) [[.int .i64 x42]] [x42] hH Try.underlying24 tI3 rfl (by decide) rfl rfl (by kernel_rfl) rfl ⟨rfl, Ent.own (Ent.flat rfl), trivial⟩ ?_
        intro A58 s58 hH' hG
        replace hH : Hp sb s F0 s58 [Ck.ol OI 3 A41 c41 x41, Ck.ol OI 3 A58 1 [x42]] := hH'
        clear hH' hG
        try dsimp only [putL, setL, evL, getL]
        replace H := headE H
        obtain ⟨x59, hx59, H⟩ := H
        refine HL_cons rfl ?_
        refine o_appF (K := KI) (n := 17592186044416) (A := A41) (c := c41) (xs := x41) (ys := [x42]) (B := A58) (c2 := 1) hH 0 rfl rfl rfl rfl Try.underlying24 tI3 rfl (by decide) (by decide) (by decide) (Src.flat (hH.rd 1 rfl)) hx59 ?_
        intro A59 c59 s59 hH'
        replace hH : Hp sb s F0 s59 [Ck.ol OI 3 A59 c59 x59, Ck.ol OI 3 A58 1 [x42]] := hH'
        clear hH'
        try dsimp only [putL, setL, evL, getL]
        refine HL_cons rfl ?_
        refine o_assign ?_
        try dsimp only [putL, setL, evL, getL]
        refine HL_nil ?_
        refine hK56 _ _ ?_
        refine HT_region ?_
        refine HL_cons rfl ?_
        refine o_bin rfl rfl rfl ?_
        try dsimp only [putL, setL, evL, getL]
        refine HL_cons rfl ?_
        refine o_move ?_
        try dsimp only [putL, setL, evL, getL]
        refine HL_nil ?_
        exact hK52 _ _ ⟨kf, Nat.lt_succ_self kf, x59, A59, c59, IntKind.i64.wrap (x42 + 1), H, rfl, hH.sel [0] (by decide)⟩
      · replace H := iteF hb55 H
        refine HT_false (congrArg Value.bool hb55) ?_
        refine HT_exit ?_
        exact hK6 _ _ ⟨x41, A41, c41, H, rfl, hH⟩
  · rintro l' s60 ⟨x33, A33, c33, H, hl, hH⟩
    generalize getL l' 4 = j4, getL l' 8 = j8, getL l' 9 = j9, getL l' 10 = j10, getL l' 11 = j11, getL l' 12 = j12, getL l' 13 = j13, getL l' 14 = j14, getL l' 15 = j15 at hl
    subst hl
    replace H := hG6 _ H
    try dsimp only at H
    refine hK4 _ _ ?_
    refine HT_seq_k ?_
    intro K61 hK61
    refine HT_region ?_
    refine HL_cons rfl ?_
    refine o_move ?_
    try dsimp only [putL, setL, evL, getL]
    refine HL_cons rfl ?_
    refine o_assign ?_
    try dsimp only [putL, setL, evL, getL]
    refine HL_nil ?_
    refine hK61 _ _ ?_
    refine HT_ret ?_
    exact hQr _ _ [.slice A33 x33.length c33] ⟨rfl, trivial⟩ (retH (fun r => impl_firstRow.post sb s F0 r _ _) (show some _ = some r from H) ⟨A33, c33, rfl, hH⟩)
def impl_nextRow.l1 (p0 : List (Int)) (p1 : Int) (p2 : List (Int)) : Nat → (List (Int)) → Int → Option (List (Int))
  | 0, _, _ => none
  | kf + 1, x154, x155 => if (decide (x155 < (p2.length : Int))) = true then ((rd? p2 x155).bind fun u215 => (rd? p0 x155).bind fun u217 => (if (u215 != p1) = true then (some (IntKind.i64.wrap (u217 + 1))) else (some u217)).bind fun (o : Int) => match o with | x221 => ((rd? p0 (IntKind.i64.wrap (x155 + 1))).bind fun u225 => (rd? x154 x155).bind fun u226 => (app? 17592186044416 x154 [min x221 (min (IntKind.i64.wrap (u225 + 1)) (IntKind.i64.wrap (u226 + 1)))]).bind fun x228 => impl_nextRow.l1 p0 p1 p2 kf x228 (IntKind.i64.wrap (x155 + 1)))) else (some x154)
def impl_nextRow.f (p0 : List (Int)) (p1 : Int) (p2 : List (Int)) : Option (List (Int)) := (rd? p0 0).bind fun u3 => (impl_nextRow.l1 p0 p1 p2 ((((p2.length : Int)) - (0)).toNat + 2) [IntKind.i64.wrap (u3 + 1)] 0).bind fun (o : (List (Int))) => match o with | x118 => (some x118)
def impl_nextRow.post (sb s : St) (F0 : Fp) (r : (List (Int))) : Value → St → Prop := fun v s' => ∃ (A0 : Option Addr) (c0 : Nat), v = .slice A0 r.length c0 ∧ Hp sb s F0 s' [Ck.ol OI 3 A0 c0 r]
set_option maxRecDepth 100000 in
set_option maxHeartbeats 4000000 in
theorem impl_nextRow.ok (sb s : St) (F0 : Fp) (A0p : Option Addr) (c0p : Nat) (p0 : List (Int)) (p1 : Int) (A2p : Option Addr) (c2p : Nat) (p2 : List (Int)) (HRp0 : Rd KI sb A0p c0p p0) (HRp2 : Rd KI sb A2p c2p p2) (hH : Hp sb s F0 s []) (r : (List (Int))) (H : impl_nextRow.f p0 p1 p2 = some r) : GCall Try.prog 107 #[.slice A0p p0.length c0p, .int .i64 p1, .slice A2p p2.length c2p] s (impl_nextRow.post sb s F0 r) := by
  refine GCall_ofk [.tmp 6] [.slice A0p p0.length c0p, .int .i64 p1, .slice A2p p2.length c2p, undef, undef, undef, undef, undef, undef, undef, undef, undef, undef, undef, undef, undef, undef, undef, undef, undef, undef, undef, undef, undef, undef, undef, undef, undef, undef, undef, undef, undef, undef, undef, undef, undef, undef, undef, undef, undef, undef, undef, undef, undef, undef, undef, undef, undef, undef, undef] Try.func107 rfl rfl rfl ?_
  intro w Q hQr hQn hQp
  replace H := topE H
  unfold impl_nextRow.f at H
  refine HT_seq_k ?_
  intro K1 hK1
  refine HT_region ?_
  refine HL_cons rfl ?_
  refine o_assign ?_
  try dsimp only [putL, setL, evL, getL]
  refine HL_nil ?_
  refine hK1 _ _ ?_
  refine HT_seq_k ?_
  intro K2 hK2
  refine HT_region ?_
  refine HL_cons rfl ?_
  refine o_move ?_
  try dsimp only [putL, setL, evL, getL]
  replace H := headE H
  obtain ⟨u3, hu3, H⟩ := H
  obtain ⟨b3, o3, cs3, hr3, hh3, hel3⟩ := Rd.elb HRp0 hu3
  obtain rfl := hr3
  refine HL_cons rfl ?_
  refine hel3 s rfl rfl Try.underlying24 tI3 ?_
  try dsimp only [putL, setL, evL, getL]
  refine HL_cons rfl ?_
  refine o_load' rfl Try.underlying3 rfl ((hh3 hH.bs.mono) 0 _ rfl) ?_
  try dsimp only [putL, setL, evL, getL]
  refine HL_cons rfl ?_
  refine o_bin rfl rfl rfl ?_
  try dsimp only [putL, setL, evL, getL]
  refine HL_cons rfl ?_
  refine o_litF (K := KI) (O := OI) (ca := #[.int .i64 (IntKind.i64.wrap (u3 + 1))]) [[.int .i64 (IntKind.i64.wrap (u3 + 1))]] [IntKind.i64.wrap (u3 + 1)] hH Try.underlying24 tI3 rfl (by decide) rfl rfl (by kernel_rfl) rfl ⟨rfl, Ent.own (Ent.flat rfl), trivial⟩ ?_
  intro A4 s4 hH' hG
  replace hH : Hp sb s F0 s4 [Ck.ol OI 3 A4 1 [IntKind.i64.wrap (u3 + 1)]] := hH'
  clear hH' hG
  try dsimp only [putL, setL, evL, getL]
  refine HL_cons rfl ?_
  refine o_assign ?_
  try dsimp only [putL, setL, evL, getL]
  refine HL_nil ?_
  refine hK2 _ _ ?_
  refine HT_seq_k ?_
  intro K5 hK5
  refine HT_seq_k ?_
  intro K6 hK6
  refine HT_region ?_
  refine HL_cons rfl ?_
  refine o_move ?_
  try dsimp only [putL, setL, evL, getL]
  refine HL_cons rfl ?_
  refine o_len rfl Try.underlying24 ?_
  try dsimp only [putL, setL, evL, getL]
  refine HL_cons rfl ?_
  refine o_move ?_
  try dsimp only [putL, setL, evL, getL]
  refine HL_nil ?_
  refine hK6 _ _ ?_
  refine joinH H fun G7 hG7 H => ?_
  refine HT_toK (fun l' s' => ∃ (x118 : List (Int)) (A118 : Option Addr) (c118 : Nat), G7 x118 = some r ∧ l' = [.slice A0p p0.length c0p, .int .i64 p1, .slice A2p p2.length c2p, undef, undef, undef, .slice none 0 0, .slice A118 x118.length c118, getL l' 8, getL l' 9, getL l' 10, .slice A0p p0.length c0p, .pointer (some ⟨b3, o3, none⟩), .int .i64 u3, .int .i64 (IntKind.i64.wrap (u3 + 1)), .slice A4 [IntKind.i64.wrap (u3 + 1)].length 1, .slice A2p p2.length c2p, .int .i64 (p2.length : Int), getL l' 18, getL l' 19, getL l' 20, getL l' 21, getL l' 22, getL l' 23, getL l' 24, getL l' 25, getL l' 26, getL l' 27, getL l' 28, getL l' 29, getL l' 30, getL l' 31, getL l' 32, getL l' 33, getL l' 34, getL l' 35, getL l' 36, getL l' 37, getL l' 38, getL l' 39, getL l' 40, getL l' 41, getL l' 42, getL l' 43, getL l' 44, getL l' 45, getL l' 46, getL l' 47, getL l' 48, undef] ∧ Hp sb s F0 s' [Ck.ol OI 3 A118 c118 x118]) ?_ ?_
  · intro K7 hK7
    refine HT_block ?_
    refine HT_loopK (fun kf l' s' => ∃ (x154 : List (Int)) (A154 : Option Addr) (c154 : Nat) (x155 : Int), (impl_nextRow.l1 p0 p1 p2 kf x154 x155).bind G7 = some r ∧ l' = [.slice A0p p0.length c0p, .int .i64 p1, .slice A2p p2.length c2p, undef, undef, undef, .slice none 0 0, .slice A154 x154.length c154, getL l' 8, getL l' 9, getL l' 10, .slice A0p p0.length c0p, .pointer (some ⟨b3, o3, none⟩), .int .i64 u3, .int .i64 (IntKind.i64.wrap (u3 + 1)), .slice A4 [IntKind.i64.wrap (u3 + 1)].length 1, .slice A2p p2.length c2p, .int .i64 (p2.length : Int), .int .i64 x155, getL l' 19, getL l' 20, getL l' 21, getL l' 22, getL l' 23, getL l' 24, getL l' 25, getL l' 26, getL l' 27, getL l' 28, getL l' 29, getL l' 30, getL l' 31, getL l' 32, getL l' 33, getL l' 34, getL l' 35, getL l' 36, getL l' 37, getL l' 38, getL l' 39, getL l' 40, getL l' 41, getL l' 42, getL l' 43, getL l' 44, getL l' 45, getL l' 46, getL l' 47, getL l' 48, undef] ∧ Hp sb s F0 s' [Ck.ol OI 3 A154 c154 x154]) ((((p2.length : Int)) - (0)).toNat + 2) ⟨[IntKind.i64.wrap (u3 + 1)], A4, 1, 0, H, rfl, hH⟩ ?_
    rintro kf l' s193 ⟨x154, A154, c154, x155, H, hl, hH⟩ K193 hK193
    generalize getL l' 8 = j8, getL l' 9 = j9, getL l' 10 = j10, getL l' 19 = j19, getL l' 20 = j20, getL l' 21 = j21, getL l' 22 = j22, getL l' 23 = j23, getL l' 24 = j24, getL l' 25 = j25, getL l' 26 = j26, getL l' 27 = j27, getL l' 28 = j28, getL l' 29 = j29, getL l' 30 = j30, getL l' 31 = j31, getL l' 32 = j32, getL l' 33 = j33, getL l' 34 = j34, getL l' 35 = j35, getL l' 36 = j36, getL l' 37 = j37, getL l' 38 = j38, getL l' 39 = j39, getL l' 40 = j40, getL l' 41 = j41, getL l' 42 = j42, getL l' 43 = j43, getL l' 44 = j44, getL l' 45 = j45, getL l' 46 = j46, getL l' 47 = j47, getL l' 48 = j48 at hl
    subst hl
    cases kf with
    | zero => simp [impl_nextRow.l1] at H
    | succ kf =>
      rw [impl_nextRow.l1] at H
      refine HT_seq_k ?_
      intro K194 hK194
      refine HT_region ?_
      refine HL_cons rfl ?_
      refine o_bin rfl rfl rfl ?_
      try dsimp only [putL, setL, evL, getL]
      refine HL_nil ?_
      refine hK194 _ _ ?_
      refine HT_seq_k ?_
      intro K195 hK195
      rcases Bool.eq_false_or_eq_true (decide (x155 < (p2.length : Int))) with hb196 | hb196
      · replace H := iteT hb196 H
        refine HT_true (congrArg Value.bool hb196) ?_
        refine HT_skip ?_
        refine hK195 _ _ ?_
        refine HT_seq_k ?_
        intro K213 hK213
        refine HT_block ?_
        refine HT_seq_k ?_
        intro K214 hK214
        refine HT_region ?_
        refine HL_cons rfl ?_
        refine o_move ?_
        try dsimp only [putL, setL, evL, getL]
        replace H := headE H
        obtain ⟨u215, hu215, H⟩ := H
        obtain ⟨b215, o215, cs215, hr215, hh215, hel215⟩ := Rd.elb HRp2 hu215
        obtain rfl := hr215
        refine HL_cons rfl ?_
        refine hel215 s193 rfl rfl Try.underlying24 tI3 ?_
        try dsimp only [putL, setL, evL, getL]
        refine HL_cons rfl ?_
        refine o_load' rfl Try.underlying3 rfl ((hh215 hH.bs.mono) 0 _ rfl) ?_
        try dsimp only [putL, setL, evL, getL]
        refine HL_cons rfl ?_
        refine o_assign ?_
        try dsimp only [putL, setL, evL, getL]
        refine HL_cons rfl ?_
        refine o_assign ?_
        try dsimp only [putL, setL, evL, getL]
        refine HL_nil ?_
        refine hK214 _ _ ?_
        refine HT_seq_k ?_
        intro K216 hK216
        refine HT_region ?_
        refine HL_cons rfl ?_
        refine o_move ?_
        try dsimp only [putL, setL, evL, getL]
        refine HL_cons rfl ?_
        refine o_move ?_
        try dsimp only [putL, setL, evL, getL]
        replace H := headE H
        obtain ⟨u217, hu217, H⟩ := H
        obtain ⟨b217, o217, cs217, hr217, hh217, hel217⟩ := Rd.elb HRp0 hu217
        obtain rfl := hr217
        refine HL_cons rfl ?_
        refine hel217 s193 rfl rfl Try.underlying24 tI3 ?_
        try dsimp only [putL, setL, evL, getL]
        refine HL_cons rfl ?_
        refine o_load' rfl Try.underlying3 rfl ((hh217 hH.bs.mono) 0 _ rfl) ?_
        try dsimp only [putL, setL, evL, getL]
        refine HL_cons rfl ?_
        refine o_assign ?_
        try dsimp only [putL, setL, evL, getL]
        refine HL_nil ?_
        refine hK216 _ _ ?_
        refine joinH H fun G218 hG218 H => ?_
        refine HT_joinK (fun l' s' => ∃ (x221 : Int), G218 x221 = some r ∧ l' = [.slice A0p p0.length c0p, .int .i64 p1, .slice A2p p2.length c2p, undef, undef, undef, .slice none 0 0, .slice A154 x154.length c154, .int .i64 x155, .int .i64 u215, .int .i64 x221, .slice A0p p0.length c0p, .pointer (some ⟨b3, o3, none⟩), .int .i64 u3, .int .i64 (IntKind.i64.wrap (u3 + 1)), .slice A4 [IntKind.i64.wrap (u3 + 1)].length 1, .slice A2p p2.length c2p, .int .i64 (p2.length : Int), .int .i64 x155, .bool (decide (x155 < (p2.length : Int))), .int .i64 x155, .pointer (some ⟨b215, o215, none⟩), .int .i64 u215, .slice A0p p0.length c0p, .int .i64 x155, .pointer (some ⟨b217, o217, none⟩), .int .i64 u217, getL l' 27, getL l' 28, getL l' 29, getL l' 30, getL l' 31, j32, j33, j34, j35, j36, j37, j38, j39, j40, j41, j42, j43, j44, j45, j46, j47, j48, undef] ∧ Hp sb s F0 s' [Ck.ol OI 3 A154 c154 x154]) ?_ ?_
        · intro K218 hK218
          refine HT_seq_k ?_
          intro K222 hK222
          refine HT_region ?_
          refine HL_cons rfl ?_
          refine o_move ?_
          try dsimp only [putL, setL, evL, getL]
          refine HL_cons rfl ?_
          refine o_move ?_
          try dsimp only [putL, setL, evL, getL]
          refine HL_cons rfl ?_
          refine o_bin rfl rfl rfl ?_
          try dsimp only [putL, setL, evL, getL]
          refine HL_nil ?_
          refine hK222 _ _ ?_
          rcases Bool.eq_false_or_eq_true (u215 != p1) with hb223 | hb223
          · replace H := iteT hb223 H
            refine HT_true (congrArg Value.bool hb223) ?_
            refine HT_region ?_
            refine HL_cons rfl ?_
            refine o_move ?_
            try dsimp only [putL, setL, evL, getL]
            refine HL_cons rfl ?_
            refine o_bin rfl rfl rfl ?_
            try dsimp only [putL, setL, evL, getL]
            refine HL_cons rfl ?_
            refine o_assign ?_
            try dsimp only [putL, setL, evL, getL]
            refine HL_nil ?_
            exact hK218 _ _ ⟨IntKind.i64.wrap (u217 + 1), H, rfl, hH⟩
          · replace H := iteF hb223 H
            refine HT_false (congrArg Value.bool hb223) ?_
            refine HT_skip ?_
            exact hK218 _ _ ⟨u217, H, rfl, hH⟩
        · rintro l' s224 ⟨x221, H, hl, hH⟩
          generalize getL l' 27 = j27, getL l' 28 = j28, getL l' 29 = j29, getL l' 30 = j30, getL l' 31 = j31 at hl
          subst hl
          replace H := hG218 _ H
          try dsimp only at H
          refine HX_draw hMix ?_
          refine HX_lim (R := fun _ => True) (k := 0) (fun s' => Gro s224 s') 15 ?_
          have hR := Gro.refl s224
          have hH0 := hH
          refine HK_readP 0 (v := .slice A154 x154.length c154) rfl (by kernel_rfl) (fun c l s h => hQp c l s h) rfl (fun s' K hK => ?_) rfl rfl (fun _ => hR) ?_
          · refine o_move ?_
            exact hK
          try dsimp only [putL, setL, evL, getL]
          refine HK_readP 1 (v := .int .i64 x221) rfl (by kernel_rfl) (fun c l s h => hQp c l s h) rfl (fun s' K hK => ?_) rfl rfl (fun _ => hR) ?_
          · refine o_move ?_
            exact hK
          try dsimp only [putL, setL, evL, getL]
          refine HK_readP 2 (v := .slice A0p p0.length c0p) rfl (by kernel_rfl) (fun c l s h => hQp c l s h) rfl (fun s' K hK => ?_) rfl rfl (fun _ => hR) ?_
          · refine o_move ?_
            exact hK
          try dsimp only [putL, setL, evL, getL]
          refine HK_readP 3 (v := .int .i64 x155) rfl (by kernel_rfl) (fun c l s h => hQp c l s h) rfl (fun s' K hK => ?_) rfl rfl (fun _ => hR) ?_
          · refine o_move ?_
            exact hK
          try dsimp only [putL, setL, evL, getL]
          refine HK_readP 4 (v := .int .i64 (IntKind.i64.wrap (x155 + 1))) rfl (by kernel_rfl) (fun c l s h => hQp c l s h) rfl (fun s' K hK => ?_) rfl rfl (fun _ => hR) ?_
          · refine o_bin rfl rfl rfl ?_
            exact hK
          try dsimp only [putL, setL, evL, getL]
          replace H := headE H
          obtain ⟨u225, hu225, H⟩ := H
          obtain ⟨b225, o225, cs225, hr225, hh225, hel225⟩ := Rd.elb HRp0 hu225
          obtain rfl := hr225
          refine HK_readP 5 (v := .pointer (some ⟨b225, o225, none⟩)) rfl (by kernel_rfl) (fun c l s h => hQp c l s h) rfl (fun s' K hK => ?_) rfl rfl (fun _ => hR) ?_
          · refine hel225 s' rfl rfl Try.underlying24 tI3 ?_
            exact hK
          try dsimp only [putL, setL, evL, getL]
          refine HK_read 6 (v := .int .i64 u225) rfl (by kernel_rfl) (fun c l s h => hQp c l s h) rfl (fun s' hR' K hK => ?_) rfl rfl hR ?_
          · refine o_load' rfl Try.underlying3 rfl ((hh225 (hH0.bs.mono.trans hR'.mono)) 0 _ rfl) ?_
            exact hK
          try dsimp only [putL, setL, evL, getL]
          refine HK_readP 7 (v := .int .i64 (IntKind.i64.wrap (u225 + 1))) rfl (by kernel_rfl) (fun c l s h => hQp c l s h) rfl (fun s' K hK => ?_) rfl rfl (fun _ => hR) ?_
          · refine o_bin rfl rfl rfl ?_
            exact hK
          try dsimp only [putL, setL, evL, getL]
          refine HK_readP 8 (v := .slice A154 x154.length c154) rfl (by kernel_rfl) (fun c l s h => hQp c l s h) rfl (fun s' K hK => ?_) rfl rfl (fun _ => hR) ?_
          · refine o_move ?_
            exact hK
          try dsimp only [putL, setL, evL, getL]
          refine HK_readP 9 (v := .int .i64 x155) rfl (by kernel_rfl) (fun c l s h => hQp c l s h) rfl (fun s' K hK => ?_) rfl rfl (fun _ => hR) ?_
          · refine o_move ?_
            exact hK
          try dsimp only [putL, setL, evL, getL]
          replace H := headE H
          obtain ⟨u226, hu226, H⟩ := H
          obtain ⟨b226, o226, cs226, hA226, hr226, hh226, hel226⟩ := hH0.elo 0 rfl hu226
          obtain rfl := hr226
          refine HK_readP 10 (v := .pointer (some ⟨b226, o226 + Int.toNat x155 * Kd.sz KI, none⟩)) rfl (by kernel_rfl) (fun c l s h => hQp c l s h) rfl (fun s' K hK => ?_) rfl rfl (fun _ => hR) ?_
          · refine hel226 s' rfl rfl Try.underlying24 tI3 ?_
            exact hK
          try dsimp only [putL, setL, evL, getL]
          refine HK_read 11 (v := .int .i64 u226) rfl (by kernel_rfl) (fun c l s h => hQp c l s h) rfl (fun s' hR' K hK => ?_) rfl rfl hR ?_
          · refine o_load' rfl Try.underlying3 rfl (has_gro hR' (hh226 0 _ rfl)) ?_
            exact hK
          try dsimp only [putL, setL, evL, getL]
          refine HK_readP 12 (v := .int .i64 (IntKind.i64.wrap (u226 + 1))) rfl (by kernel_rfl) (fun c l s h => hQp c l s h) rfl (fun s' K hK => ?_) rfl rfl (fun _ => hR) ?_
          · refine o_bin rfl rfl rfl ?_
            exact hK
          try dsimp only [putL, setL, evL, getL]
          refine HK_readP 13 (v := .int .i64 (min x221 (min (IntKind.i64.wrap (u225 + 1)) (IntKind.i64.wrap (u226 + 1))))) rfl (by kernel_rfl) (fun c l s h => hQp c l s h) rfl (fun s' K hK => ?_) rfl rfl (fun _ => hR) ?_
          · refine o_min3 rfl rfl rfl ?_
            exact hK
          try dsimp only [putL, setL, evL, getL]
          refine HK_more [14] (by kernel_rfl) rfl (fun _ => hR) ⟨⟨_, rfl, Or.inl ⟨rfl, ?_⟩⟩, trivial⟩
          skip
          refine o_litF (K := KI) (O := OI) (ca := #[.int .i64 (min x221 (min (IntKind.i64.wrap (u225 + 1)) (IntKind.i64.wrap (u226 + 1))))]) [[.int .i64 (min x221 (min (IntKind.i64.wrap (u225 + 1)) (IntKind.i64.wrap (u226 + 1))))]] [min x221 (min (IntKind.i64.wrap (u225 + 1)) (IntKind.i64.wrap (u226 + 1)))] hH Try.underlying24 tI3 rfl (by decide) rfl rfl (by kernel_rfl) rfl ⟨rfl, Ent.own (Ent.flat rfl), trivial⟩ ?_
          intro A227 s227 hH' hG
          replace hR := hR.trans hG
          replace hH : Hp sb s F0 s227 [Ck.ol OI 3 A154 c154 x154, Ck.ol OI 3 A227 1 [min x221 (min (IntKind.i64.wrap (u225 + 1)) (IntKind.i64.wrap (u226 + 1)))]] := hH'
          clear hH' hG
          try dsimp only [putL, setL, evL, getL]
          refine HK_more [15] (by kernel_rfl) rfl (fun _ => hR) ⟨⟨_, rfl, Or.inl ⟨rfl, ?_⟩⟩, trivial⟩
          replace H := headE H
          obtain ⟨x228, hx228, H⟩ := H
          skip
          refine o_appF (K := KI) (n := 17592186044416) (A := A154) (c := c154) (xs := x154) (ys := [min x221 (min (IntKind.i64.wrap (u225 + 1)) (IntKind.i64.wrap (u226 + 1)))]) (B := A227) (c2 := 1) hH 0 rfl rfl rfl rfl Try.underlying24 tI3 rfl (by decide) (by decide) (by decide) (Src.flat (hH.rd 1 rfl)) hx228 ?_
          intro A228 c228 s228 hH'
          replace hH : Hp sb s F0 s228 [Ck.ol OI 3 A228 c228 x228, Ck.ol OI 3 A227 1 [min x221 (min (IntKind.i64.wrap (u225 + 1)) (IntKind.i64.wrap (u226 + 1)))]] := hH'
          clear hH'
          try dsimp only [putL, setL, evL, getL]
          refine HK_free (by kernel_rfl) ?_
          refine HX_lim (R := fun _ => True) (k := 0) (fun s' => Gro s228 s') 18 ?_
          have hR := Gro.refl s228
          have hH0 := hH
          refine HK_more [16] (by kernel_rfl) rfl (fun _ => hR) ⟨⟨_, rfl, Or.inl ⟨rfl, ?_⟩⟩, trivial⟩
          skip
          refine o_assign ?_
          try dsimp only [putL, setL, evL, getL]
          refine HK_done (fun _ => hR) (by kernel_rfl) ?_
          refine hK213 _ _ ?_
          refine HT_region ?_
          refine HL_cons rfl ?_
          refine o_bin rfl rfl rfl ?_
          try dsimp only [putL, setL, evL, getL]
          refine HL_cons rfl ?_
          refine o_move ?_
          try dsimp only [putL, setL, evL, getL]
          refine HL_nil ?_
          exact hK193 _ _ ⟨kf, Nat.lt_succ_self kf, x228, A228, c228, IntKind.i64.wrap (x155 + 1), H, rfl, hH.sel [0] (by decide)⟩
      · replace H := iteF hb196 H
        refine HT_false (congrArg Value.bool hb196) ?_
        refine HT_exit ?_
        exact hK7 _ _ ⟨x154, A154, c154, H, rfl, hH⟩
  · rintro l' s229 ⟨x118, A118, c118, H, hl, hH⟩
    generalize getL l' 8 = j8, getL l' 9 = j9, getL l' 10 = j10, getL l' 18 = j18, getL l' 19 = j19, getL l' 20 = j20, getL l' 21 = j21, getL l' 22 = j22, getL l' 23 = j23, getL l' 24 = j24, getL l' 25 = j25, getL l' 26 = j26, getL l' 27 = j27, getL l' 28 = j28, getL l' 29 = j29, getL l' 30 = j30, getL l' 31 = j31, getL l' 32 = j32, getL l' 33 = j33, getL l' 34 = j34, getL l' 35 = j35, getL l' 36 = j36, getL l' 37 = j37, getL l' 38 = j38, getL l' 39 = j39, getL l' 40 = j40, getL l' 41 = j41, getL l' 42 = j42, getL l' 43 = j43, getL l' 44 = j44, getL l' 45 = j45, getL l' 46 = j46, getL l' 47 = j47, getL l' 48 = j48 at hl
    subst hl
    replace H := hG7 _ H
    try dsimp only at H
    refine hK5 _ _ ?_
    refine HT_seq_k ?_
    intro K230 hK230
    refine HT_region ?_
    refine HL_cons rfl ?_
    refine o_move ?_
    try dsimp only [putL, setL, evL, getL]
    refine HL_cons rfl ?_
    refine o_assign ?_
    try dsimp only [putL, setL, evL, getL]
    refine HL_nil ?_
    refine hK230 _ _ ?_
    refine HT_ret ?_
    exact hQr _ _ [.slice A118 x118.length c118] ⟨rfl, trivial⟩ (retH (fun r => impl_nextRow.post sb s F0 r _ _) (show some _ = some r from H) ⟨A118, c118, rfl, hH⟩)
def impl_distances.l1 (p0 : List (Int)) (p1 : List (Int)) : Nat → (List (Int)) → Int → Option (List (Int))
  | 0, _, _ => none
  | kf + 1, x46, x47 => if (decide (x47 < (p0.length : Int))) = true then ((rd? p0 x47).bind fun u64 => (impl_nextRow.f x46 u64 p1).bind fun u65 => impl_distances.l1 p0 p1 kf u65 (IntKind.i64.wrap (x47 + 1))) else (some x46)
def impl_distances.f (p0 : List (Int)) (p1 : List (Int)) : Option (List (Int)) := (impl_firstRow.f (p1.length : Int)).bind fun u3 => (impl_distances.l1 p0 p1 ((((p0.length : Int)) - (0)).toNat + 2) u3 0).bind fun (o : (List (Int))) => match o with | x37 => (some x37)
def impl_distances.post (sb s : St) (F0 : Fp) (r : (List (Int))) : Value → St → Prop := fun v s' => ∃ (A0 : Option Addr) (c0 : Nat), v = .slice A0 r.length c0 ∧ Hp sb s F0 s' [Ck.ol OI 3 A0 c0 r]
set_option maxRecDepth 100000 in
set_option maxHeartbeats 4000000 in
theorem impl_distances.ok (sb s : St) (F0 : Fp) (A0p : Option Addr) (c0p : Nat) (p0 : List (Int)) (A1p : Option Addr) (c1p : Nat) (p1 : List (Int)) (HRp0 : Rd KI sb A0p c0p p0) (HRp1 : Rd KI sb A1p c1p p1) (hH : Hp sb s F0 s []) (r : (List (Int))) (H : impl_distances.f p0 p1 = some r) : GCall Try.prog 100 #[.slice A0p p0.length c0p, .slice A1p p1.length c1p] s (impl_distances.post sb s F0 r) := by
  refine GCall_ofk [.tmp 4] [.slice A0p p0.length c0p, .slice A1p p1.length c1p, undef, undef, undef, undef, undef, undef, undef, undef, undef, undef, undef, undef, undef, undef, undef, undef, undef, undef, undef, undef, undef] Try.func100 rfl rfl rfl ?_
  intro w Q hQr hQn hQp
  replace H := topE H
  unfold impl_distances.f at H
  refine HT_seq_k ?_
  intro K1 hK1
  refine HT_region ?_
  refine HL_cons rfl ?_
  refine o_assign ?_
  try dsimp only [putL, setL, evL, getL]
  refine HL_nil ?_
  refine hK1 _ _ ?_
  refine HT_seq_k ?_
  intro K2 hK2
  refine HT_region ?_
  refine HL_cons rfl ?_
  refine o_move ?_
  try dsimp only [putL, setL, evL, getL]
  refine HL_cons rfl ?_
  refine o_len rfl Try.underlying24 ?_
  try dsimp only [putL, setL, evL, getL]
  replace H := headE H
  obtain ⟨u3, hu3, H⟩ := H
  refine HL_cons rfl ?_
  refine o_call (args := #[.int .i64 (p1.length : Int)]) Try.func106 rfl rfl rfl (impl_firstRow.ok sb s no (p1.length : Int) (Hp.own hH.bs) _ hu3) ?_
  rintro _ s3 ⟨A4, c4, rfl, hD⟩
  replace hH := hH.back0 hD (Up.refl _ _ _)
  clear hD
  dsimp only [addC, setC, rmC, selC, getC] at hH
  try dsimp only [putL, setL, evL, getL]
  refine HL_cons rfl ?_
  refine o_assign ?_
  try dsimp only [putL, setL, evL, getL]
  refine HL_nil ?_
  refine hK2 _ _ ?_
  refine HT_seq_k ?_
  intro K5 hK5
  refine HT_seq_k ?_
  intro K6 hK6
  refine HT_region ?_
  refine HL_cons rfl ?_
  refine o_move ?_
  try dsimp only [putL, setL, evL, getL]
  refine HL_cons rfl ?_
  refine o_len rfl Try.underlying24 ?_
  try dsimp only [putL, setL, evL, getL]
  refine HL_cons rfl ?_
  refine o_move ?_
  try dsimp only [putL, setL, evL, getL]
  refine HL_nil ?_
  refine hK6 _ _ ?_
  refine joinH H fun G7 hG7 H => ?_
  refine HT_toK (fun l' s' => ∃ (x37 : List (Int)) (A37 : Option Addr) (c37 : Nat), G7 x37 = some r ∧ l' = [.slice A0p p0.length c0p, .slice A1p p1.length c1p, undef, undef, .slice none 0 0, .slice A37 x37.length c37, undef, getL l' 7, .slice A1p p1.length c1p, .int .i64 (p1.length : Int), .slice A4 u3.length c4, .slice A0p p0.length c0p, .int .i64 (p0.length : Int), getL l' 13, getL l' 14, getL l' 15, getL l' 16, getL l' 17, getL l' 18, getL l' 19, getL l' 20, getL l' 21, undef] ∧ Hp sb s F0 s' [Ck.ol OI 3 A37 c37 x37]) ?_ ?_
  · intro K7 hK7
    refine HT_block ?_
    refine HT_loopK (fun kf l' s' => ∃ (x46 : List (Int)) (A46 : Option Addr) (c46 : Nat) (x47 : Int), (impl_distances.l1 p0 p1 kf x46 x47).bind G7 = some r ∧ l' = [.slice A0p p0.length c0p, .slice A1p p1.length c1p, undef, undef, .slice none 0 0, .slice A46 x46.length c46, undef, getL l' 7, .slice A1p p1.length c1p, .int .i64 (p1.length : Int), .slice A4 u3.length c4, .slice A0p p0.length c0p, .int .i64 (p0.length : Int), .int .i64 x47, getL l' 14, getL l' 15, getL l' 16, getL l' 17, getL l' 18, getL l' 19, getL l' 20, getL l' 21, undef] ∧ Hp sb s F0 s' [Ck.ol OI 3 A46 c46 x46]) ((((p0.length : Int)) - (0)).toNat + 2) ⟨u3, A4, c4, 0, H, rfl, hH⟩ ?_
    rintro kf l' s58 ⟨x46, A46, c46, x47, H, hl, hH⟩ K58 hK58
    generalize getL l' 7 = j7, getL l' 14 = j14, getL l' 15 = j15, getL l' 16 = j16, getL l' 17 = j17, getL l' 18 = j18, getL l' 19 = j19, getL l' 20 = j20, getL l' 21 = j21 at hl
    subst hl
    cases kf with
    | zero => simp [impl_distances.l1] at H
    | succ kf =>
      rw [impl_distances.l1] at H
      refine HT_seq_k ?_
      intro K59 hK59
      refine HT_region ?_
      refine HL_cons rfl ?_
      refine o_bin rfl rfl rfl ?_
      try dsimp only [putL, setL, evL, getL]
      refine HL_nil ?_
      refine hK59 _ _ ?_
      refine HT_seq_k ?_
      intro K60 hK60
      rcases Bool.eq_false_or_eq_true (decide (x47 < (p0.length : Int))) with hb61 | hb61
      · replace H := iteT hb61 H
        refine HT_true (congrArg Value.bool hb61) ?_
        refine HT_skip ?_
        refine hK60 _ _ ?_
        refine HT_seq_k ?_
        intro K62 hK62
        refine HT_block ?_
        refine HT_seq_k ?_
        intro K63 hK63
        refine HT_region ?_
        replace H := headE H
        obtain ⟨u64, hu64, H⟩ := H
        obtain ⟨b64, o64, cs64, hr64, hh64, hel64⟩ := Rd.elb HRp0 hu64
        obtain rfl := hr64
        refine HL_cons rfl ?_
        refine hel64 s58 rfl rfl Try.underlying24 tI3 ?_
        try dsimp only [putL, setL, evL, getL]
        refine HL_cons rfl ?_
        refine o_load' rfl Try.underlying3 rfl ((hh64 hH.bs.mono) 0 _ rfl) ?_
        try dsimp only [putL, setL, evL, getL]
        refine HL_cons rfl ?_
        refine o_assign ?_
        try dsimp only [putL, setL, evL, getL]
        refine HL_nil ?_
        refine hK63 _ _ ?_
        refine HT_region ?_
        refine HL_cons rfl ?_
        refine o_move ?_
        try dsimp only [putL, setL, evL, getL]
        refine HL_cons rfl ?_
        refine o_move ?_
        try dsimp only [putL, setL, evL, getL]
        refine HL_cons rfl ?_
        refine o_move ?_
        try dsimp only [putL, setL, evL, getL]
        replace H := headE H
        obtain ⟨u65, hu65, H⟩ := H
        refine HL_cons rfl ?_
        refine o_call (args := #[.slice A46 x46.length c46, .int .i64 u64, .slice A1p p1.length c1p]) Try.func107 rfl rfl rfl (impl_nextRow.ok s58 s58 no A46 c46 x46 u64 A1p c1p p1 (hH.rd 0 rfl) (HRp1.mono hH.bs.mono) (Hp.own (Bs.refl s58)) _ hu65) ?_
        rintro _ s65 ⟨A66, c66, rfl, hD⟩
        replace hH := hH.back0T hD
        clear hD
        dsimp only [addC, setC, rmC, selC, getC] at hH
        try dsimp only [putL, setL, evL, getL]
        refine HL_cons rfl ?_
        refine o_assign ?_
        try dsimp only [putL, setL, evL, getL]
        refine HL_nil ?_
        refine hK62 _ _ ?_
        refine HT_region ?_
        refine HL_cons rfl ?_
        refine o_bin rfl rfl rfl ?_
        try dsimp only [putL, setL, evL, getL]
        refine HL_cons rfl ?_
        refine o_move ?_
        try dsimp only [putL, setL, evL, getL]
        refine HL_nil ?_
        exact hK58 _ _ ⟨kf, Nat.lt_succ_self kf, u65, A66, c66, IntKind.i64.wrap (x47 + 1), H, rfl, hH.sel [1] (by decide)⟩
      · replace H := iteF hb61 H
        refine HT_false (congrArg Value.bool hb61) ?_
        refine HT_exit ?_
        exact hK7 _ _ ⟨x46, A46, c46, H, rfl, hH⟩
  · rintro l' s67 ⟨x37, A37, c37, H, hl, hH⟩
    generalize getL l' 7 = j7, getL l' 13 = j13, getL l' 14 = j14, getL l' 15 = j15, getL l' 16 = j16, getL l' 17 = j17, getL l' 18 = j18, getL l' 19 = j19, getL l' 20 = j20, getL l' 21 = j21 at hl
    subst hl
    replace H := hG7 _ H
    try dsimp only at H
    refine hK5 _ _ ?_
    refine HT_seq_k ?_
    intro K68 hK68
    refine HT_region ?_
    refine HL_cons rfl ?_
    refine o_move ?_
    try dsimp only [putL, setL, evL, getL]
    refine HL_cons rfl ?_
    refine o_assign ?_
    try dsimp only [putL, setL, evL, getL]
    refine HL_nil ?_
    refine hK68 _ _ ?_
    refine HT_ret ?_
    exact hQr _ _ [.slice A37 x37.length c37] ⟨rfl, trivial⟩ (retH (fun r => impl_distances.post sb s F0 r _ _) (show some _ = some r from H) ⟨A37, c37, rfl, hH⟩)
def impl_DistanceOf.f (p0 : List (Int)) (p1 : List (Int)) : Option (Int × Bool) := (impl_areShort.f [p0, p1]).bind fun u5 => if (!u5) = true then (some (0, false)) else ((impl_distances.f p0 p1).bind fun u9 => (rd? u9 (p1.length : Int)).bind fun u11 => some (u11, true))
def impl_DistanceOf.post (sb s : St) (F0 : Fp) (r : Int × Bool) : Value → St → Prop := fun v s' => v = .tuple #[.int .i64 r.1, .bool r.2] ∧ Hp sb s F0 s' []
set_option maxRecDepth 100000 in
set_option maxHeartbeats 4000000 in
theorem impl_DistanceOf.ok (sb s : St) (F0 : Fp) (A0p : Option Addr) (c0p : Nat) (p0 : List (Int)) (A1p : Option Addr) (c1p : Nat) (p1 : List (Int)) (HRp0 : Rd KI sb A0p c0p p0) (HRp1 : Rd KI sb A1p c1p p1) (hH : Hp sb s F0 s []) (r : Int × Bool) (H : impl_DistanceOf.f p0 p1 = some r) : GCall Try.prog 16 #[.slice A0p p0.length c0p, .slice A1p p1.length c1p] s (impl_DistanceOf.post sb s F0 r) := by
  refine GCall_ofk [.tmp 4, .tmp 5] [.slice A0p p0.length c0p, .slice A1p p1.length c1p, undef, undef, undef, undef, undef, undef, undef, undef, undef, undef, undef, undef, undef, undef, undef, undef] Try.func16 rfl rfl rfl ?_
  intro w Q hQr hQn hQp
  replace H := topE H
  unfold impl_DistanceOf.f at H
  refine HT_seq_k ?_
  intro K1 hK1
  refine HT_region ?_
  refine HL_cons rfl ?_
  refine o_assign ?_
  try dsimp only [putL, setL, evL, getL]
  refine HL_cons rfl ?_
  refine o_assign ?_
  try dsimp only [putL, setL, evL, getL]
  refine HL_nil ?_
  refine hK1 _ _ ?_
  refine HT_seq_k ?_
  intro K2 hK2
  refine HT_seq_k ?_
  intro K3 hK3
  refine HT_region ?_
  refine HL_cons rfl ?_
  refine o_move ?_
  try dsimp only [putL, setL, evL, getL]
  refine HL_cons rfl ?_
  refine o_move ?_
  try dsimp only [putL, setL, evL, getL]
  refine HL_cons rfl ?_
  refine o_litF (K := (Kd.sl KI)) (O := (Ow.lent (Kd.sl KI))) (ca := #[.slice A0p p0.length c0p, .slice A1p p1.length c1p]) [[.slice A0p p0.length c0p], [.slice A1p p1.length c1p]] [p0, p1] hH Try.underlying105 tI24 rfl (by decide) rfl rfl (by kernel_rfl) rfl ⟨rfl, Ent.own (Ent.lent ⟨_, _, rfl, HRp0⟩), rfl, Ent.own (Ent.lent ⟨_, _, rfl, HRp1⟩), trivial⟩ ?_
  intro A4 s4 hH' hG
  replace hH : Hp sb s F0 s4 [Ck.ol (Ow.lent (Kd.sl KI)) 24 A4 2 [p0, p1]] := hH'
  clear hH' hG
  try dsimp only [putL, setL, evL, getL]
  replace H := headE H
  obtain ⟨u5, hu5, H⟩ := H
  refine HL_cons rfl ?_
  refine o_call (args := #[.slice A4 [p0, p1].length 2]) Try.func99 rfl rfl rfl (impl_areShort.ok s4 s4 no A4 2 [p0, p1] (hH.rd 0 rfl) (Hp.own (Bs.refl s4)) _ hu5) ?_
  rintro _ s5 ⟨rfl, hD⟩
  replace hH := hH.back0T hD
  clear hD
  dsimp only [addC, setC, rmC, selC, getC] at hH
  try dsimp only [putL, setL, evL, getL]
  refine HL_cons rfl ?_
  refine o_not rfl ?_
  try dsimp only [putL, setL, evL, getL]
  refine HL_nil ?_
  refine hK3 _ _ ?_
  rcases Bool.eq_false_or_eq_true (!u5) with hb6 | hb6
  · replace H := iteT hb6 H
    refine HT_true (congrArg Value.bool hb6) ?_
    refine HT_seq_k ?_
    intro K7 hK7
    refine HT_region ?_
    refine HL_cons rfl ?_
    refine o_assign ?_
    try dsimp only [putL, setL, evL, getL]
    refine HL_cons rfl ?_
    refine o_assign ?_
    try dsimp only [putL, setL, evL, getL]
    refine HL_nil ?_
    refine hK7 _ _ ?_
    refine HT_ret ?_
    exact hQr _ _ [.int .i64 0, .bool false] ⟨rfl, rfl, trivial⟩ (retH (fun r => impl_DistanceOf.post sb s F0 r _ _) (show some _ = some r from H) ⟨rfl, hH.sel [] (by decide)⟩)
  · replace H := iteF hb6 H
    refine HT_false (congrArg Value.bool hb6) ?_
    refine HT_skip ?_
    refine hK2 _ _ ?_
    refine HT_seq_k ?_
    intro K8 hK8
    refine HT_region ?_
    refine HL_cons rfl ?_
    refine o_move ?_
    try dsimp only [putL, setL, evL, getL]
    refine HL_cons rfl ?_
    refine o_move ?_
    try dsimp only [putL, setL, evL, getL]
    replace H := headE H
    obtain ⟨u9, hu9, H⟩ := H
    refine HL_cons rfl ?_
    refine o_call (args := #[.slice A0p p0.length c0p, .slice A1p p1.length c1p]) Try.func100 rfl rfl rfl (impl_distances.ok sb s5 no A0p c0p p0 A1p c1p p1 HRp0 HRp1 (Hp.own hH.bs) _ hu9) ?_
    rintro _ s9 ⟨A10, c10, rfl, hD⟩
    replace hH := hH.back0 hD (Up.refl _ _ _)
    clear hD
    dsimp only [addC, setC, rmC, selC, getC] at hH
    try dsimp only [putL, setL, evL, getL]
    refine HL_cons rfl ?_
    refine o_move ?_
    try dsimp only [putL, setL, evL, getL]
    refine HL_cons rfl ?_
    refine o_len rfl Try.underlying24 ?_
    try dsimp only [putL, setL, evL, getL]
    replace H := headE H
    obtain ⟨u11, hu11, H⟩ := H
    obtain ⟨b11, o11, cs11, hA11, hr11, hh11, hel11⟩ := hH.elo 1 rfl hu11
    obtain rfl := hr11
    refine HL_cons rfl ?_
    refine hel11 s9 rfl rfl Try.underlying24 tI3 ?_
    try dsimp only [putL, setL, evL, getL]
    refine HL_cons rfl ?_
    refine o_load' rfl Try.underlying3 rfl (hh11 0 _ rfl) ?_
    try dsimp only [putL, setL, evL, getL]
    refine HL_cons rfl ?_
    refine o_assign ?_
    try dsimp only [putL, setL, evL, getL]
    refine HL_cons rfl ?_
    refine o_assign ?_
    try dsimp only [putL, setL, evL, getL]
    refine HL_nil ?_
    refine hK8 _ _ ?_
    refine HT_ret ?_
    exact hQr _ _ [.int .i64 u11, .bool true] ⟨rfl, rfl, trivial⟩ (retH (fun r => impl_DistanceOf.post sb s F0 r _ _) (show some _ = some r from H) ⟨rfl, hH.sel [] (by decide)⟩)
def spec_l1In.f (p0 : Int) (p1 : Int) (p2 : Int) : Option Bool := if (decide (p0 ≥ p1)) = true then (some (decide (p0 ≤ p2))) else (some false)
def spec_l1In.post (sb s : St) (F0 : Fp) (r : Bool) : Value → St → Prop := fun v s' => v = .bool r ∧ Hp sb s F0 s' []
set_option maxRecDepth 100000 in
set_option maxHeartbeats 4000000 in
theorem spec_l1In.ok (sb s : St) (F0 : Fp) (p0 : Int) (p1 : Int) (p2 : Int) (hH : Hp sb s F0 s []) (r : Bool) (H : spec_l1In.f p0 p1 p2 = some r) : GCall Try.prog 108 #[.int .i64 p0, .int .i64 p1, .int .i64 p2] s (spec_l1In.post sb s F0 r) := by
  refine GCall_ofk [.tmp 6] [.int .i64 p0, .int .i64 p1, .int .i64 p2, undef, undef, undef, undef, undef, undef, undef, undef, undef, undef, undef, undef] Try.func108 rfl rfl rfl ?_
  intro w Q hQr hQn hQp
  replace H := topE H
  unfold spec_l1In.f at H
  refine HT_seq_k ?_
  intro K1 hK1
  refine HT_region ?_
  refine HL_cons rfl ?_
  refine o_assign ?_
  try dsimp only [putL, setL, evL, getL]
  refine HL_nil ?_
  refine hK1 _ _ ?_
  refine HT_seq_k ?_
  intro K2 hK2
  refine HT_region ?_
  refine HL_cons rfl ?_
  refine o_move ?_
  try dsimp only [putL, setL, evL, getL]
  refine HL_cons rfl ?_
  refine o_move ?_
  try dsimp only [putL, setL, evL, getL]
  refine HL_cons rfl ?_
  refine o_bin rfl rfl rfl ?_
  try dsimp only [putL, setL, evL, getL]
  refine HL_cons rfl ?_
  refine o_move ?_
  try dsimp only [putL, setL, evL, getL]
  rcases Bool.eq_false_or_eq_true (decide (p0 ≥ p1)) with hb3 | hb3
  · replace H := iteT hb3 H
    refine HL_want ?_ ?_
    · exact wantT (j := 3) (b := true) (t := 10) (c := decide (p0 ≥ p1)) rfl rfl rfl rfl hb3
    refine o_move ?_
    try dsimp only [putL, setL, evL, getL]
    refine HL_want ?_ ?_
    · exact wantT (j := 3) (b := true) (t := 10) (c := decide (p0 ≥ p1)) rfl rfl rfl rfl hb3
    refine o_move ?_
    try dsimp only [putL, setL, evL, getL]
    refine HL_want ?_ ?_
    · exact wantT (j := 3) (b := true) (t := 10) (c := decide (p0 ≥ p1)) rfl rfl rfl rfl hb3
    refine o_bin rfl rfl rfl ?_
    try dsimp only [putL, setL, evL, getL]
    refine HL_cons rfl ?_
    refine o_pickT rfl hb3 ?_
    try dsimp only [putL, setL, evL, getL]
    refine HL_cons rfl ?_
    refine o_assign ?_
    try dsimp only [putL, setL, evL, getL]
    refine HL_nil ?_
    refine hK2 _ _ ?_
    refine HT_ret ?_
    exact hQr _ _ [.bool (decide (p0 ≤ p2))] ⟨rfl, trivial⟩ (retH (fun r => spec_l1In.post sb s F0 r _ _) (show some _ = some r from H) ⟨rfl, hH⟩)
  · replace H := iteF hb3 H
    refine HL_skip ?_ ?_
    · exact wantF (j := 3) (b := true) (t := 10) (c := decide (p0 ≥ p1)) rfl rfl rfl rfl hb3
    try dsimp only [putL, setL, evL, getL]
    refine HL_skip ?_ ?_
    · exact wantF (j := 3) (b := true) (t := 10) (c := decide (p0 ≥ p1)) rfl rfl rfl rfl hb3
    try dsimp only [putL, setL, evL, getL]
    refine HL_skip ?_ ?_
    · exact wantF (j := 3) (b := true) (t := 10) (c := decide (p0 ≥ p1)) rfl rfl rfl rfl hb3
    try dsimp only [putL, setL, evL, getL]
    refine HL_cons rfl ?_
    refine o_pickF rfl hb3 ?_
    try dsimp only [putL, setL, evL, getL]
    refine HL_cons rfl ?_
    refine o_assign ?_
    try dsimp only [putL, setL, evL, getL]
    refine HL_nil ?_
    refine hK2 _ _ ?_
    refine HT_ret ?_
    exact hQr _ _ [.bool false] ⟨rfl, trivial⟩ (retH (fun r => spec_l1In.post sb s F0 r _ _) (show some _ = some r from H) ⟨rfl, hH⟩)
def spec_GoodRune.f (p0 : Int) : Option Bool := (spec_l1In.f p0 0 1114111).bind fun u3 => if u3 = true then ((spec_l1In.f p0 55296 57343).bind fun u5 => some (!u5)) else (some false)
def spec_GoodRune.post (sb s : St) (F0 : Fp) (r : Bool) : Value → St → Prop := fun v s' => v = .bool r ∧ Hp sb s F0 s' []
set_option maxRecDepth 100000 in
set_option maxHeartbeats 4000000 in
theorem spec_GoodRune.ok (sb s : St) (F0 : Fp) (p0 : Int) (hH : Hp sb s F0 s []) (r : Bool) (H : spec_GoodRune.f p0 = some r) : GCall Try.prog 148 #[.int .i64 p0] s (spec_GoodRune.post sb s F0 r) := by
  refine GCall_ofk [.tmp 2] [.int .i64 p0, undef, undef, undef, undef, undef, undef, undef, undef, undef] Try.func148 rfl rfl rfl ?_
  intro w Q hQr hQn hQp
  replace H := topE H
  unfold spec_GoodRune.f at H
  refine HT_seq_k ?_
  intro K1 hK1
  refine HT_region ?_
  refine HL_cons rfl ?_
  refine o_assign ?_
  try dsimp only [putL, setL, evL, getL]
  refine HL_nil ?_
  refine hK1 _ _ ?_
  refine HT_seq_k ?_
  intro K2 hK2
  refine HT_region ?_
  refine HL_cons rfl ?_
  refine o_move ?_
  try dsimp only [putL, setL, evL, getL]
  replace H := headE H
  obtain ⟨u3, hu3, H⟩ := H
  refine HL_cons rfl ?_
  refine o_call (args := #[.int .i64 p0, .int .i64 0, .int .i64 1114111]) Try.func108 rfl rfl rfl (spec_l1In.ok sb s no p0 0 1114111 (Hp.own hH.bs) _ hu3) ?_
  rintro _ s3 ⟨rfl, hD⟩
  replace hH := hH.back0 hD (Up.refl _ _ _)
  clear hD
  dsimp only [addC, setC, rmC, selC, getC] at hH
  try dsimp only [putL, setL, evL, getL]
  refine HL_cons rfl ?_
  refine o_move ?_
  try dsimp only [putL, setL, evL, getL]
  rcases Bool.eq_false_or_eq_true u3 with hb4 | hb4
  · replace H := iteT hb4 H
    refine HL_want ?_ ?_
    · exact wantT (j := 2) (b := true) (t := 5) (c := u3) rfl rfl rfl rfl hb4
    refine o_move ?_
    try dsimp only [putL, setL, evL, getL]
    replace H := headE H
    obtain ⟨u5, hu5, H⟩ := H
    refine HL_want ?_ ?_
    · exact wantT (j := 2) (b := true) (t := 5) (c := u3) rfl rfl rfl rfl hb4
    refine o_call (args := #[.int .i64 p0, .int .i64 55296, .int .i64 57343]) Try.func108 rfl rfl rfl (spec_l1In.ok sb s3 no p0 55296 57343 (Hp.own hH.bs) _ hu5) ?_
    rintro _ s5 ⟨rfl, hD⟩
    replace hH := hH.back0 hD (Up.refl _ _ _)
    clear hD
    dsimp only [addC, setC, rmC, selC, getC] at hH
    try dsimp only [putL, setL, evL, getL]
    refine HL_want ?_ ?_
    · exact wantT (j := 2) (b := true) (t := 5) (c := u3) rfl rfl rfl rfl hb4
    refine o_not rfl ?_
    try dsimp only [putL, setL, evL, getL]
    refine HL_cons rfl ?_
    refine o_pickT rfl hb4 ?_
    try dsimp only [putL, setL, evL, getL]
    refine HL_cons rfl ?_
    refine o_assign ?_
    try dsimp only [putL, setL, evL, getL]
    refine HL_nil ?_
    refine hK2 _ _ ?_
    refine HT_ret ?_
    exact hQr _ _ [.bool (!u5)] ⟨rfl, trivial⟩ (retH (fun r => spec_GoodRune.post sb s F0 r _ _) (show some _ = some r from H) ⟨rfl, hH⟩)
  · replace H := iteF hb4 H
    refine HL_skip ?_ ?_
    · exact wantF (j := 2) (b := true) (t := 5) (c := u3) rfl rfl rfl rfl hb4
    try dsimp only [putL, setL, evL, getL]
    refine HL_skip ?_ ?_
    · exact wantF (j := 2) (b := true) (t := 5) (c := u3) rfl rfl rfl rfl hb4
    try dsimp only [putL, setL, evL, getL]
    refine HL_skip ?_ ?_
    · exact wantF (j := 2) (b := true) (t := 5) (c := u3) rfl rfl rfl rfl hb4
    try dsimp only [putL, setL, evL, getL]
    refine HL_cons rfl ?_
    refine o_pickF rfl hb4 ?_
    try dsimp only [putL, setL, evL, getL]
    refine HL_cons rfl ?_
    refine o_assign ?_
    try dsimp only [putL, setL, evL, getL]
    refine HL_nil ?_
    refine hK2 _ _ ?_
    refine HT_ret ?_
    exact hQr _ _ [.bool false] ⟨rfl, trivial⟩ (retH (fun r => spec_GoodRune.post sb s F0 r _ _) (show some _ = some r from H) ⟨rfl, hH⟩)
def spec_l1AllRunes.l1 (p0 : List (Int)) : Nat → Int → Option (Lo Unit Bool)
  | 0, _ => none
  | kf + 1, x48 => if (decide (x48 < (p0.length : Int))) = true then ((rd? p0 x48).bind fun u66 => (spec_GoodRune.f u66).bind fun u68 => if (!u68) = true then ((some false).bind fun z => some (Lo.ret z)) else (spec_l1AllRunes.l1 p0 kf (IntKind.i64.wrap (x48 + 1)))) else (some (Lo.go ()))
def spec_l1AllRunes.f (p0 : List (Int)) : Option Bool := (spec_l1AllRunes.l1 p0 ((((p0.length : Int)) - (0)).toNat + 2) 0).bind fun (o : Lo Unit Bool) => match o with | .go () => (some (decide ((p0.length : Int) ≤ 1000))) | .ret z => some z
def spec_l1AllRunes.post (sb s : St) (F0 : Fp) (r : Bool) : Value → St → Prop := fun v s' => v = .bool r ∧ Hp sb s F0 s' []
set_option maxRecDepth 100000 in
set_option maxHeartbeats 4000000 in
theorem spec_l1AllRunes.ok (sb s : St) (F0 : Fp) (A0p : Option Addr) (c0p : Nat) (p0 : List (Int)) (HRp0 : Rd KI sb A0p c0p p0) (hH : Hp sb s F0 s []) (r : Bool) (H : spec_l1AllRunes.f p0 = some r) : GCall Try.prog 119 #[.slice A0p p0.length c0p] s (spec_l1AllRunes.post sb s F0 r) := by
  refine GCall_ofk [.tmp 2] [.slice A0p p0.length c0p, undef, undef, undef, undef, undef, undef, undef, undef, undef, undef, undef, undef, undef, undef, undef, undef, undef] Try.func119 rfl rfl rfl ?_
  intro w Q hQr hQn hQp
  replace H := topE H
  unfold spec_l1AllRunes.f at H
  refine HT_seq_k ?_
  intro K1 hK1
  refine HT_region ?_
  refine HL_cons rfl ?_
  refine o_assign ?_
  try dsimp only [putL, setL, evL, getL]
  refine HL_nil ?_
  refine hK1 _ _ ?_
  refine HT_seq_k ?_
  intro K2 hK2
  refine HT_seq_k ?_
  intro K3 hK3
  refine HT_region ?_
  refine HL_cons rfl ?_
  refine o_move ?_
  try dsimp only [putL, setL, evL, getL]
  refine HL_cons rfl ?_
  refine o_len rfl Try.underlying24 ?_
  try dsimp only [putL, setL, evL, getL]
  refine HL_cons rfl ?_
  refine o_move ?_
  try dsimp only [putL, setL, evL, getL]
  refine HL_nil ?_
  refine hK3 _ _ ?_
  refine joinH H fun G4 hG4 H => ?_
  refine HT_toK (fun l' s' => G4 (.go ()) = some r ∧ l' = [.slice A0p p0.length c0p, undef, getL l' 2, undef, getL l' 4, .slice A0p p0.length c0p, .int .i64 (p0.length : Int), getL l' 7, getL l' 8, getL l' 9, getL l' 10, getL l' 11, getL l' 12, getL l' 13, getL l' 14, undef, undef, undef] ∧ Hp sb s F0 s' []) ?_ ?_
  · intro K4 hK4
    refine HT_block ?_
    refine HT_loopK (fun kf l' s' => ∃ (x48 : Int), (spec_l1AllRunes.l1 p0 kf x48).bind G4 = some r ∧ l' = [.slice A0p p0.length c0p, undef, getL l' 2, undef, getL l' 4, .slice A0p p0.length c0p, .int .i64 (p0.length : Int), .int .i64 x48, getL l' 8, getL l' 9, getL l' 10, getL l' 11, getL l' 12, getL l' 13, getL l' 14, undef, undef, undef] ∧ Hp sb s F0 s' []) ((((p0.length : Int)) - (0)).toNat + 2) ⟨0, H, rfl, hH⟩ ?_
    rintro kf l' s60 ⟨x48, H, hl, hH⟩ K60 hK60
    generalize getL l' 2 = j2, getL l' 4 = j4, getL l' 8 = j8, getL l' 9 = j9, getL l' 10 = j10, getL l' 11 = j11, getL l' 12 = j12, getL l' 13 = j13, getL l' 14 = j14 at hl
    subst hl
    cases kf with
    | zero => simp [spec_l1AllRunes.l1] at H
    | succ kf =>
      rw [spec_l1AllRunes.l1] at H
      refine HT_seq_k ?_
      intro K61 hK61
      refine HT_region ?_
      refine HL_cons rfl ?_
      refine o_bin rfl rfl rfl ?_
      try dsimp only [putL, setL, evL, getL]
      refine HL_nil ?_
      refine hK61 _ _ ?_
      refine HT_seq_k ?_
      intro K62 hK62
      rcases Bool.eq_false_or_eq_true (decide (x48 < (p0.length : Int))) with hb63 | hb63
      · replace H := iteT hb63 H
        refine HT_true (congrArg Value.bool hb63) ?_
        refine HT_skip ?_
        refine hK62 _ _ ?_
        refine HT_seq_k ?_
        intro K64 hK64
        refine HT_block ?_
        refine HT_seq_k ?_
        intro K65 hK65
        refine HT_region ?_
        replace H := headE H
        obtain ⟨u66, hu66, H⟩ := H
        obtain ⟨b66, o66, cs66, hr66, hh66, hel66⟩ := Rd.elb HRp0 hu66
        obtain rfl := hr66
        refine HL_cons rfl ?_
        refine hel66 s60 rfl rfl Try.underlying24 tI3 ?_
        try dsimp only [putL, setL, evL, getL]
        refine HL_cons rfl ?_
        refine o_load' rfl Try.underlying3 rfl ((hh66 hH.bs.mono) 0 _ rfl) ?_
        try dsimp only [putL, setL, evL, getL]
        refine HL_cons rfl ?_
        refine o_assign ?_
        try dsimp only [putL, setL, evL, getL]
        refine HL_nil ?_
        refine hK65 _ _ ?_
        refine HT_seq_k ?_
        intro K67 hK67
        refine HT_region ?_
        refine HL_cons rfl ?_
        refine o_move ?_
        try dsimp only [putL, setL, evL, getL]
        replace H := headE H
        obtain ⟨u68, hu68, H⟩ := H
        refine HL_cons rfl ?_
        refine o_call (args := #[.int .i64 u66]) Try.func148 rfl rfl rfl (spec_GoodRune.ok sb s60 no u66 (Hp.own hH.bs) _ hu68) ?_
        rintro _ s68 ⟨rfl, hD⟩
        replace hH := hH.back0 hD (Up.refl _ _ _)
        clear hD
        dsimp only [addC, setC, rmC, selC, getC] at hH
        try dsimp only [putL, setL, evL, getL]
        refine HL_cons rfl ?_
        refine o_not rfl ?_
        try dsimp only [putL, setL, evL, getL]
        refine HL_nil ?_
        refine hK67 _ _ ?_
        rcases Bool.eq_false_or_eq_true (!u68) with hb69 | hb69
        · replace H := iteT hb69 H
          refine HT_true (congrArg Value.bool hb69) ?_
          refine HT_seq_k ?_
          intro K70 hK70
          refine HT_region ?_
          refine HL_cons rfl ?_
          refine o_assign ?_
          try dsimp only [putL, setL, evL, getL]
          refine HL_nil ?_
          refine hK70 _ _ ?_
          refine HT_ret ?_
          replace H := escH (fun z hz => hG4 _ hz) H
          exact hQr _ _ [.bool false] ⟨rfl, trivial⟩ (retH (fun r => spec_l1AllRunes.post sb s F0 r _ _) (show some _ = some r from H) ⟨rfl, hH⟩)
        · replace H := iteF hb69 H
          refine HT_false (congrArg Value.bool hb69) ?_
          refine HT_skip ?_
          refine hK64 _ _ ?_
          refine HT_region ?_
          refine HL_cons rfl ?_
          refine o_bin rfl rfl rfl ?_
          try dsimp only [putL, setL, evL, getL]
          refine HL_cons rfl ?_
          refine o_move ?_
          try dsimp only [putL, setL, evL, getL]
          refine HL_nil ?_
          exact hK60 _ _ ⟨kf, Nat.lt_succ_self kf, IntKind.i64.wrap (x48 + 1), H, rfl, hH⟩
      · replace H := iteF hb63 H
        refine HT_false (congrArg Value.bool hb63) ?_
        refine HT_exit ?_
        exact hK4 _ _ ⟨H, rfl, hH⟩
  · rintro l' s71 ⟨H, hl, hH⟩
    generalize getL l' 2 = j2, getL l' 4 = j4, getL l' 7 = j7, getL l' 8 = j8, getL l' 9 = j9, getL l' 10 = j10, getL l' 11 = j11, getL l' 12 = j12, getL l' 13 = j13, getL l' 14 = j14 at hl
    subst hl
    replace H := hG4 _ H
    try dsimp only at H
    refine hK2 _ _ ?_
    refine HT_seq_k ?_
    intro K72 hK72
    refine HT_region ?_
    refine HL_cons rfl ?_
    refine o_move ?_
    try dsimp only [putL, setL, evL, getL]
    refine HL_cons rfl ?_
    refine o_len rfl Try.underlying24 ?_
    try dsimp only [putL, setL, evL, getL]
    refine HL_cons rfl ?_
    refine o_bin rfl rfl rfl ?_
    try dsimp only [putL, setL, evL, getL]
    refine HL_cons rfl ?_
    refine o_assign ?_
    try dsimp only [putL, setL, evL, getL]
    refine HL_nil ?_
    refine hK72 _ _ ?_
    refine HT_ret ?_
    exact hQr _ _ [.bool (decide ((p0.length : Int) ≤ 1000))] ⟨rfl, trivial⟩ (retH (fun r => spec_l1AllRunes.post sb s F0 r _ _) (show some _ = some r from H) ⟨rfl, hH⟩)
def spec_l15List.f (p0 : List (Int)) : Option Bool := (spec_l1AllRunes.f p0).bind fun u3 => if u3 = true then (some (decide ((p0.length : Int) ≤ 60))) else (some false)
def spec_l15List.post (sb s : St) (F0 : Fp) (r : Bool) : Value → St → Prop := fun v s' => v = .bool r ∧ Hp sb s F0 s' []
set_option maxRecDepth 100000 in
set_option maxHeartbeats 4000000 in
theorem spec_l15List.ok (sb s : St) (F0 : Fp) (A0p : Option Addr) (c0p : Nat) (p0 : List (Int)) (HRp0 : Rd KI sb A0p c0p p0) (hH : Hp sb s F0 s []) (r : Bool) (H : spec_l15List.f p0 = some r) : GCall Try.prog 101 #[.slice A0p p0.length c0p] s (spec_l15List.post sb s F0 r) := by
  refine GCall_ofk [.tmp 2] [.slice A0p p0.length c0p, undef, undef, undef, undef, undef, undef, undef, undef, undef] Try.func101 rfl rfl rfl ?_
  intro w Q hQr hQn hQp
  replace H := topE H
  unfold spec_l15List.f at H
  refine HT_seq_k ?_
  intro K1 hK1
  refine HT_region ?_
  refine HL_cons rfl ?_
  refine o_assign ?_
  try dsimp only [putL, setL, evL, getL]
  refine HL_nil ?_
  refine hK1 _ _ ?_
  refine HT_seq_k ?_
  intro K2 hK2
  refine HT_region ?_
  refine HL_cons rfl ?_
  refine o_move ?_
  try dsimp only [putL, setL, evL, getL]
  replace H := headE H
  obtain ⟨u3, hu3, H⟩ := H
  refine HL_cons rfl ?_
  refine o_call (args := #[.slice A0p p0.length c0p]) Try.func119 rfl rfl rfl (spec_l1AllRunes.ok sb s no A0p c0p p0 HRp0 (Hp.own hH.bs) _ hu3) ?_
  rintro _ s3 ⟨rfl, hD⟩
  replace hH := hH.back0 hD (Up.refl _ _ _)
  clear hD
  dsimp only [addC, setC, rmC, selC, getC] at hH
  try dsimp only [putL, setL, evL, getL]
  refine HL_cons rfl ?_
  refine o_move ?_
  try dsimp only [putL, setL, evL, getL]
  rcases Bool.eq_false_or_eq_true u3 with hb4 | hb4
  · replace H := iteT hb4 H
    refine HL_want ?_ ?_
    · exact wantT (j := 2) (b := true) (t := 5) (c := u3) rfl rfl rfl rfl hb4
    refine o_move ?_
    try dsimp only [putL, setL, evL, getL]
    refine HL_want ?_ ?_
    · exact wantT (j := 2) (b := true) (t := 5) (c := u3) rfl rfl rfl rfl hb4
    refine o_len rfl Try.underlying24 ?_
    try dsimp only [putL, setL, evL, getL]
    refine HL_want ?_ ?_
    · exact wantT (j := 2) (b := true) (t := 5) (c := u3) rfl rfl rfl rfl hb4
    refine o_bin rfl rfl rfl ?_
    try dsimp only [putL, setL, evL, getL]
    refine HL_cons rfl ?_
    refine o_pickT rfl hb4 ?_
    try dsimp only [putL, setL, evL, getL]
    refine HL_cons rfl ?_
    refine o_assign ?_
    try dsimp only [putL, setL, evL, getL]
    refine HL_nil ?_
    refine hK2 _ _ ?_
    refine HT_ret ?_
    exact hQr _ _ [.bool (decide ((p0.length : Int) ≤ 60))] ⟨rfl, trivial⟩ (retH (fun r => spec_l15List.post sb s F0 r _ _) (show some _ = some r from H) ⟨rfl, hH⟩)
  · replace H := iteF hb4 H
    refine HL_skip ?_ ?_
    · exact wantF (j := 2) (b := true) (t := 5) (c := u3) rfl rfl rfl rfl hb4
    try dsimp only [putL, setL, evL, getL]
    refine HL_skip ?_ ?_
    · exact wantF (j := 2) (b := true) (t := 5) (c := u3) rfl rfl rfl rfl hb4
    try dsimp only [putL, setL, evL, getL]
    refine HL_skip ?_ ?_
    · exact wantF (j := 2) (b := true) (t := 5) (c := u3) rfl rfl rfl rfl hb4
    try dsimp only [putL, setL, evL, getL]
    refine HL_cons rfl ?_
    refine o_pickF rfl hb4 ?_
    try dsimp only [putL, setL, evL, getL]
    refine HL_cons rfl ?_
    refine o_assign ?_
    try dsimp only [putL, setL, evL, getL]
    refine HL_nil ?_
    refine hK2 _ _ ?_
    refine HT_ret ?_
    exact hQr _ _ [.bool false] ⟨rfl, trivial⟩ (retH (fun r => spec_l15List.post sb s F0 r _ _) (show some _ = some r from H) ⟨rfl, hH⟩)
def spec_l15Numbers.l1 (p0 : Int) : Nat → (List (Int)) → Int → Option (List (Int))
  | 0, _, _ => none
  | kf + 1, x38, x39 => if (decide (x39 < p0)) = true then ((app? 17592186044416 x38 [x39]).bind fun x54 => spec_l15Numbers.l1 p0 kf x54 (IntKind.i64.wrap (x39 + 1))) else (some x38)
def spec_l15Numbers.f (p0 : Int) : Option (List (Int)) := (spec_l15Numbers.l1 p0 (((p0) - (0)).toNat + 2) [] 0).bind fun (o : (List (Int))) => match o with | x30 => (some x30)
def spec_l15Numbers.post (sb s : St) (F0 : Fp) (r : (List (Int))) : Value → St → Prop := fun v s' => ∃ (A0 : Option Addr) (c0 : Nat), v = .slice A0 r.length c0 ∧ Hp sb s F0 s' [Ck.ol OI 3 A0 c0 r]
set_option maxRecDepth 100000 in
set_option maxHeartbeats 4000000 in
theorem spec_l15Numbers.ok (sb s : St) (F0 : Fp) (p0 : Int) (hH : Hp sb s F0 s []) (r : (List (Int))) (H : spec_l15Numbers.f p0 = some r) : GCall Try.prog 109 #[.int .i64 p0] s (spec_l15Numbers.post sb s F0 r) := by
  refine GCall_ofk [.tmp 2] [.int .i64 p0, undef, undef, undef, undef, undef, undef, undef, undef, undef, undef, undef, undef, undef, undef] Try.func109 rfl rfl rfl ?_
  intro w Q hQr hQn hQp
  replace H := topE H
  unfold spec_l15Numbers.f at H
  refine HT_seq_k ?_
  intro K1 hK1
  refine HT_region ?_
  refine HL_cons rfl ?_
  refine o_assign ?_
  try dsimp only [putL, setL, evL, getL]
  refine HL_nil ?_
  refine hK1 _ _ ?_
  refine HT_seq_k ?_
  intro K2 hK2
  refine HT_region ?_
  refine HL_cons rfl ?_
  refine o_assign ?_
  try dsimp only [putL, setL, evL, getL]
  refine HL_nil ?_
  refine hK2 _ _ ?_
  refine HT_seq_k ?_
  intro K3 hK3
  refine HT_seq_k ?_
  intro K4 hK4
  refine HT_region ?_
  refine HL_cons rfl ?_
  refine o_assign ?_
  try dsimp only [putL, setL, evL, getL]
  refine HL_nil ?_
  refine hK4 _ _ ?_
  refine joinH H fun G5 hG5 H => ?_
  refine HT_toK (fun l' s' => ∃ (x30 : List (Int)) (A30 : Option Addr) (c30 : Nat), G5 x30 = some r ∧ l' = [.int .i64 p0, undef, .slice none 0 0, .slice A30 x30.length c30, getL l' 4, getL l' 5, getL l' 6, getL l' 7, getL l' 8, getL l' 9, getL l' 10, getL l' 11, getL l' 12, getL l' 13, undef] ∧ Hp sb s F0 s' [Ck.ol OI 3 A30 c30 x30]) ?_ ?_
  · intro K5 hK5
    refine HT_block ?_
    refine HT_loopK (fun kf l' s' => ∃ (x38 : List (Int)) (A38 : Option Addr) (c38 : Nat) (x39 : Int), (spec_l15Numbers.l1 p0 kf x38 x39).bind G5 = some r ∧ l' = [.int .i64 p0, undef, .slice none 0 0, .slice A38 x38.length c38, .int .i64 x39, getL l' 5, getL l' 6, getL l' 7, getL l' 8, getL l' 9, getL l' 10, getL l' 11, getL l' 12, getL l' 13, undef] ∧ Hp sb s F0 s' [Ck.ol OI 3 A38 c38 x38]) (((p0) - (0)).toNat + 2) ⟨[], none, 0, 0, H, rfl, (hH.nil (K := KI) OI 3)⟩ ?_
    rintro kf l' s48 ⟨x38, A38, c38, x39, H, hl, hH⟩ K48 hK48
    generalize getL l' 5 = j5, getL l' 6 = j6, getL l' 7 = j7, getL l' 8 = j8, getL l' 9 = j9, getL l' 10 = j10, getL l' 11 = j11, getL l' 12 = j12, getL l' 13 = j13 at hl
    subst hl
    cases kf with
    | zero => simp [spec_l15Numbers.l1] at H
    | succ kf =>
      rw [spec_l15Numbers.l1] at H
      refine HT_seq_k ?_
      intro K49 hK49
      refine HT_seq_k ?_
      intro K50 hK50
      refine HT_region ?_
      refine HL_cons rfl ?_
      refine o_move ?_
      try dsimp only [putL, setL, evL, getL]
      refine HL_cons rfl ?_
      refine o_move ?_
      try dsimp only [putL, setL, evL, getL]
      refine HL_cons rfl ?_
      refine o_bin rfl rfl rfl ?_
      try dsimp only [putL, setL, evL, getL]
      refine HL_nil ?_
      refine hK50 _ _ ?_
      rcases Bool.eq_false_or_eq_true (decide (x39 < p0)) with hb51 | hb51
      · replace H := iteT hb51 H
        refine HT_true (congrArg Value.bool hb51) ?_
        refine HT_skip ?_
        refine hK49 _ _ ?_
        refine HT_seq_k ?_
        intro K52 hK52
        refine HT_block ?_
        refine HT_region ?_
        refine HL_cons rfl ?_
        refine o_move ?_
        try dsimp only [putL, setL, evL, getL]
        refine HL_cons rfl ?_
        refine o_move ?_
        try dsimp only [putL, setL, evL, getL]
        refine HL_cons rfl ?_
        refine o_litF (K := KI) (O := OI) (ca := #[.int .i64 x39]) [[.int .i64 x39]] [x39] hH Try.underlying24 tI3 rfl (by decide) rfl rfl (by kernel_rfl) rfl ⟨rfl, Ent.own (Ent.flat rfl), trivial⟩ ?_
        intro A53 s53 hH' hG
        replace hH : Hp sb s F0 s53 [Ck.ol OI 3 A38 c38 x38, Ck.ol OI 3 A53 1 [x39]] := hH'
        clear hH' hG
        try dsimp only [putL, setL, evL, getL]
        replace H := headE H
        obtain ⟨x54, hx54, H⟩ := H
        refine HL_cons rfl ?_
        refine o_appF (K := KI) (n := 17592186044416) (A := A38) (c := c38) (xs := x38) (ys := [x39]) (B := A53) (c2 := 1) hH 0 rfl rfl rfl rfl Try.underlying24 tI3 rfl (by decide) (by decide) (by decide) (Src.flat (hH.rd 1 rfl)) hx54 ?_
        intro A54 c54 s54 hH'
        replace hH : Hp sb s F0 s54 [Ck.ol OI 3 A54 c54 x54, Ck.ol OI 3 A53 1 [x39]] := hH'
        clear hH'
        try dsimp only [putL, setL, evL, getL]
        refine HL_cons rfl ?_
        refine o_assign ?_
        try dsimp only [putL, setL, evL, getL]
        refine HL_nil ?_
        refine hK52 _ _ ?_
        refine HT_region ?_
        refine HL_cons rfl ?_
        refine o_move ?_
        try dsimp only [putL, setL, evL, getL]
        refine HL_cons rfl ?_
        refine o_bin rfl rfl rfl ?_
        try dsimp only [putL, setL, evL, getL]
        refine HL_cons rfl ?_
        refine o_assign ?_
        try dsimp only [putL, setL, evL, getL]
        refine HL_nil ?_
        exact hK48 _ _ ⟨kf, Nat.lt_succ_self kf, x54, A54, c54, IntKind.i64.wrap (x39 + 1), H, rfl, hH.sel [0] (by decide)⟩
      · replace H := iteF hb51 H
        refine HT_false (congrArg Value.bool hb51) ?_
        refine HT_exit ?_
        exact hK5 _ _ ⟨x38, A38, c38, H, rfl, hH⟩
  · rintro l' s55 ⟨x30, A30, c30, H, hl, hH⟩
    generalize getL l' 4 = j4, getL l' 5 = j5, getL l' 6 = j6, getL l' 7 = j7, getL l' 8 = j8, getL l' 9 = j9, getL l' 10 = j10, getL l' 11 = j11, getL l' 12 = j12, getL l' 13 = j13 at hl
    subst hl
    replace H := hG5 _ H
    try dsimp only at H
    refine hK3 _ _ ?_
    refine HT_seq_k ?_
    intro K56 hK56
    refine HT_region ?_
    refine HL_cons rfl ?_
    refine o_move ?_
    try dsimp only [putL, setL, evL, getL]
    refine HL_cons rfl ?_
    refine o_assign ?_
    try dsimp only [putL, setL, evL, getL]
    refine HL_nil ?_
    refine hK56 _ _ ?_
    refine HT_ret ?_
    exact hQr _ _ [.slice A30 x30.length c30] ⟨rfl, trivial⟩ (retH (fun r => spec_l15Numbers.post sb s F0 r _ _) (show some _ = some r from H) ⟨A30, c30, rfl, hH⟩)
def spec_l1Least.f (p0 : Int) (p1 : Int) : Option Int := if (decide (p0 < p1)) = true then (some p0) else (some p1)
def spec_l1Least.post (sb s : St) (F0 : Fp) (r : Int) : Value → St → Prop := fun v s' => v = .int .i64 r ∧ Hp sb s F0 s' []
set_option maxRecDepth 100000 in
set_option maxHeartbeats 4000000 in
theorem spec_l1Least.ok (sb s : St) (F0 : Fp) (p0 : Int) (p1 : Int) (hH : Hp sb s F0 s []) (r : Int) (H : spec_l1Least.f p0 p1 = some r) : GCall Try.prog 182 #[.int .i64 p0, .int .i64 p1] s (spec_l1Least.post sb s F0 r) := by
  refine GCall_ofk [.tmp 4] [.int .i64 p0, .int .i64 p1, undef, undef, undef, undef, undef, undef, undef, undef] Try.func182 rfl rfl rfl ?_
  intro w Q hQr hQn hQp
  replace H := topE H
  unfold spec_l1Least.f at H
  refine HT_seq_k ?_
  intro K1 hK1
  refine HT_region ?_
  refine HL_cons rfl ?_
  refine o_assign ?_
  try dsimp only [putL, setL, evL, getL]
  refine HL_nil ?_
  refine hK1 _ _ ?_
  refine HT_seq_k ?_
  intro K2 hK2
  refine HT_seq_k ?_
  intro K3 hK3
  refine HT_region ?_
  refine HL_cons rfl ?_
  refine o_move ?_
  try dsimp only [putL, setL, evL, getL]
  refine HL_cons rfl ?_
  refine o_move ?_
  try dsimp only [putL, setL, evL, getL]
  refine HL_cons rfl ?_
  refine o_bin rfl rfl rfl ?_
  try dsimp only [putL, setL, evL, getL]
  refine HL_nil ?_
  refine hK3 _ _ ?_
  rcases Bool.eq_false_or_eq_true (decide (p0 < p1)) with hb4 | hb4
  · replace H := iteT hb4 H
    refine HT_true (congrArg Value.bool hb4) ?_
    refine HT_seq_k ?_
    intro K5 hK5
    refine HT_region ?_
    refine HL_cons rfl ?_
    refine o_move ?_
    try dsimp only [putL, setL, evL, getL]
    refine HL_cons rfl ?_
    refine o_assign ?_
    try dsimp only [putL, setL, evL, getL]
    refine HL_nil ?_
    refine hK5 _ _ ?_
    refine HT_ret ?_
    exact hQr _ _ [.int .i64 p0] ⟨rfl, trivial⟩ (retH (fun r => spec_l1Least.post sb s F0 r _ _) (show some _ = some r from H) ⟨rfl, hH⟩)
  · replace H := iteF hb4 H
    refine HT_false (congrArg Value.bool hb4) ?_
    refine HT_skip ?_
    refine hK2 _ _ ?_
    refine HT_seq_k ?_
    intro K6 hK6
    refine HT_region ?_
    refine HL_cons rfl ?_
    refine o_move ?_
    try dsimp only [putL, setL, evL, getL]
    refine HL_cons rfl ?_
    refine o_assign ?_
    try dsimp only [putL, setL, evL, getL]
    refine HL_nil ?_
    refine hK6 _ _ ?_
    refine HT_ret ?_
    exact hQr _ _ [.int .i64 p1] ⟨rfl, trivial⟩ (retH (fun r => spec_l1Least.post sb s F0 r _ _) (show some _ = some r from H) ⟨rfl, hH⟩)
end Go.Proofs.Ytkieinlcpkpcjaa
