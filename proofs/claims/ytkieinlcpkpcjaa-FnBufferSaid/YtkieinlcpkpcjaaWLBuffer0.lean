/- The functions that the law reaches, as plain functions, each with its contract: printed by a program of the prover's. No conditions: lemmas. -/
import Derived.Test.YtkieinlcpkpcjaaProg
import Derived.Test.YtkieinlcpkpcjaaGJ
set_option linter.unusedVariables false
set_option linter.unusedSimpArgs false
namespace Go.Proofs.Ytkieinlcpkpcjaa
open Go Go.Proofs.GL
theorem tI3 : TI Try.prog 3 (.int .i64 0) 1 8 := by unfold TI; kernel_rfl
theorem tI5 : TI Try.prog 5 (.int .u8 0) 1 1 := by unfold TI; kernel_rfl
theorem tI22 : TI Try.prog 22 (.slice none 0 0) 1 24 := by unfold TI; kernel_rfl
theorem tI24 : TI Try.prog 24 (.slice none 0 0) 1 24 := by unfold TI; kernel_rfl
theorem tI37 : TI Try.prog 37 (.agg #[.int .i64 0, .slice none 0 0, .slice none 0 0, .int .i64 0]) 4 64 := by unfold TI; kernel_rfl
theorem tI111 : TI Try.prog 111 (.int .u64 0) 1 8 := by unfold TI; kernel_rfl
theorem tI113 : TI Try.prog 113 (.agg #[.slice none 0 0, .int .i64 0, .int .u64 0]) 3 40 := by unfold TI; kernel_rfl
theorem hMix : Try.prog.follows .mixedOrders = true := by kernel_rfl
def laws_big.f (p0 : List (Int)) (p1 : List (Int)) : Option Bool := if (decide ((p0.length : Int) > 1048576)) = true then (some true) else (some (decide ((p1.length : Int) > (IntKind.i64.wrap (1048576 - (p0.length : Int))))))
def laws_big.post (sb s : St) (F0 : Fp) (r : Bool) : Value → St → Prop := fun v s' => v = .bool r ∧ Hp sb s F0 s' []
set_option maxRecDepth 100000 in
set_option maxHeartbeats 4000000 in
theorem laws_big.ok (sb s : St) (F0 : Fp) (A0p : Option Addr) (c0p : Nat) (p0 : List (Int)) (A1p : Option Addr) (c1p : Nat) (p1 : List (Int)) (HRp0 : Rd (Kd.int .u8) sb A0p c0p p0) (HRp1 : Rd (Kd.int .u8) sb A1p c1p p1) (hH : Hp sb s F0 s []) (r : Bool) (H : laws_big.f p0 p1 = some r) : GCall Try.prog 14 #[.slice A0p p0.length c0p, .slice A1p p1.length c1p] s (laws_big.post sb s F0 r) := by
  refine GCall_ofk [.tmp 4] [.slice A0p p0.length c0p, .slice A1p p1.length c1p, undef, undef, undef, undef, undef, undef, undef, undef, undef, undef, undef, undef, undef, undef] Try.func14 rfl rfl rfl ?_
  intro w Q hQr hQn hQp
  replace H := topE H
  unfold laws_big.f at H
  refine HT_seq_k ?_
  intro K1 hK1
  refine HT_region ?_
  refine HL_cons rfl ?_
  refine o_assign ?_
  try dsimp only [putL, setL, evL, getL]
  refine HL_nil ?_
  refine hK1 _ _ ?_
  refine HT_seq_k ?_
  intro K2 hK2
  refine HT_region ?_
  refine HL_cons rfl ?_
  refine o_move ?_
  try dsimp only [putL, setL, evL, getL]
  refine HL_cons rfl ?_
  refine o_len rfl Try.underlying22 ?_
  try dsimp only [putL, setL, evL, getL]
  refine HL_cons rfl ?_
  refine o_bin rfl rfl rfl ?_
  try dsimp only [putL, setL, evL, getL]
  refine HL_cons rfl ?_
  refine o_move ?_
  try dsimp only [putL, setL, evL, getL]
  rcases Bool.eq_false_or_eq_true (decide ((p0.length : Int) > 1048576)) with hb3 | hb3
  · replace H := iteT hb3 H
    refine HL_skip ?_ ?_
    · exact wantF (j := 3) (b := false) (t := 8) (c := decide ((p0.length : Int) > 1048576)) rfl rfl rfl rfl hb3
    try dsimp only [putL, setL, evL, getL]
    refine HL_skip ?_ ?_
    · exact wantF (j := 3) (b := false) (t := 8) (c := decide ((p0.length : Int) > 1048576)) rfl rfl rfl rfl hb3
    try dsimp only [putL, setL, evL, getL]
    refine HL_skip ?_ ?_
    · exact wantF (j := 3) (b := false) (t := 8) (c := decide ((p0.length : Int) > 1048576)) rfl rfl rfl rfl hb3
    try dsimp only [putL, setL, evL, getL]
    refine HL_skip ?_ ?_
    · exact wantF (j := 3) (b := false) (t := 8) (c := decide ((p0.length : Int) > 1048576)) rfl rfl rfl rfl hb3
    try dsimp only [putL, setL, evL, getL]
    refine HL_skip ?_ ?_
    · exact wantF (j := 3) (b := false) (t := 8) (c := decide ((p0.length : Int) > 1048576)) rfl rfl rfl rfl hb3
    try dsimp only [putL, setL, evL, getL]
    refine HL_skip ?_ ?_
    · exact wantF (j := 3) (b := false) (t := 8) (c := decide ((p0.length : Int) > 1048576)) rfl rfl rfl rfl hb3
    try dsimp only [putL, setL, evL, getL]
    refine HL_cons rfl ?_
    refine o_pickT rfl hb3 ?_
    try dsimp only [putL, setL, evL, getL]
    refine HL_cons rfl ?_
    refine o_assign ?_
    try dsimp only [putL, setL, evL, getL]
    refine HL_nil ?_
    refine hK2 _ _ ?_
    refine HT_ret ?_
    exact hQr _ _ [.bool true] ⟨rfl, trivial⟩ (retH (fun r => laws_big.post sb s F0 r _ _) (show some _ = some r from H) ⟨rfl, hH⟩)
  · replace H := iteF hb3 H
    refine HL_want ?_ ?_
    · exact wantT (j := 3) (b := false) (t := 8) (c := decide ((p0.length : Int) > 1048576)) rfl rfl rfl rfl hb3
    refine o_move ?_
    try dsimp only [putL, setL, evL, getL]
    refine HL_want ?_ ?_
    · exact wantT (j := 3) (b := false) (t := 8) (c := decide ((p0.length : Int) > 1048576)) rfl rfl rfl rfl hb3
    refine o_len rfl Try.underlying22 ?_
    try dsimp only [putL, setL, evL, getL]
    refine HL_want ?_ ?_
    · exact wantT (j := 3) (b := false) (t := 8) (c := decide ((p0.length : Int) > 1048576)) rfl rfl rfl rfl hb3
    refine o_move ?_
    try dsimp only [putL, setL, evL, getL]
    refine HL_want ?_ ?_
    · exact wantT (j := 3) (b := false) (t := 8) (c := decide ((p0.length : Int) > 1048576)) rfl rfl rfl rfl hb3
    refine o_len rfl Try.underlying22 ?_
    try dsimp only [putL, setL, evL, getL]
    refine HL_want ?_ ?_
    · exact wantT (j := 3) (b := false) (t := 8) (c := decide ((p0.length : Int) > 1048576)) rfl rfl rfl rfl hb3
    refine o_bin rfl rfl rfl ?_
    try dsimp only [putL, setL, evL, getL]
    refine HL_want ?_ ?_
    · exact wantT (j := 3) (b := false) (t := 8) (c := decide ((p0.length : Int) > 1048576)) rfl rfl rfl rfl hb3
    refine o_bin rfl rfl rfl ?_
    try dsimp only [putL, setL, evL, getL]
    refine HL_cons rfl ?_
    refine o_pickF rfl hb3 ?_
    try dsimp only [putL, setL, evL, getL]
    refine HL_cons rfl ?_
    refine o_assign ?_
    try dsimp only [putL, setL, evL, getL]
    refine HL_nil ?_
    refine hK2 _ _ ?_
    refine HT_ret ?_
    exact hQr _ _ [.bool (decide ((p1.length : Int) > (IntKind.i64.wrap (1048576 - (p0.length : Int)))))] ⟨rfl, trivial⟩ (retH (fun r => laws_big.post sb s F0 r _ _) (show some _ = some r from H) ⟨rfl, hH⟩)
def spec_l1Cur_next.f (p0_0 : List (Int)) (p0_1 : Int) (p0_2 : Int) : Option (Int × Int × Int) := (if (decide (p0_1 < (p0_0.length : Int))) = true then ((rd? p0_0 p0_1).bind fun u10 => some (IntKind.i64.wrap u10)) else (some 0)).bind fun (o : Int) => match o with | x7 => (if (decide ((IntKind.i64.wrap (p0_1 + 1)) ≤ (p0_0.length : Int))) = true then (some (x7, (IntKind.i64.wrap (p0_1 + 1)), (IntKind.u64.wrap ((IntKind.u64.wrap ((IntKind.u64.wrap (p0_2 * 6364136223846793005)) + (IntKind.u64.wrap x7))) + 1442695040888963407)))) else ((shrK? .u64 (IntKind.u64.wrap ((IntKind.u64.wrap ((IntKind.u64.wrap (p0_2 * 6364136223846793005)) + (IntKind.u64.wrap x7))) + 1442695040888963407)) 40).bind fun u21 => some ((IntKind.i64.wrap (bits .and .u64 u21 255)), (IntKind.i64.wrap (p0_1 + 1)), (IntKind.u64.wrap ((IntKind.u64.wrap ((IntKind.u64.wrap (p0_2 * 6364136223846793005)) + (IntKind.u64.wrap x7))) + 1442695040888963407)))))
def spec_l1Cur_next.post (sb s : St) (F0 : Fp) (bp0 : Nat) (A0_0p : Option Addr) (c0_0p : Nat) (p0_0 : List (Int)) (r : Int × Int × Int) : Value → St → Prop := fun v s' => v = .int .i64 r.1 ∧ Hp sb s F0 s' [Ck.ov bp0 [.slice A0_0p p0_0.length c0_0p, .int .i64 r.2.1, .int .u64 r.2.2] 113]
set_option maxRecDepth 100000 in
set_option maxHeartbeats 4000000 in
theorem spec_l1Cur_next.ok (sb s : St) (F0 : Fp) (bp0 : Nat) (A0_0p : Option Addr) (c0_0p : Nat) (p0_0 : List (Int)) (p0_1 : Int) (p0_2 : Int) (HRp0_0 : Rd (Kd.int .u8) sb A0_0p c0_0p p0_0) (hH : Hp sb s F0 s [Ck.ov bp0 [.slice A0_0p p0_0.length c0_0p, .int .i64 p0_1, .int .u64 p0_2] 113]) (r : Int × Int × Int) (H : spec_l1Cur_next.f p0_0 p0_1 p0_2 = some r) : GCall Try.prog 183 #[.pointer (some ⟨bp0, 0, none⟩)] s (spec_l1Cur_next.post sb s F0 bp0 A0_0p c0_0p p0_0 r) := by
  refine GCall_ofk [.tmp 2] [.pointer (some ⟨bp0, 0, none⟩), undef, undef, undef, undef, undef, undef, undef, undef, undef, undef, undef, undef, undef, undef, undef, undef, undef, undef, undef, undef, undef, undef, undef, undef, undef, undef, undef, undef, undef, undef, undef, undef, undef, undef, undef, undef, undef, undef, undef, undef, undef, undef, undef, undef, undef, undef, undef, undef, undef, undef, undef, undef, undef, undef, undef, undef, undef, undef, undef, undef, undef] Try.func183 rfl rfl rfl ?_
  intro w Q hQr hQn hQp
  replace H := topE H
  unfold spec_l1Cur_next.f at H
  refine HT_seq_k ?_
  intro K1 hK1
  refine HT_region ?_
  refine HL_cons rfl ?_
  refine o_assign ?_
  try dsimp only [putL, setL, evL, getL]
  refine HL_nil ?_
  refine hK1 _ _ ?_
  refine HT_seq_k ?_
  intro K2 hK2
  refine HT_region ?_
  refine HL_cons rfl ?_
  refine o_assign ?_
  try dsimp only [putL, setL, evL, getL]
  refine HL_nil ?_
  refine hK2 _ _ ?_
  refine joinH H fun G3 hG3 H => ?_
  refine HT_joinK (fun l' s' => ∃ (x7 : Int), G3 x7 = some r ∧ l' = [.pointer (some ⟨bp0, 0, none⟩), undef, .int .i64 0, .int .i64 x7, getL l' 4, getL l' 5, getL l' 6, getL l' 7, getL l' 8, getL l' 9, getL l' 10, getL l' 11, getL l' 12, getL l' 13, getL l' 14, getL l' 15, getL l' 16, getL l' 17, getL l' 18, getL l' 19, getL l' 20, getL l' 21, getL l' 22, getL l' 23, getL l' 24, undef, undef, undef, undef, undef, undef, undef, undef, undef, undef, undef, undef, undef, undef, undef, undef, undef, undef, undef, undef, undef, undef, undef, undef, undef, undef, undef, undef, undef, undef, undef, undef, undef, undef, undef, undef, undef] ∧ Hp sb s F0 s' [Ck.ov bp0 [.slice A0_0p p0_0.length c0_0p, .int .i64 p0_1, .int .u64 p0_2] 113]) ?_ ?_
  · intro K3 hK3
    refine HT_seq_k ?_
    intro K8 hK8
    refine HX_draw hMix ?_
    refine HX_lim (R := fun _ => True) (k := 0) (fun s' => Gro s s') 11 ?_
    have hR := Gro.refl s
    have hH0 := hH
    refine HK_readP 0 (v := .pointer (some ⟨bp0, 0, none⟩)) rfl (by kernel_rfl) (fun c l s h => hQp c l s h) rfl (fun s' K hK => ?_) rfl rfl (fun _ => hR) ?_
    · refine o_move ?_
      exact hK
    try dsimp only [putL, setL, evL, getL]
    refine HK_readP 1 (v := .pointer (some ⟨bp0, 0, none⟩)) rfl (by kernel_rfl) (fun c l s h => hQp c l s h) rfl (fun s' K hK => ?_) rfl rfl (fun _ => hR) ?_
    · refine o_nilck rfl ?_
      exact hK
    try dsimp only [putL, setL, evL, getL]
    refine HK_readP 2 (v := .pointer (some ⟨bp0, 0 + 1, none⟩)) rfl (by kernel_rfl) (fun c l s h => hQp c l s h) rfl (fun s' K hK => ?_) rfl rfl (fun _ => hR) ?_
    · refine o_faddr' (ft := 3) (off := 1) rfl Try.underlying113 rfl tI3 (by decide) ?_
      exact hK
    try dsimp only [putL, setL, evL, getL]
    refine HK_read 3 (v := .int .i64 p0_1) rfl (by kernel_rfl) (fun c l s h => hQp c l s h) rfl (fun s' hR' K hK => ?_) rfl rfl hR ?_
    · refine o_load' rfl Try.underlying3 rfl (has_gro hR' (hH0.hasv 0 rfl rfl)) ?_
      exact hK
    try dsimp only [putL, setL, evL, getL]
    refine HK_readP 4 (v := .pointer (some ⟨bp0, 0, none⟩)) rfl (by kernel_rfl) (fun c l s h => hQp c l s h) rfl (fun s' K hK => ?_) rfl rfl (fun _ => hR) ?_
    · refine o_move ?_
      exact hK
    try dsimp only [putL, setL, evL, getL]
    refine HK_readP 5 (v := .pointer (some ⟨bp0, 0, none⟩)) rfl (by kernel_rfl) (fun c l s h => hQp c l s h) rfl (fun s' K hK => ?_) rfl rfl (fun _ => hR) ?_
    · refine o_nilck rfl ?_
      exact hK
    try dsimp only [putL, setL, evL, getL]
    refine HK_readP 6 (v := .pointer (some ⟨bp0, 0 + 0, none⟩)) rfl (by kernel_rfl) (fun c l s h => hQp c l s h) rfl (fun s' K hK => ?_) rfl rfl (fun _ => hR) ?_
    · refine o_faddr' (ft := 22) (off := 0) rfl Try.underlying113 rfl tI22 (by decide) ?_
      exact hK
    try dsimp only [putL, setL, evL, getL]
    refine HK_read 7 (v := .slice A0_0p p0_0.length c0_0p) rfl (by kernel_rfl) (fun c l s h => hQp c l s h) rfl (fun s' hR' K hK => ?_) rfl rfl hR ?_
    · refine o_load' rfl Try.underlying22 rfl (has_gro hR' (hH0.hasv 0 rfl rfl)) ?_
      exact hK
    try dsimp only [putL, setL, evL, getL]
    refine HK_readP 8 (v := .int .i64 (p0_0.length : Int)) rfl (by kernel_rfl) (fun c l s h => hQp c l s h) rfl (fun s' K hK => ?_) rfl rfl (fun _ => hR) ?_
    · refine o_len rfl Try.underlying22 ?_
      exact hK
    try dsimp only [putL, setL, evL, getL]
    refine HK_readP 9 (v := .bool (decide (p0_1 < (p0_0.length : Int)))) rfl (by kernel_rfl) (fun c l s h => hQp c l s h) rfl (fun s' K hK => ?_) rfl rfl (fun _ => hR) ?_
    · refine o_bin rfl rfl rfl ?_
      exact hK
    try dsimp only [putL, setL, evL, getL]
    refine HK_done (fun _ => hR) (by kernel_rfl) ?_
    refine hK8 _ _ ?_
    rcases Bool.eq_false_or_eq_true (decide (p0_1 < (p0_0.length : Int))) with hb9 | hb9
    · replace H := iteT hb9 H
      refine HT_true (congrArg Value.bool hb9) ?_
      refine HX_draw hMix ?_
      refine HX_lim (R := fun _ => True) (k := 0) (fun s' => Gro s s') 13 ?_
      have hR := Gro.refl s
      have hH0 := hH
      refine HK_readP 0 (v := .pointer (some ⟨bp0, 0, none⟩)) rfl (by kernel_rfl) (fun c l s h => hQp c l s h) rfl (fun s' K hK => ?_) rfl rfl (fun _ => hR) ?_
      · refine o_move ?_
        exact hK
      try dsimp only [putL, setL, evL, getL]
      refine HK_readP 1 (v := .pointer (some ⟨bp0, 0, none⟩)) rfl (by kernel_rfl) (fun c l s h => hQp c l s h) rfl (fun s' K hK => ?_) rfl rfl (fun _ => hR) ?_
      · refine o_nilck rfl ?_
        exact hK
      try dsimp only [putL, setL, evL, getL]
      refine HK_readP 2 (v := .pointer (some ⟨bp0, 0 + 0, none⟩)) rfl (by kernel_rfl) (fun c l s h => hQp c l s h) rfl (fun s' K hK => ?_) rfl rfl (fun _ => hR) ?_
      · refine o_faddr' (ft := 22) (off := 0) rfl Try.underlying113 rfl tI22 (by decide) ?_
        exact hK
      try dsimp only [putL, setL, evL, getL]
      refine HK_read 3 (v := .slice A0_0p p0_0.length c0_0p) rfl (by kernel_rfl) (fun c l s h => hQp c l s h) rfl (fun s' hR' K hK => ?_) rfl rfl hR ?_
      · refine o_load' rfl Try.underlying22 rfl (has_gro hR' (hH0.hasv 0 rfl rfl)) ?_
        exact hK
      try dsimp only [putL, setL, evL, getL]
      refine HK_readP 4 (v := .pointer (some ⟨bp0, 0, none⟩)) rfl (by kernel_rfl) (fun c l s h => hQp c l s h) rfl (fun s' K hK => ?_) rfl rfl (fun _ => hR) ?_
      · refine o_move ?_
        exact hK
      try dsimp only [putL, setL, evL, getL]
      refine HK_readP 5 (v := .pointer (some ⟨bp0, 0, none⟩)) rfl (by kernel_rfl) (fun c l s h => hQp c l s h) rfl (fun s' K hK => ?_) rfl rfl (fun _ => hR) ?_
      · refine o_nilck rfl ?_
        exact hK
      try dsimp only [putL, setL, evL, getL]
      refine HK_readP 6 (v := .pointer (some ⟨bp0, 0 + 1, none⟩)) rfl (by kernel_rfl) (fun c l s h => hQp c l s h) rfl (fun s' K hK => ?_) rfl rfl (fun _ => hR) ?_
      · refine o_faddr' (ft := 3) (off := 1) rfl Try.underlying113 rfl tI3 (by decide) ?_
        exact hK
      try dsimp only [putL, setL, evL, getL]
      refine HK_read 7 (v := .int .i64 p0_1) rfl (by kernel_rfl) (fun c l s h => hQp c l s h) rfl (fun s' hR' K hK => ?_) rfl rfl hR ?_
      · refine o_load' rfl Try.underlying3 rfl (has_gro hR' (hH0.hasv 0 rfl rfl)) ?_
        exact hK
      try dsimp only [putL, setL, evL, getL]
      replace H := headE H
      obtain ⟨u10, hu10, H⟩ := H
      obtain ⟨b10, o10, cs10, hr10, hh10, hel10⟩ := Rd.elb HRp0_0 hu10
      obtain rfl := hr10
      refine HK_readP 8 (v := .pointer (some ⟨b10, o10, none⟩)) rfl (by kernel_rfl) (fun c l s h => hQp c l s h) rfl (fun s' K hK => ?_) rfl rfl (fun _ => hR) ?_
      · refine hel10 s' rfl rfl Try.underlying22 tI5 ?_
        exact hK
      try dsimp only [putL, setL, evL, getL]
      refine HK_read 9 (v := .int .u8 u10) rfl (by kernel_rfl) (fun c l s h => hQp c l s h) rfl (fun s' hR' K hK => ?_) rfl rfl hR ?_
      · refine o_load' rfl Try.underlying5 rfl ((hh10 (hH0.bs.mono.trans hR'.mono)) 0 _ rfl) ?_
        exact hK
      try dsimp only [putL, setL, evL, getL]
      refine HK_readP 10 (v := .int .i64 (IntKind.i64.wrap u10)) rfl (by kernel_rfl) (fun c l s h => hQp c l s h) rfl (fun s' K hK => ?_) rfl rfl (fun _ => hR) ?_
      · refine o_conv rfl Try.underlying5 Try.underlying3 ?_
        exact hK
      try dsimp only [putL, setL, evL, getL]
      refine HK_more [11] (by kernel_rfl) rfl (fun _ => hR) ⟨⟨_, rfl, Or.inl ⟨rfl, ?_⟩⟩, trivial⟩
      skip
      refine o_assign ?_
      try dsimp only [putL, setL, evL, getL]
      refine HK_done (fun _ => hR) (by kernel_rfl) ?_
      exact hK3 _ _ ⟨IntKind.i64.wrap u10, H, rfl, hH⟩
    · replace H := iteF hb9 H
      refine HT_false (congrArg Value.bool hb9) ?_
      refine HT_skip ?_
      exact hK3 _ _ ⟨0, H, rfl, hH⟩
  · rintro l' s11 ⟨x7, H, hl, hH⟩
    generalize getL l' 4 = j4, getL l' 5 = j5, getL l' 6 = j6, getL l' 7 = j7, getL l' 8 = j8, getL l' 9 = j9, getL l' 10 = j10, getL l' 11 = j11, getL l' 12 = j12, getL l' 13 = j13, getL l' 14 = j14, getL l' 15 = j15, getL l' 16 = j16, getL l' 17 = j17, getL l' 18 = j18, getL l' 19 = j19, getL l' 20 = j20, getL l' 21 = j21, getL l' 22 = j22, getL l' 23 = j23, getL l' 24 = j24 at hl
    subst hl
    replace H := hG3 _ H
    try dsimp only at H
    refine HT_seq_k ?_
    intro K12 hK12
    refine HT_region ?_
    refine HL_cons rfl ?_
    refine o_move ?_
    try dsimp only [putL, setL, evL, getL]
    refine HL_cons rfl ?_
    refine o_nilck rfl ?_
    try dsimp only [putL, setL, evL, getL]
    refine HL_cons rfl ?_
    refine o_faddr' (ft := 3) (off := 1) rfl Try.underlying113 rfl tI3 (by decide) ?_
    try dsimp only [putL, setL, evL, getL]
    refine HL_cons rfl ?_
    refine o_load' rfl Try.underlying3 rfl (hH.hasv 0 rfl rfl) ?_
    try dsimp only [putL, setL, evL, getL]
    refine HL_cons rfl ?_
    refine o_bin rfl rfl rfl ?_
    try dsimp only [putL, setL, evL, getL]
    refine HL_cons rfl ?_
    refine o_nilck rfl ?_
    try dsimp only [putL, setL, evL, getL]
    refine HL_cons rfl ?_
    refine o_faddr' (ft := 3) (off := 1) rfl Try.underlying113 rfl tI3 (by decide) ?_
    try dsimp only [putL, setL, evL, getL]
    refine HL_cons rfl ?_
    refine o_stvH (vs := [.int .i64 (IntKind.i64.wrap (p0_1 + 1))]) (us' := [.slice A0_0p p0_0.length c0_0p, .int .i64 (IntKind.i64.wrap (p0_1 + 1)), .int .u64 p0_2]) hH 0 rfl rfl rfl rfl rfl tI3 rfl (List.cons_ne_nil _ _) rfl rfl rfl ?_
    intro s13 hH'
    replace hH : Hp sb s F0 s13 [Ck.ov bp0 [.slice A0_0p p0_0.length c0_0p, .int .i64 (IntKind.i64.wrap (p0_1 + 1)), .int .u64 p0_2] 113] := hH'
    clear hH'
    try dsimp only [putL, setL, evL, getL]
    refine HL_nil ?_
    refine hK12 _ _ ?_
    refine HT_seq_k ?_
    intro K14 hK14
    refine HT_region ?_
    refine HL_cons rfl ?_
    refine o_move ?_
    try dsimp only [putL, setL, evL, getL]
    refine HL_cons rfl ?_
    refine o_move ?_
    try dsimp only [putL, setL, evL, getL]
    refine HL_cons rfl ?_
    refine o_nilck rfl ?_
    try dsimp only [putL, setL, evL, getL]
    refine HL_cons rfl ?_
    refine o_faddr' (ft := 111) (off := 2) rfl Try.underlying113 rfl tI111 (by decide) ?_
    try dsimp only [putL, setL, evL, getL]
    refine HL_cons rfl ?_
    refine o_load' rfl Try.underlying111 rfl (hH.hasv 0 rfl rfl) ?_
    try dsimp only [putL, setL, evL, getL]
    refine HL_cons rfl ?_
    refine o_bin rfl rfl rfl ?_
    try dsimp only [putL, setL, evL, getL]
    refine HL_cons rfl ?_
    refine o_move ?_
    try dsimp only [putL, setL, evL, getL]
    refine HL_cons rfl ?_
    refine o_conv rfl Try.underlying3 Try.underlying111 ?_
    try dsimp only [putL, setL, evL, getL]
    refine HL_cons rfl ?_
    refine o_bin rfl rfl rfl ?_
    try dsimp only [putL, setL, evL, getL]
    refine HL_cons rfl ?_
    refine o_bin rfl rfl rfl ?_
    try dsimp only [putL, setL, evL, getL]
    refine HL_cons rfl ?_
    refine o_nilck rfl ?_
    try dsimp only [putL, setL, evL, getL]
    refine HL_cons rfl ?_
    refine o_faddr' (ft := 111) (off := 2) rfl Try.underlying113 rfl tI111 (by decide) ?_
    try dsimp only [putL, setL, evL, getL]
    refine HL_cons rfl ?_
    refine o_stvH (vs := [.int .u64 (IntKind.u64.wrap ((IntKind.u64.wrap ((IntKind.u64.wrap (p0_2 * 6364136223846793005)) + (IntKind.u64.wrap x7))) + 1442695040888963407))]) (us' := [.slice A0_0p p0_0.length c0_0p, .int .i64 (IntKind.i64.wrap (p0_1 + 1)), .int .u64 (IntKind.u64.wrap ((IntKind.u64.wrap ((IntKind.u64.wrap (p0_2 * 6364136223846793005)) + (IntKind.u64.wrap x7))) + 1442695040888963407))]) hH 0 rfl rfl rfl rfl rfl tI111 rfl (List.cons_ne_nil _ _) rfl rfl rfl ?_
    intro s15 hH'
    replace hH : Hp sb s F0 s15 [Ck.ov bp0 [.slice A0_0p p0_0.length c0_0p, .int .i64 (IntKind.i64.wrap (p0_1 + 1)), .int .u64 (IntKind.u64.wrap ((IntKind.u64.wrap ((IntKind.u64.wrap (p0_2 * 6364136223846793005)) + (IntKind.u64.wrap x7))) + 1442695040888963407))] 113] := hH'
    clear hH'
    try dsimp only [putL, setL, evL, getL]
    refine HL_nil ?_
    refine hK14 _ _ ?_
    refine HT_seq_k ?_
    intro K16 hK16
    refine HT_seq_k ?_
    intro K17 hK17
    refine HX_draw hMix ?_
    refine HX_lim (R := fun _ => True) (k := 0) (fun s' => Gro s15 s') 11 ?_
    have hR := Gro.refl s15
    have hH0 := hH
    refine HK_readP 0 (v := .pointer (some ⟨bp0, 0, none⟩)) rfl (by kernel_rfl) (fun c l s h => hQp c l s h) rfl (fun s' K hK => ?_) rfl rfl (fun _ => hR) ?_
    · refine o_move ?_
      exact hK
    try dsimp only [putL, setL, evL, getL]
    refine HK_readP 1 (v := .pointer (some ⟨bp0, 0, none⟩)) rfl (by kernel_rfl) (fun c l s h => hQp c l s h) rfl (fun s' K hK => ?_) rfl rfl (fun _ => hR) ?_
    · refine o_nilck rfl ?_
      exact hK
    try dsimp only [putL, setL, evL, getL]
    refine HK_readP 2 (v := .pointer (some ⟨bp0, 0 + 1, none⟩)) rfl (by kernel_rfl) (fun c l s h => hQp c l s h) rfl (fun s' K hK => ?_) rfl rfl (fun _ => hR) ?_
    · refine o_faddr' (ft := 3) (off := 1) rfl Try.underlying113 rfl tI3 (by decide) ?_
      exact hK
    try dsimp only [putL, setL, evL, getL]
    refine HK_read 3 (v := .int .i64 (IntKind.i64.wrap (p0_1 + 1))) rfl (by kernel_rfl) (fun c l s h => hQp c l s h) rfl (fun s' hR' K hK => ?_) rfl rfl hR ?_
    · refine o_load' rfl Try.underlying3 rfl (has_gro hR' (hH0.hasv 0 rfl rfl)) ?_
      exact hK
    try dsimp only [putL, setL, evL, getL]
    refine HK_readP 4 (v := .pointer (some ⟨bp0, 0, none⟩)) rfl (by kernel_rfl) (fun c l s h => hQp c l s h) rfl (fun s' K hK => ?_) rfl rfl (fun _ => hR) ?_
    · refine o_move ?_
      exact hK
    try dsimp only [putL, setL, evL, getL]
    refine HK_readP 5 (v := .pointer (some ⟨bp0, 0, none⟩)) rfl (by kernel_rfl) (fun c l s h => hQp c l s h) rfl (fun s' K hK => ?_) rfl rfl (fun _ => hR) ?_
    · refine o_nilck rfl ?_
      exact hK
    try dsimp only [putL, setL, evL, getL]
    refine HK_readP 6 (v := .pointer (some ⟨bp0, 0 + 0, none⟩)) rfl (by kernel_rfl) (fun c l s h => hQp c l s h) rfl (fun s' K hK => ?_) rfl rfl (fun _ => hR) ?_
    · refine o_faddr' (ft := 22) (off := 0) rfl Try.underlying113 rfl tI22 (by decide) ?_
      exact hK
    try dsimp only [putL, setL, evL, getL]
    refine HK_read 7 (v := .slice A0_0p p0_0.length c0_0p) rfl (by kernel_rfl) (fun c l s h => hQp c l s h) rfl (fun s' hR' K hK => ?_) rfl rfl hR ?_
    · refine o_load' rfl Try.underlying22 rfl (has_gro hR' (hH0.hasv 0 rfl rfl)) ?_
      exact hK
    try dsimp only [putL, setL, evL, getL]
    refine HK_readP 8 (v := .int .i64 (p0_0.length : Int)) rfl (by kernel_rfl) (fun c l s h => hQp c l s h) rfl (fun s' K hK => ?_) rfl rfl (fun _ => hR) ?_
    · refine o_len rfl Try.underlying22 ?_
      exact hK
    try dsimp only [putL, setL, evL, getL]
    refine HK_readP 9 (v := .bool (decide ((IntKind.i64.wrap (p0_1 + 1)) ≤ (p0_0.length : Int)))) rfl (by kernel_rfl) (fun c l s h => hQp c l s h) rfl (fun s' K hK => ?_) rfl rfl (fun _ => hR) ?_
    · refine o_bin rfl rfl rfl ?_
      exact hK
    try dsimp only [putL, setL, evL, getL]
    refine HK_done (fun _ => hR) (by kernel_rfl) ?_
    refine hK17 _ _ ?_
    rcases Bool.eq_false_or_eq_true (decide ((IntKind.i64.wrap (p0_1 + 1)) ≤ (p0_0.length : Int))) with hb18 | hb18
    · replace H := iteT hb18 H
      refine HT_true (congrArg Value.bool hb18) ?_
      refine HT_seq_k ?_
      intro K19 hK19
      refine HT_region ?_
      refine HL_cons rfl ?_
      refine o_move ?_
      try dsimp only [putL, setL, evL, getL]
      refine HL_cons rfl ?_
      refine o_assign ?_
      try dsimp only [putL, setL, evL, getL]
      refine HL_nil ?_
      refine hK19 _ _ ?_
      refine HT_ret ?_
      exact hQr _ _ [.int .i64 x7] ⟨rfl, trivial⟩ (retH (fun r => spec_l1Cur_next.post sb s F0 bp0 A0_0p c0_0p p0_0 r _ _) (show some _ = some r from H) ⟨rfl, hH⟩)
    · replace H := iteF hb18 H
      refine HT_false (congrArg Value.bool hb18) ?_
      refine HT_skip ?_
      refine hK16 _ _ ?_
      refine HT_seq_k ?_
      intro K20 hK20
      refine HT_region ?_
      refine HL_cons rfl ?_
      refine o_move ?_
      try dsimp only [putL, setL, evL, getL]
      refine HL_cons rfl ?_
      refine o_nilck rfl ?_
      try dsimp only [putL, setL, evL, getL]
      refine HL_cons rfl ?_
      refine o_faddr' (ft := 111) (off := 2) rfl Try.underlying113 rfl tI111 (by decide) ?_
      try dsimp only [putL, setL, evL, getL]
      refine HL_cons rfl ?_
      refine o_load' rfl Try.underlying111 rfl (hH.hasv 0 rfl rfl) ?_
      try dsimp only [putL, setL, evL, getL]
      replace H := headE H
      obtain ⟨u21, hu21, H⟩ := H
      refine HL_cons rfl ?_
      refine o_shrK rfl rfl hu21 ?_
      try dsimp only [putL, setL, evL, getL]
      refine HL_cons rfl ?_
      refine o_bin rfl rfl rfl ?_
      try dsimp only [putL, setL, evL, getL]
      refine HL_cons rfl ?_
      refine o_conv rfl Try.underlying111 Try.underlying3 ?_
      try dsimp only [putL, setL, evL, getL]
      refine HL_cons rfl ?_
      refine o_assign ?_
      try dsimp only [putL, setL, evL, getL]
      refine HL_nil ?_
      refine hK20 _ _ ?_
      refine HT_ret ?_
      exact hQr _ _ [.int .i64 (IntKind.i64.wrap (bits .and .u64 u21 255))] ⟨rfl, trivial⟩ (retH (fun r => spec_l1Cur_next.post sb s F0 bp0 A0_0p c0_0p p0_0 r _ _) (show some _ = some r from H) ⟨rfl, hH⟩)
def spec_l1Cur_pick.f (p0_0 : List (Int)) (p0_1 : Int) (p0_2 : Int) (p1 : Int) : Option (Int × Int × Int) := if (decide (p1 ≤ 1)) = true then (some (0, p0_1, p0_2)) else ((spec_l1Cur_next.f p0_0 p0_1 p0_2).bind fun u7 => (if (decide (p1 > 200)) = true then ((spec_l1Cur_next.f p0_0 u7.2.1 u7.2.2).bind fun u17 => some ((IntKind.i64.wrap ((IntKind.i64.wrap (u7.1 * 256)) + u17.1)), u17.2.1, u17.2.2)) else (some (u7.1, u7.2.1, u7.2.2))).bind fun (o : Int × Int × Int) => match o with | (x12, x13, x14) => ((rem? x12 p1).bind fun u20 => some (u20, x13, x14)))
def spec_l1Cur_pick.post (sb s : St) (F0 : Fp) (bp0 : Nat) (A0_0p : Option Addr) (c0_0p : Nat) (p0_0 : List (Int)) (r : Int × Int × Int) : Value → St → Prop := fun v s' => v = .int .i64 r.1 ∧ Hp sb s F0 s' [Ck.ov bp0 [.slice A0_0p p0_0.length c0_0p, .int .i64 r.2.1, .int .u64 r.2.2] 113]
set_option maxRecDepth 100000 in
set_option maxHeartbeats 4000000 in
theorem spec_l1Cur_pick.ok (sb s : St) (F0 : Fp) (bp0 : Nat) (A0_0p : Option Addr) (c0_0p : Nat) (p0_0 : List (Int)) (p0_1 : Int) (p0_2 : Int) (p1 : Int) (HRp0_0 : Rd (Kd.int .u8) sb A0_0p c0_0p p0_0) (hH : Hp sb s F0 s [Ck.ov bp0 [.slice A0_0p p0_0.length c0_0p, .int .i64 p0_1, .int .u64 p0_2] 113]) (r : Int × Int × Int) (H : spec_l1Cur_pick.f p0_0 p0_1 p0_2 p1 = some r) : GCall Try.prog 112 #[.pointer (some ⟨bp0, 0, none⟩), .int .i64 p1] s (spec_l1Cur_pick.post sb s F0 bp0 A0_0p c0_0p p0_0 r) := by
  refine GCall_ofk [.tmp 4] [.pointer (some ⟨bp0, 0, none⟩), .int .i64 p1, undef, undef, undef, undef, undef, undef, undef, undef, undef, undef, undef, undef, undef, undef, undef, undef, undef, undef] Try.func112 rfl rfl rfl ?_
  intro w Q hQr hQn hQp
  replace H := topE H
  unfold spec_l1Cur_pick.f at H
  refine HT_seq_k ?_
  intro K1 hK1
  refine HT_region ?_
  refine HL_cons rfl ?_
  refine o_assign ?_
  try dsimp only [putL, setL, evL, getL]
  refine HL_nil ?_
  refine hK1 _ _ ?_
  refine HT_seq_k ?_
  intro K2 hK2
  refine HT_seq_k ?_
  intro K3 hK3
  refine HT_region ?_
  refine HL_cons rfl ?_
  refine o_move ?_
  try dsimp only [putL, setL, evL, getL]
  refine HL_cons rfl ?_
  refine o_bin rfl rfl rfl ?_
  try dsimp only [putL, setL, evL, getL]
  refine HL_nil ?_
  refine hK3 _ _ ?_
  rcases Bool.eq_false_or_eq_true (decide (p1 ≤ 1)) with hb4 | hb4
  · replace H := iteT hb4 H
    refine HT_true (congrArg Value.bool hb4) ?_
    refine HT_seq_k ?_
    intro K5 hK5
    refine HT_region ?_
    refine HL_cons rfl ?_
    refine o_assign ?_
    try dsimp only [putL, setL, evL, getL]
    refine HL_nil ?_
    refine hK5 _ _ ?_
    refine HT_ret ?_
    exact hQr _ _ [.int .i64 0] ⟨rfl, trivial⟩ (retH (fun r => spec_l1Cur_pick.post sb s F0 bp0 A0_0p c0_0p p0_0 r _ _) (show some _ = some r from H) ⟨rfl, hH⟩)
  · replace H := iteF hb4 H
    refine HT_false (congrArg Value.bool hb4) ?_
    refine HT_skip ?_
    refine hK2 _ _ ?_
    refine HT_seq_k ?_
    intro K6 hK6
    refine HT_region ?_
    refine HL_cons rfl ?_
    refine o_move ?_
    try dsimp only [putL, setL, evL, getL]
    replace H := headE H
    obtain ⟨u7, hu7, H⟩ := H
    obtain ⟨F1, hA, hB⟩ := hH.take [0] (by decide)
    dsimp only [addC, setC, rmC, selC, getC] at hA
    refine HL_cons rfl ?_
    refine o_call (args := #[.pointer (some ⟨bp0, 0, none⟩)]) Try.func183 rfl rfl rfl (spec_l1Cur_next.ok sb s F1 bp0 A0_0p c0_0p p0_0 p0_1 p0_2 HRp0_0 hA _ hu7) ?_
    rintro _ s7 ⟨rfl, hD⟩
    replace hH := hB _ _ _ (Up.refl _ _ _) hD
    clear hD hA hB
    dsimp only [addC, setC, rmC, selC, getC] at hH
    try dsimp only [putL, setL, evL, getL]
    refine HL_cons rfl ?_
    refine o_assign ?_
    try dsimp only [putL, setL, evL, getL]
    refine HL_nil ?_
    refine hK6 _ _ ?_
    refine joinH H fun G8 hG8 H => ?_
    refine HT_joinK (fun l' s' => ∃ (x12 : Int) (x13 : Int) (x14 : Int), G8 (x12, x13, x14) = some r ∧ l' = [.pointer (some ⟨bp0, 0, none⟩), .int .i64 p1, undef, undef, .int .i64 0, .int .i64 x12, .int .i64 p1, .bool (decide (p1 ≤ 1)), .pointer (some ⟨bp0, 0, none⟩), .int .i64 u7.1, getL l' 10, getL l' 11, getL l' 12, getL l' 13, getL l' 14, getL l' 15, getL l' 16, undef, undef, undef] ∧ Hp sb s F0 s' [Ck.ov bp0 [.slice A0_0p p0_0.length c0_0p, .int .i64 x13, .int .u64 x14] 113]) ?_ ?_
    · intro K8 hK8
      refine HT_seq_k ?_
      intro K15 hK15
      refine HT_region ?_
      refine HL_cons rfl ?_
      refine o_move ?_
      try dsimp only [putL, setL, evL, getL]
      refine HL_cons rfl ?_
      refine o_bin rfl rfl rfl ?_
      try dsimp only [putL, setL, evL, getL]
      refine HL_nil ?_
      refine hK15 _ _ ?_
      rcases Bool.eq_false_or_eq_true (decide (p1 > 200)) with hb16 | hb16
      · replace H := iteT hb16 H
        refine HT_true (congrArg Value.bool hb16) ?_
        refine HT_region ?_
        refine HL_cons rfl ?_
        refine o_move ?_
        try dsimp only [putL, setL, evL, getL]
        refine HL_cons rfl ?_
        refine o_bin rfl rfl rfl ?_
        try dsimp only [putL, setL, evL, getL]
        refine HL_cons rfl ?_
        refine o_move ?_
        try dsimp only [putL, setL, evL, getL]
        replace H := headE H
        obtain ⟨u17, hu17, H⟩ := H
        obtain ⟨F1, hA, hB⟩ := hH.take [1] (by decide)
        dsimp only [addC, setC, rmC, selC, getC] at hA
        refine HL_cons rfl ?_
        refine o_call (args := #[.pointer (some ⟨bp0, 0, none⟩)]) Try.func183 rfl rfl rfl (spec_l1Cur_next.ok sb s7 F1 bp0 A0_0p c0_0p p0_0 u7.2.1 u7.2.2 HRp0_0 hA _ hu17) ?_
        rintro _ s17 ⟨rfl, hD⟩
        replace hH := hB _ _ _ (Up.refl _ _ _) hD
        clear hD hA hB
        dsimp only [addC, setC, rmC, selC, getC] at hH
        try dsimp only [putL, setL, evL, getL]
        refine HL_cons rfl ?_
        refine o_bin rfl rfl rfl ?_
        try dsimp only [putL, setL, evL, getL]
        refine HL_cons rfl ?_
        refine o_assign ?_
        try dsimp only [putL, setL, evL, getL]
        refine HL_nil ?_
        exact hK8 _ _ ⟨IntKind.i64.wrap ((IntKind.i64.wrap (u7.1 * 256)) + u17.1), u17.2.1, u17.2.2, H, rfl, hH.sel [2] (by decide)⟩
      · replace H := iteF hb16 H
        refine HT_false (congrArg Value.bool hb16) ?_
        refine HT_skip ?_
        exact hK8 _ _ ⟨u7.1, u7.2.1, u7.2.2, H, rfl, hH.sel [1] (by decide)⟩
    · rintro l' s18 ⟨x12, x13, x14, H, hl, hH⟩
      generalize getL l' 10 = j10, getL l' 11 = j11, getL l' 12 = j12, getL l' 13 = j13, getL l' 14 = j14, getL l' 15 = j15, getL l' 16 = j16 at hl
      subst hl
      replace H := hG8 _ H
      try dsimp only at H
      refine HT_seq_k ?_
      intro K19 hK19
      refine HT_region ?_
      refine HL_cons rfl ?_
      refine o_move ?_
      try dsimp only [putL, setL, evL, getL]
      refine HL_cons rfl ?_
      refine o_move ?_
      try dsimp only [putL, setL, evL, getL]
      replace H := headE H
      obtain ⟨u20, hu20, H⟩ := H
      refine HL_cons rfl ?_
      refine o_rem' rfl rfl hu20 ?_
      try dsimp only [putL, setL, evL, getL]
      refine HL_cons rfl ?_
      refine o_assign ?_
      try dsimp only [putL, setL, evL, getL]
      refine HL_nil ?_
      refine hK19 _ _ ?_
      refine HT_ret ?_
      exact hQr _ _ [.int .i64 u20] ⟨rfl, trivial⟩ (retH (fun r => spec_l1Cur_pick.post sb s F0 bp0 A0_0p c0_0p p0_0 r _ _) (show some _ = some r from H) ⟨rfl, hH⟩)
def spec_l1Cur_among.f (p0_0 : List (Int)) (p0_1 : Int) (p0_2 : Int) (p1 : List (Int)) : Option (Int × Int × Int) := (spec_l1Cur_pick.f p0_0 p0_1 p0_2 (p1.length : Int)).bind fun u3 => (rd? p1 u3.1).bind fun u4 => some (u4, u3.2.1, u3.2.2)
def spec_l1Cur_among.post (sb s : St) (F0 : Fp) (bp0 : Nat) (A0_0p : Option Addr) (c0_0p : Nat) (p0_0 : List (Int)) (r : Int × Int × Int) : Value → St → Prop := fun v s' => v = .int .i64 r.1 ∧ Hp sb s F0 s' [Ck.ov bp0 [.slice A0_0p p0_0.length c0_0p, .int .i64 r.2.1, .int .u64 r.2.2] 113]
set_option maxRecDepth 100000 in
set_option maxHeartbeats 4000000 in
theorem spec_l1Cur_among.ok (sb s : St) (F0 : Fp) (bp0 : Nat) (A0_0p : Option Addr) (c0_0p : Nat) (p0_0 : List (Int)) (p0_1 : Int) (p0_2 : Int) (A1p : Option Addr) (c1p : Nat) (p1 : List (Int)) (HRp0_0 : Rd (Kd.int .u8) sb A0_0p c0_0p p0_0) (HRp1 : Rd KI sb A1p c1p p1) (hH : Hp sb s F0 s [Ck.ov bp0 [.slice A0_0p p0_0.length c0_0p, .int .i64 p0_1, .int .u64 p0_2] 113]) (r : Int × Int × Int) (H : spec_l1Cur_among.f p0_0 p0_1 p0_2 p1 = some r) : GCall Try.prog 104 #[.pointer (some ⟨bp0, 0, none⟩), .slice A1p p1.length c1p] s (spec_l1Cur_among.post sb s F0 bp0 A0_0p c0_0p p0_0 r) := by
  refine GCall_ofk [.tmp 4] [.pointer (some ⟨bp0, 0, none⟩), .slice A1p p1.length c1p, undef, undef, undef, undef, undef, undef, undef, undef, undef, undef] Try.func104 rfl rfl rfl ?_
  intro w Q hQr hQn hQp
  replace H := topE H
  unfold spec_l1Cur_among.f at H
  refine HT_seq_k ?_
  intro K1 hK1
  refine HT_region ?_
  refine HL_cons rfl ?_
  refine o_assign ?_
  try dsimp only [putL, setL, evL, getL]
  refine HL_nil ?_
  refine hK1 _ _ ?_
  refine HT_seq_k ?_
  intro K2 hK2
  refine HT_region ?_
  refine HL_cons rfl ?_
  refine o_move ?_
  try dsimp only [putL, setL, evL, getL]
  refine HL_cons rfl ?_
  refine o_move ?_
  try dsimp only [putL, setL, evL, getL]
  refine HL_cons rfl ?_
  refine o_move ?_
  try dsimp only [putL, setL, evL, getL]
  refine HL_cons rfl ?_
  refine o_len rfl Try.underlying24 ?_
  try dsimp only [putL, setL, evL, getL]
  replace H := headE H
  obtain ⟨u3, hu3, H⟩ := H
  obtain ⟨F1, hA, hB⟩ := hH.take [0] (by decide)
  dsimp only [addC, setC, rmC, selC, getC] at hA
  refine HL_cons rfl ?_
  refine o_call (args := #[.pointer (some ⟨bp0, 0, none⟩), .int .i64 (p1.length : Int)]) Try.func112 rfl rfl rfl (spec_l1Cur_pick.ok sb s F1 bp0 A0_0p c0_0p p0_0 p0_1 p0_2 (p1.length : Int) HRp0_0 hA _ hu3) ?_
  rintro _ s3 ⟨rfl, hD⟩
  replace hH := hB _ _ _ (Up.refl _ _ _) hD
  clear hD hA hB
  dsimp only [addC, setC, rmC, selC, getC] at hH
  try dsimp only [putL, setL, evL, getL]
  replace H := headE H
  obtain ⟨u4, hu4, H⟩ := H
  obtain ⟨b4, o4, cs4, hr4, hh4, hel4⟩ := Rd.elb HRp1 hu4
  obtain rfl := hr4
  refine HL_cons rfl ?_
  refine hel4 s3 rfl rfl Try.underlying24 tI3 ?_
  try dsimp only [putL, setL, evL, getL]
  refine HL_cons rfl ?_
  refine o_load' rfl Try.underlying3 rfl ((hh4 hH.bs.mono) 0 _ rfl) ?_
  try dsimp only [putL, setL, evL, getL]
  refine HL_cons rfl ?_
  refine o_assign ?_
  try dsimp only [putL, setL, evL, getL]
  refine HL_nil ?_
  refine hK2 _ _ ?_
  refine HT_ret ?_
  exact hQr _ _ [.int .i64 u4] ⟨rfl, trivial⟩ (retH (fun r => spec_l1Cur_among.post sb s F0 bp0 A0_0p c0_0p p0_0 r _ _) (show some _ = some r from H) ⟨rfl, hH.sel [1] (by decide)⟩)
def spec_l1Least.f (p0 : Int) (p1 : Int) : Option Int := if (decide (p0 < p1)) = true then (some p0) else (some p1)
def spec_l1Least.post (sb s : St) (F0 : Fp) (r : Int) : Value → St → Prop := fun v s' => v = .int .i64 r ∧ Hp sb s F0 s' []
set_option maxRecDepth 100000 in
set_option maxHeartbeats 4000000 in
theorem spec_l1Least.ok (sb s : St) (F0 : Fp) (p0 : Int) (p1 : Int) (hH : Hp sb s F0 s []) (r : Int) (H : spec_l1Least.f p0 p1 = some r) : GCall Try.prog 182 #[.int .i64 p0, .int .i64 p1] s (spec_l1Least.post sb s F0 r) := by
  refine GCall_ofk [.tmp 4] [.int .i64 p0, .int .i64 p1, undef, undef, undef, undef, undef, undef, undef, undef] Try.func182 rfl rfl rfl ?_
  intro w Q hQr hQn hQp
  replace H := topE H
  unfold spec_l1Least.f at H
  refine HT_seq_k ?_
  intro K1 hK1
  refine HT_region ?_
  refine HL_cons rfl ?_
  refine o_assign ?_
  try dsimp only [putL, setL, evL, getL]
  refine HL_nil ?_
  refine hK1 _ _ ?_
  refine HT_seq_k ?_
  intro K2 hK2
  refine HT_seq_k ?_
  intro K3 hK3
  refine HT_region ?_
  refine HL_cons rfl ?_
  refine o_move ?_
  try dsimp only [putL, setL, evL, getL]
  refine HL_cons rfl ?_
  refine o_move ?_
  try dsimp only [putL, setL, evL, getL]
  refine HL_cons rfl ?_
  refine o_bin rfl rfl rfl ?_
  try dsimp only [putL, setL, evL, getL]
  refine HL_nil ?_
  refine hK3 _ _ ?_
  rcases Bool.eq_false_or_eq_true (decide (p0 < p1)) with hb4 | hb4
  · replace H := iteT hb4 H
    refine HT_true (congrArg Value.bool hb4) ?_
    refine HT_seq_k ?_
    intro K5 hK5
    refine HT_region ?_
    refine HL_cons rfl ?_
    refine o_move ?_
    try dsimp only [putL, setL, evL, getL]
    refine HL_cons rfl ?_
    refine o_assign ?_
    try dsimp only [putL, setL, evL, getL]
    refine HL_nil ?_
    refine hK5 _ _ ?_
    refine HT_ret ?_
    exact hQr _ _ [.int .i64 p0] ⟨rfl, trivial⟩ (retH (fun r => spec_l1Least.post sb s F0 r _ _) (show some _ = some r from H) ⟨rfl, hH⟩)
  · replace H := iteF hb4 H
    refine HT_false (congrArg Value.bool hb4) ?_
    refine HT_skip ?_
    refine hK2 _ _ ?_
    refine HT_seq_k ?_
    intro K6 hK6
    refine HT_region ?_
    refine HL_cons rfl ?_
    refine o_move ?_
    try dsimp only [putL, setL, evL, getL]
    refine HL_cons rfl ?_
    refine o_assign ?_
    try dsimp only [putL, setL, evL, getL]
    refine HL_nil ?_
    refine hK6 _ _ ?_
    refine HT_ret ?_
    exact hQr _ _ [.int .i64 p1] ⟨rfl, trivial⟩ (retH (fun r => spec_l1Least.post sb s F0 r _ _) (show some _ = some r from H) ⟨rfl, hH⟩)
def spec_l1Cur_buf.l1 (p0_0 : List (Int)) : Nat → Int → Int → Int → (List (Int)) → (List (Int)) → Option (Int × Int × (List (Int)) × (List (Int)))
  | 0, _, _, _, _, _ => none
  | kf + 1, x425, x426, x427, x428, x429 => if (decide (x425 > 0)) = true then ((((spec_l1Cur_among.f p0_0 x426 x427 [97, 98, 97, 99, 12354]).bind fun u595 => (app? 17592186044416 x428 [u595.1]).bind fun x597 => some (u595.2.1, u595.2.2, x597)).bind fun (o : Int × Int × (List (Int))) => match o with | (x591, x592, x593) => ((spec_l1Cur_pick.f p0_0 x591 x592 3).bind fun u609 => (app? 17592186044416 x429 [IntKind.i64.wrap (1 + u609.1)]).bind fun x611 => some (u609.2.1, u609.2.2, x593, x611))).bind fun (o : Int × Int × (List (Int)) × (List (Int))) => match o with | (x572, x573, x574, x575) => (spec_l1Cur_buf.l1 p0_0 kf (IntKind.i64.wrap (x425 - 1)) x572 x573 x574 x575)) else (some (x426, x427, x428, x429))
def spec_l1Cur_buf.f (p0_0 : List (Int)) (p0_1 : Int) (p0_2 : Int) : Option (Int × (List (Int)) × (List (Int)) × Int × Int × Int) := (spec_l1Cur_among.f p0_0 p0_1 p0_2 [1, 3, 5, 10, 20, 60, 0, 61]).bind fun u5 => (spec_l1Cur_pick.f p0_0 u5.2.1 u5.2.2 5).bind fun u6 => (spec_l1Least.f 12 (IntKind.i64.wrap (u5.1 + 1))).bind fun u11 => (spec_l1Cur_pick.f p0_0 u6.2.1 u6.2.2 u11).bind fun u12 => (spec_l1Cur_buf.l1 p0_0 (((u12.1) - (0)).toNat + 2) u12.1 u12.2.1 u12.2.2 [] []).bind fun (o : Int × Int × (List (Int)) × (List (Int))) => match o with | (x314, x315, x316, x317) => (((spec_l1Cur_pick.f p0_0 x314 x315 40).bind fun u637 => if (u637.1 == 0) = true then ((app? 17592186044416 x317 [1]).bind fun x641 => some (x641, u6.1, u637.2.1, u637.2.2)) else (if (u637.1 == 1) = true then ((spec_l1Cur_among.f p0_0 u637.2.1 u637.2.2 [-1, 1000000, 1000001]).bind fun u646 => some (x317, u646.1, u646.2.1, u646.2.2)) else (some (x317, u6.1, u637.2.1, u637.2.2)))).bind fun (o : (List (Int)) × Int × Int × Int) => match o with | (x632, x633, x634, x635) => (some (u5.1, x316, x632, x633, x634, x635)))
def spec_l1Cur_buf.post (sb s : St) (F0 : Fp) (bp0 : Nat) (A0_0p : Option Addr) (c0_0p : Nat) (p0_0 : List (Int)) (r : Int × (List (Int)) × (List (Int)) × Int × Int × Int) : Value → St → Prop := fun v s' => ∃ (A1 : Option Addr) (c1 : Nat) (A2 : Option Addr) (c2 : Nat), v = .agg #[.int .i64 r.1, .slice A1 r.2.1.length c1, .slice A2 r.2.2.1.length c2, .int .i64 r.2.2.2.1] ∧ Hp sb s F0 s' [Ck.ol OI 3 A1 c1 r.2.1, Ck.ol OI 3 A2 c2 r.2.2.1, Ck.ov bp0 [.slice A0_0p p0_0.length c0_0p, .int .i64 r.2.2.2.2.1, .int .u64 r.2.2.2.2.2] 113]
set_option maxRecDepth 100000 in
set_option maxHeartbeats 4000000 in
theorem spec_l1Cur_buf.ok (sb s : St) (F0 : Fp) (bp0 : Nat) (A0_0p : Option Addr) (c0_0p : Nat) (p0_0 : List (Int)) (p0_1 : Int) (p0_2 : Int) (HRp0_0 : Rd (Kd.int .u8) sb A0_0p c0_0p p0_0) (hH : Hp sb s F0 s [Ck.ov bp0 [.slice A0_0p p0_0.length c0_0p, .int .i64 p0_1, .int .u64 p0_2] 113]) (r : Int × (List (Int)) × (List (Int)) × Int × Int × Int) (H : spec_l1Cur_buf.f p0_0 p0_1 p0_2 = some r) : GCall Try.prog 111 #[.pointer (some ⟨bp0, 0, none⟩)] s (spec_l1Cur_buf.post sb s F0 bp0 A0_0p c0_0p p0_0 r) := by
  refine GCall_ofk [.cell 2 37] [.pointer (some ⟨bp0, 0, none⟩), undef, undef, undef, undef, undef, undef, undef, undef, undef, undef, undef, undef, undef, undef, undef, undef, undef, undef, undef, undef, undef, undef, undef, undef, undef, undef, undef, undef, undef, undef, undef, undef, undef, undef, undef, undef, undef, undef, undef, undef, undef, undef, undef, undef, undef, undef, undef, undef, undef, undef, undef, undef] Try.func111 rfl rfl rfl ?_
  intro w Q hQr hQn hQp
  replace H := topE H
  unfold spec_l1Cur_buf.f at H
  refine HT_seq_k ?_
  intro K1 hK1
  refine HT_region ?_
  refine HL_cons rfl ?_
  refine o_allocH hH tI37 ?_
  intro b2 s2 hH' hG
  replace hH : Hp sb s F0 s2 [Ck.ov bp0 [.slice A0_0p p0_0.length c0_0p, .int .i64 p0_1, .int .u64 p0_2] 113, Ck.ov b2 [.int .i64 0, .slice none 0 0, .slice none 0 0, .int .i64 0] 37] := hH'
  clear hH' hG
  try dsimp only [putL, setL, evL, getL]
  refine HL_nil ?_
  refine hK1 _ _ ?_
  refine HT_seq_k ?_
  intro K3 hK3
  refine HT_region ?_
  refine HL_cons rfl ?_
  refine o_move ?_
  try dsimp only [putL, setL, evL, getL]
  refine HL_cons rfl ?_
  refine o_litF (K := KI) (O := OI) (ca := #[.int .i64 1, .int .i64 3, .int .i64 5, .int .i64 10, .int .i64 20, .int .i64 60, .int .i64 0, .int .i64 61]) [[.int .i64 1], [.int .i64 3], [.int .i64 5], [.int .i64 10], [.int .i64 20], [.int .i64 60], [.int .i64 0], [.int .i64 61]] [1, 3, 5, 10, 20, 60, 0, 61] hH Try.underlying24 tI3 rfl (by decide) rfl rfl (by kernel_rfl) rfl ⟨rfl, Ent.own (Ent.flat rfl), rfl, Ent.own (Ent.flat rfl), rfl, Ent.own (Ent.flat rfl), rfl, Ent.own (Ent.flat rfl), rfl, Ent.own (Ent.flat rfl), rfl, Ent.own (Ent.flat rfl), rfl, Ent.own (Ent.flat rfl), rfl, Ent.own (Ent.flat rfl), trivial⟩ ?_
  intro A4 s4 hH' hG
  replace hH : Hp sb s F0 s4 [Ck.ov bp0 [.slice A0_0p p0_0.length c0_0p, .int .i64 p0_1, .int .u64 p0_2] 113, Ck.ov b2 [.int .i64 0, .slice none 0 0, .slice none 0 0, .int .i64 0] 37, Ck.ol OI 3 A4 8 [1, 3, 5, 10, 20, 60, 0, 61]] := hH'
  clear hH' hG
  try dsimp only [putL, setL, evL, getL]
  replace H := headE H
  obtain ⟨u5, hu5, H⟩ := H
  obtain ⟨F1, sx, hx, hC, hA, hB⟩ := hH.takeT [0] (by decide)
  dsimp only [addC, setC, rmC, selC, getC] at hA
  refine HL_cons rfl ?_
  refine o_call (args := #[.pointer (some ⟨bp0, 0, none⟩), .slice A4 [1, 3, 5, 10, 20, 60, 0, 61].length 8]) Try.func104 rfl rfl rfl (spec_l1Cur_among.ok sx s4 F1 bp0 A0_0p c0_0p p0_0 p0_1 p0_2 A4 8 [1, 3, 5, 10, 20, 60, 0, 61] (HRp0_0.mono hx.mono) (Ck.rdT hx (hC 2 (by decide)) rfl) hA _ hu5) ?_
  rintro _ s5 ⟨rfl, hD⟩
  replace hH := hB _ _ _ inferInstance hD
  clear hD hA hB hx hC
  dsimp only [addC, setC, rmC, selC, getC] at hH
  try dsimp only [putL, setL, evL, getL]
  refine HL_cons rfl ?_
  refine o_move ?_
  try dsimp only [putL, setL, evL, getL]
  replace H := headE H
  obtain ⟨u6, hu6, H⟩ := H
  obtain ⟨F1, hA, hB⟩ := hH.take [3] (by decide)
  dsimp only [addC, setC, rmC, selC, getC] at hA
  refine HL_cons rfl ?_
  refine o_call (args := #[.pointer (some ⟨bp0, 0, none⟩), .int .i64 5]) Try.func112 rfl rfl rfl (spec_l1Cur_pick.ok sb s5 F1 bp0 A0_0p c0_0p p0_0 u5.2.1 u5.2.2 5 HRp0_0 hA _ hu6) ?_
  rintro _ s6 ⟨rfl, hD⟩
  replace hH := hB _ _ _ (Up.refl _ _ _) hD
  clear hD hA hB
  dsimp only [addC, setC, rmC, selC, getC] at hH
  try dsimp only [putL, setL, evL, getL]
  refine HL_cons rfl ?_
  refine o_build (pl := [(0, 1), (1, 1), (2, 1), (3, 1)]) (cs := #[.int .i64 u5.1, .slice none 0 0, .slice none 0 0, .int .i64 u6.1]) Try.underlying37 tI37 (by kernel_rfl) (by kernel_rfl) rfl ?_
  try dsimp only [putL, setL, evL, getL]
  refine HL_cons rfl ?_
  refine o_allocH hH tI37 ?_
  intro b7 s7 hH' hG
  replace hH : Hp sb s F0 s7 [Ck.emp, Ck.ov b2 [.int .i64 0, .slice none 0 0, .slice none 0 0, .int .i64 0] 37, Ck.ol OI 3 A4 8 [1, 3, 5, 10, 20, 60, 0, 61], Ck.emp, Ck.ov bp0 [.slice A0_0p p0_0.length c0_0p, .int .i64 u6.2.1, .int .u64 u6.2.2] 113, Ck.ov b7 [.int .i64 0, .slice none 0 0, .slice none 0 0, .int .i64 0] 37] := hH'
  clear hH' hG
  try dsimp only [putL, setL, evL, getL]
  refine HL_cons rfl ?_
  refine o_stvH (vs := [.int .i64 u5.1, .slice none 0 0, .slice none 0 0, .int .i64 u6.1]) (us' := [.int .i64 u5.1, .slice none 0 0, .slice none 0 0, .int .i64 u6.1]) hH 5 rfl rfl rfl rfl rfl tI37 rfl (List.cons_ne_nil _ _) rfl rfl rfl ?_
  intro s8 hH'
  replace hH : Hp sb s F0 s8 [Ck.emp, Ck.ov b2 [.int .i64 0, .slice none 0 0, .slice none 0 0, .int .i64 0] 37, Ck.ol OI 3 A4 8 [1, 3, 5, 10, 20, 60, 0, 61], Ck.emp, Ck.ov bp0 [.slice A0_0p p0_0.length c0_0p, .int .i64 u6.2.1, .int .u64 u6.2.2] 113, Ck.ov b7 [.int .i64 u5.1, .slice none 0 0, .slice none 0 0, .int .i64 u6.1] 37] := hH'
  clear hH'
  try dsimp only [putL, setL, evL, getL]
  refine HL_nil ?_
  refine hK3 _ _ ?_
  refine HT_seq_k ?_
  intro K9 hK9
  refine HT_seq_k ?_
  intro K10 hK10
  refine HT_region ?_
  refine HL_cons rfl ?_
  refine o_move ?_
  try dsimp only [putL, setL, evL, getL]
  refine HL_cons rfl ?_
  refine o_faddr' (ft := 3) (off := 0) rfl Try.underlying37 rfl tI3 (by decide) ?_
  try dsimp only [putL, setL, evL, getL]
  refine HL_cons rfl ?_
  refine o_load' rfl Try.underlying3 rfl (hH.hasv 5 rfl rfl) ?_
  try dsimp only [putL, setL, evL, getL]
  refine HL_cons rfl ?_
  refine o_bin rfl rfl rfl ?_
  try dsimp only [putL, setL, evL, getL]
  replace H := headE H
  obtain ⟨u11, hu11, H⟩ := H
  refine HL_cons rfl ?_
  refine o_call (args := #[.int .i64 12, .int .i64 (IntKind.i64.wrap (u5.1 + 1))]) Try.func182 rfl rfl rfl (spec_l1Least.ok sb s8 no 12 (IntKind.i64.wrap (u5.1 + 1)) (Hp.own hH.bs) _ hu11) ?_
  rintro _ s11 ⟨rfl, hD⟩
  replace hH := hH.back0 hD (Up.refl _ _ _)
  clear hD
  dsimp only [addC, setC, rmC, selC, getC] at hH
  try dsimp only [putL, setL, evL, getL]
  replace H := headE H
  obtain ⟨u12, hu12, H⟩ := H
  obtain ⟨F1, hA, hB⟩ := hH.take [4] (by decide)
  dsimp only [addC, setC, rmC, selC, getC] at hA
  refine HL_cons rfl ?_
  refine o_call (args := #[.pointer (some ⟨bp0, 0, none⟩), .int .i64 u11]) Try.func112 rfl rfl rfl (spec_l1Cur_pick.ok sb s11 F1 bp0 A0_0p c0_0p p0_0 u6.2.1 u6.2.2 u11 HRp0_0 hA _ hu12) ?_
  rintro _ s12 ⟨rfl, hD⟩
  replace hH := hB _ _ _ (Up.refl _ _ _) hD
  clear hD hA hB
  dsimp only [addC, setC, rmC, selC, getC] at hH
  try dsimp only [putL, setL, evL, getL]
  refine HL_cons rfl ?_
  refine o_assign ?_
  try dsimp only [putL, setL, evL, getL]
  refine HL_nil ?_
  refine hK10 _ _ ?_
  refine joinH H fun G13 hG13 H => ?_
  refine HT_toK (fun l' s' => ∃ (x314 : Int) (x315 : Int) (x316 : List (Int)) (A316 : Option Addr) (c316 : Nat) (x317 : List (Int)) (A317 : Option Addr) (c317 : Nat), G13 (x314, x315, x316, x317) = some r ∧ l' = [.pointer (some ⟨bp0, 0, none⟩), undef, .pointer (some ⟨b2, 0, none⟩), .pointer (some ⟨b7, 0, none⟩), getL l' 4, .pointer (some ⟨bp0, 0, none⟩), .slice A4 [1, 3, 5, 10, 20, 60, 0, 61].length 8, .int .i64 u5.1, .pointer (some ⟨bp0, 0, none⟩), .int .i64 u6.1, .agg #[.int .i64 u5.1, .slice none 0 0, .slice none 0 0, .int .i64 u6.1], .pointer (some ⟨bp0, 0, none⟩), .pointer (some ⟨b7, 0 + 0, none⟩), .int .i64 u5.1, .int .i64 (IntKind.i64.wrap (u5.1 + 1)), .int .i64 u11, .int .i64 u12.1, getL l' 17, getL l' 18, getL l' 19, getL l' 20, getL l' 21, getL l' 22, getL l' 23, getL l' 24, getL l' 25, getL l' 26, getL l' 27, getL l' 28, getL l' 29, getL l' 30, getL l' 31, getL l' 32, getL l' 33, getL l' 34, getL l' 35, getL l' 36, undef, undef, undef, undef, undef, undef, undef, undef, undef, undef, undef, undef, undef, undef, undef, undef] ∧ Hp sb s F0 s' [Ck.ol OI 3 A316 c316 x316, Ck.ol OI 3 A317 c317 x317, Ck.ov bp0 [.slice A0_0p p0_0.length c0_0p, .int .i64 x314, .int .u64 x315] 113, Ck.ov b2 [.int .i64 0, .slice none 0 0, .slice none 0 0, .int .i64 0] 37, Ck.ov b7 [.int .i64 u5.1, .slice A316 x316.length c316, .slice A317 x317.length c317, .int .i64 u6.1] 37]) ?_ ?_
  · intro K13 hK13
    refine HT_block ?_
    refine HT_loopK (fun kf l' s' => ∃ (x425 : Int) (x426 : Int) (x427 : Int) (x428 : List (Int)) (A428 : Option Addr) (c428 : Nat) (x429 : List (Int)) (A429 : Option Addr) (c429 : Nat), (spec_l1Cur_buf.l1 p0_0 kf x425 x426 x427 x428 x429).bind G13 = some r ∧ l' = [.pointer (some ⟨bp0, 0, none⟩), undef, .pointer (some ⟨b2, 0, none⟩), .pointer (some ⟨b7, 0, none⟩), .int .i64 x425, .pointer (some ⟨bp0, 0, none⟩), .slice A4 [1, 3, 5, 10, 20, 60, 0, 61].length 8, .int .i64 u5.1, .pointer (some ⟨bp0, 0, none⟩), .int .i64 u6.1, .agg #[.int .i64 u5.1, .slice none 0 0, .slice none 0 0, .int .i64 u6.1], .pointer (some ⟨bp0, 0, none⟩), .pointer (some ⟨b7, 0 + 0, none⟩), .int .i64 u5.1, .int .i64 (IntKind.i64.wrap (u5.1 + 1)), .int .i64 u11, .int .i64 u12.1, getL l' 17, getL l' 18, getL l' 19, getL l' 20, getL l' 21, getL l' 22, getL l' 23, getL l' 24, getL l' 25, getL l' 26, getL l' 27, getL l' 28, getL l' 29, getL l' 30, getL l' 31, getL l' 32, getL l' 33, getL l' 34, getL l' 35, getL l' 36, undef, undef, undef, undef, undef, undef, undef, undef, undef, undef, undef, undef, undef, undef, undef, undef] ∧ Hp sb s F0 s' [Ck.ol OI 3 A428 c428 x428, Ck.ol OI 3 A429 c429 x429, Ck.ov bp0 [.slice A0_0p p0_0.length c0_0p, .int .i64 x426, .int .u64 x427] 113, Ck.ov b2 [.int .i64 0, .slice none 0 0, .slice none 0 0, .int .i64 0] 37, Ck.ov b7 [.int .i64 u5.1, .slice A428 x428.length c428, .slice A429 x429.length c429, .int .i64 u6.1] 37]) (((u12.1) - (0)).toNat + 2) ⟨u12.1, u12.2.1, u12.2.2, [], none, 0, [], none, 0, H, rfl, ((hH.nil (K := KI) OI 3).nil (K := KI) OI 3).sel [7, 8, 6, 1, 5] (by decide)⟩ ?_
    rintro kf l' s526 ⟨x425, x426, x427, x428, A428, c428, x429, A429, c429, H, hl, hH⟩ K526 hK526
    generalize getL l' 17 = j17, getL l' 18 = j18, getL l' 19 = j19, getL l' 20 = j20, getL l' 21 = j21, getL l' 22 = j22, getL l' 23 = j23, getL l' 24 = j24, getL l' 25 = j25, getL l' 26 = j26, getL l' 27 = j27, getL l' 28 = j28, getL l' 29 = j29, getL l' 30 = j30, getL l' 31 = j31, getL l' 32 = j32, getL l' 33 = j33, getL l' 34 = j34, getL l' 35 = j35, getL l' 36 = j36 at hl
    subst hl
    cases kf with
    | zero => simp [spec_l1Cur_buf.l1] at H
    | succ kf =>
      rw [spec_l1Cur_buf.l1] at H
      refine HT_seq_k ?_
      intro K527 hK527
      refine HT_seq_k ?_
      intro K528 hK528
      refine HT_region ?_
      refine HL_cons rfl ?_
      refine o_move ?_
      try dsimp only [putL, setL, evL, getL]
      refine HL_cons rfl ?_
      refine o_bin rfl rfl rfl ?_
      try dsimp only [putL, setL, evL, getL]
      refine HL_nil ?_
      refine hK528 _ _ ?_
      rcases Bool.eq_false_or_eq_true (decide (x425 > 0)) with hb529 | hb529
      · replace H := iteT hb529 H
        refine HT_true (congrArg Value.bool hb529) ?_
        refine HT_skip ?_
        refine hK527 _ _ ?_
        refine joinH H fun G530 hG530 H => ?_
        refine HT_joinK (fun l' s' => ∃ (x572 : Int) (x573 : Int) (x574 : List (Int)) (A574 : Option Addr) (c574 : Nat) (x575 : List (Int)) (A575 : Option Addr) (c575 : Nat), G530 (x572, x573, x574, x575) = some r ∧ l' = [.pointer (some ⟨bp0, 0, none⟩), undef, .pointer (some ⟨b2, 0, none⟩), .pointer (some ⟨b7, 0, none⟩), .int .i64 x425, .pointer (some ⟨bp0, 0, none⟩), .slice A4 [1, 3, 5, 10, 20, 60, 0, 61].length 8, .int .i64 u5.1, .pointer (some ⟨bp0, 0, none⟩), .int .i64 u6.1, .agg #[.int .i64 u5.1, .slice none 0 0, .slice none 0 0, .int .i64 u6.1], .pointer (some ⟨bp0, 0, none⟩), .pointer (some ⟨b7, 0 + 0, none⟩), .int .i64 u5.1, .int .i64 (IntKind.i64.wrap (u5.1 + 1)), .int .i64 u11, .int .i64 u12.1, .int .i64 x425, .bool (decide (x425 > 0)), j19, j20, getL l' 21, getL l' 22, getL l' 23, getL l' 24, getL l' 25, getL l' 26, getL l' 27, getL l' 28, getL l' 29, getL l' 30, getL l' 31, getL l' 32, getL l' 33, getL l' 34, getL l' 35, getL l' 36, undef, undef, undef, undef, undef, undef, undef, undef, undef, undef, undef, undef, undef, undef, undef, undef] ∧ Hp sb s F0 s' [Ck.ol OI 3 A574 c574 x574, Ck.ol OI 3 A575 c575 x575, Ck.ov bp0 [.slice A0_0p p0_0.length c0_0p, .int .i64 x572, .int .u64 x573] 113, Ck.ov b2 [.int .i64 0, .slice none 0 0, .slice none 0 0, .int .i64 0] 37, Ck.ov b7 [.int .i64 u5.1, .slice A574 x574.length c574, .slice A575 x575.length c575, .int .i64 u6.1] 37]) ?_ ?_
        · intro K530 hK530
          refine HT_block ?_
          refine joinH H fun G576 hG576 H => ?_
          refine HT_joinK (fun l' s' => ∃ (x591 : Int) (x592 : Int) (x593 : List (Int)) (A593 : Option Addr) (c593 : Nat), G576 (x591, x592, x593) = some r ∧ l' = [.pointer (some ⟨bp0, 0, none⟩), undef, .pointer (some ⟨b2, 0, none⟩), .pointer (some ⟨b7, 0, none⟩), .int .i64 x425, .pointer (some ⟨bp0, 0, none⟩), .slice A4 [1, 3, 5, 10, 20, 60, 0, 61].length 8, .int .i64 u5.1, .pointer (some ⟨bp0, 0, none⟩), .int .i64 u6.1, .agg #[.int .i64 u5.1, .slice none 0 0, .slice none 0 0, .int .i64 u6.1], .pointer (some ⟨bp0, 0, none⟩), .pointer (some ⟨b7, 0 + 0, none⟩), .int .i64 u5.1, .int .i64 (IntKind.i64.wrap (u5.1 + 1)), .int .i64 u11, .int .i64 u12.1, .int .i64 x425, .bool (decide (x425 > 0)), j19, j20, getL l' 21, getL l' 22, getL l' 23, getL l' 24, getL l' 25, getL l' 26, getL l' 27, getL l' 28, j29, j30, j31, j32, j33, j34, j35, j36, undef, undef, undef, undef, undef, undef, undef, undef, undef, undef, undef, undef, undef, undef, undef, undef] ∧ Hp sb s F0 s' [Ck.ol OI 3 A593 c593 x593, Ck.ol OI 3 A429 c429 x429, Ck.ov bp0 [.slice A0_0p p0_0.length c0_0p, .int .i64 x591, .int .u64 x592] 113, Ck.ov b2 [.int .i64 0, .slice none 0 0, .slice none 0 0, .int .i64 0] 37, Ck.ov b7 [.int .i64 u5.1, .slice A593 x593.length c593, .slice A429 x429.length c429, .int .i64 u6.1] 37]) ?_ ?_
          · intro K576 hK576
            refine HX_draw hMix ?_
            refine HX_lim (R := fun _ => True) (k := 0) (fun s' => Gro s526 s') 4 ?_
            have hR := Gro.refl s526
            have hH0 := hH
            refine HK_readP 0 (v := .pointer (some ⟨b7, 0 + 1, none⟩)) rfl (by kernel_rfl) (fun c l s h => hQp c l s h) rfl (fun s' K hK => ?_) rfl rfl (fun _ => hR) ?_
            · refine o_faddr' (ft := 24) (off := 1) rfl Try.underlying37 rfl tI24 (by decide) ?_
              exact hK
            try dsimp only [putL, setL, evL, getL]
            refine HK_readP 2 (v := .pointer (some ⟨bp0, 0, none⟩)) rfl (by kernel_rfl) (fun c l s h => hQp c l s h) rfl (fun s' K hK => ?_) rfl rfl (fun _ => hR) ?_
            · refine o_move ?_
              exact hK
            try dsimp only [putL, setL, evL, getL]
            refine HK_more [1, 3] (by kernel_rfl) rfl (fun _ => hR) ⟨⟨_, rfl, Or.inl ⟨rfl, ?_⟩⟩, ⟨_, rfl, Or.inl ⟨rfl, ?_⟩⟩, trivial⟩
            · skip
              refine o_load' rfl Try.underlying24 rfl (hH.hasv 4 rfl rfl) ?_
              try dsimp only [putL, setL, evL, getL]
              refine HK_more [3] (by kernel_rfl) rfl (fun _ => hR) ⟨⟨_, rfl, Or.inl ⟨rfl, ?_⟩⟩, trivial⟩
              skip
              refine o_litF (K := KI) (O := OI) (ca := #[.int .i64 97, .int .i64 98, .int .i64 97, .int .i64 99, .int .i64 12354]) [[.int .i64 97], [.int .i64 98], [.int .i64 97], [.int .i64 99], [.int .i64 12354]] [97, 98, 97, 99, 12354] hH Try.underlying24 tI3 rfl (by decide) rfl rfl (by kernel_rfl) rfl ⟨rfl, Ent.own (Ent.flat rfl), rfl, Ent.own (Ent.flat rfl), rfl, Ent.own (Ent.flat rfl), rfl, Ent.own (Ent.flat rfl), rfl, Ent.own (Ent.flat rfl), trivial⟩ ?_
              intro A594 s594 hH' hG
              replace hR := hR.trans hG
              replace hH : Hp sb s F0 s594 [Ck.ol OI 3 A428 c428 x428, Ck.ol OI 3 A429 c429 x429, Ck.ov bp0 [.slice A0_0p p0_0.length c0_0p, .int .i64 x426, .int .u64 x427] 113, Ck.ov b2 [.int .i64 0, .slice none 0 0, .slice none 0 0, .int .i64 0] 37, Ck.ov b7 [.int .i64 u5.1, .slice A428 x428.length c428, .slice A429 x429.length c429, .int .i64 u6.1] 37, Ck.ol OI 3 A594 5 [97, 98, 97, 99, 12354]] := hH'
              clear hH' hG
              try dsimp only [putL, setL, evL, getL]
              refine HK_more [4] (by kernel_rfl) rfl (fun _ => hR) ⟨⟨_, rfl, Or.inl ⟨rfl, ?_⟩⟩, trivial⟩
              replace H := headE H
              obtain ⟨u595, hu595, H⟩ := H
              obtain ⟨F1, sx, hx, hC, hA, hB⟩ := hH.takeT [2] (by decide)
              dsimp only [addC, setC, rmC, selC, getC] at hA
              skip
              refine o_call (args := #[.pointer (some ⟨bp0, 0, none⟩), .slice A594 [97, 98, 97, 99, 12354].length 5]) Try.func104 rfl rfl rfl (spec_l1Cur_among.ok sx s594 F1 bp0 A0_0p c0_0p p0_0 x426 x427 A594 5 [97, 98, 97, 99, 12354] (HRp0_0.mono hx.mono) (Ck.rdT hx (hC 5 (by decide)) rfl) hA _ hu595) ?_
              rintro _ s595 ⟨rfl, hD⟩
              replace hH := hB _ _ _ inferInstance hD
              clear hD hA hB hx hC
              dsimp only [addC, setC, rmC, selC, getC] at hH
              try dsimp only [putL, setL, evL, getL]
              refine HK_free (by kernel_rfl) ?_
              refine HX_lim (R := fun _ => True) (k := 0) (fun s' => Gro s595 s') 6 ?_
              have hR := Gro.refl s595
              have hH0 := hH
              refine HK_more [5] (by kernel_rfl) rfl (fun _ => hR) ⟨⟨_, rfl, Or.inl ⟨rfl, ?_⟩⟩, trivial⟩
              skip
              refine o_litF (K := KI) (O := OI) (ca := #[.int .i64 u595.1]) [[.int .i64 u595.1]] [u595.1] hH Try.underlying24 tI3 rfl (by decide) rfl rfl (by kernel_rfl) rfl ⟨rfl, Ent.own (Ent.flat rfl), trivial⟩ ?_
              intro A596 s596 hH' hG
              replace hR := hR.trans hG
              replace hH : Hp sb s F0 s596 [Ck.ol OI 3 A428 c428 x428, Ck.ol OI 3 A429 c429 x429, Ck.emp, Ck.ov b2 [.int .i64 0, .slice none 0 0, .slice none 0 0, .int .i64 0] 37, Ck.ov b7 [.int .i64 u5.1, .slice A428 x428.length c428, .slice A429 x429.length c429, .int .i64 u6.1] 37, Ck.ol OI 3 A594 5 [97, 98, 97, 99, 12354], Ck.ov bp0 [.slice A0_0p p0_0.length c0_0p, .int .i64 u595.2.1, .int .u64 u595.2.2] 113, Ck.ol OI 3 A596 1 [u595.1]] := hH'
              clear hH' hG
              try dsimp only [putL, setL, evL, getL]
              refine HK_more [6] (by kernel_rfl) rfl (fun _ => hR) ⟨⟨_, rfl, Or.inl ⟨rfl, ?_⟩⟩, trivial⟩
              replace H := headE H
              obtain ⟨x597, hx597, H⟩ := H
              skip
              refine o_appF (K := KI) (n := 17592186044416) (A := A428) (c := c428) (xs := x428) (ys := [u595.1]) (B := A596) (c2 := 1) hH 0 rfl rfl rfl rfl Try.underlying24 tI3 rfl (by decide) (by decide) (by decide) (Src.flat (hH.rd 7 rfl)) hx597 ?_
              intro A597 c597 s597 hH'
              replace hH : Hp sb s F0 s597 [Ck.ol OI 3 A597 c597 x597, Ck.ol OI 3 A429 c429 x429, Ck.emp, Ck.ov b2 [.int .i64 0, .slice none 0 0, .slice none 0 0, .int .i64 0] 37, Ck.ov b7 [.int .i64 u5.1, .slice A428 x428.length c428, .slice A429 x429.length c429, .int .i64 u6.1] 37, Ck.ol OI 3 A594 5 [97, 98, 97, 99, 12354], Ck.ov bp0 [.slice A0_0p p0_0.length c0_0p, .int .i64 u595.2.1, .int .u64 u595.2.2] 113, Ck.ol OI 3 A596 1 [u595.1]] := hH'
              clear hH'
              try dsimp only [putL, setL, evL, getL]
              refine HK_free (by kernel_rfl) ?_
              refine HX_lim (R := fun _ => True) (k := 0) (fun s' => Gro s597 s') 8 ?_
              have hR := Gro.refl s597
              have hH0 := hH
              refine HK_readP 7 (v := .pointer (some ⟨b7, 0 + 1, none⟩)) rfl (by kernel_rfl) (fun c l s h => hQp c l s h) rfl (fun s' K hK => ?_) rfl rfl (fun _ => hR) ?_
              · refine o_faddr' (ft := 24) (off := 1) rfl Try.underlying37 rfl tI24 (by decide) ?_
                exact hK
              try dsimp only [putL, setL, evL, getL]
              refine HK_more [8] (by kernel_rfl) rfl (fun _ => hR) ⟨⟨_, rfl, Or.inl ⟨rfl, ?_⟩⟩, trivial⟩
              skip
              refine o_stvH (vs := [.slice A597 x597.length c597]) (us' := [.int .i64 u5.1, .slice A597 x597.length c597, .slice A429 x429.length c429, .int .i64 u6.1]) hH 4 rfl rfl rfl rfl rfl tI24 rfl (List.cons_ne_nil _ _) rfl rfl rfl ?_
              intro s598 hH'
              replace hH : Hp sb s F0 s598 [Ck.ol OI 3 A597 c597 x597, Ck.ol OI 3 A429 c429 x429, Ck.emp, Ck.ov b2 [.int .i64 0, .slice none 0 0, .slice none 0 0, .int .i64 0] 37, Ck.ov b7 [.int .i64 u5.1, .slice A597 x597.length c597, .slice A429 x429.length c429, .int .i64 u6.1] 37, Ck.ol OI 3 A594 5 [97, 98, 97, 99, 12354], Ck.ov bp0 [.slice A0_0p p0_0.length c0_0p, .int .i64 u595.2.1, .int .u64 u595.2.2] 113, Ck.ol OI 3 A596 1 [u595.1]] := hH'
              clear hH'
              try dsimp only [putL, setL, evL, getL]
              refine HK_free (by kernel_rfl) ?_
              refine HX_done (by kernel_rfl) ?_
              exact hK576 _ _ ⟨u595.2.1, u595.2.2, x597, A597, c597, H, rfl, hH.sel [0, 1, 6, 3, 4] (by decide)⟩
            · skip
              refine o_litF (K := KI) (O := OI) (ca := #[.int .i64 97, .int .i64 98, .int .i64 97, .int .i64 99, .int .i64 12354]) [[.int .i64 97], [.int .i64 98], [.int .i64 97], [.int .i64 99], [.int .i64 12354]] [97, 98, 97, 99, 12354] hH Try.underlying24 tI3 rfl (by decide) rfl rfl (by kernel_rfl) rfl ⟨rfl, Ent.own (Ent.flat rfl), rfl, Ent.own (Ent.flat rfl), rfl, Ent.own (Ent.flat rfl), rfl, Ent.own (Ent.flat rfl), rfl, Ent.own (Ent.flat rfl), trivial⟩ ?_
              intro A599 s599 hH' hG
              replace hR := hR.trans hG
              replace hH : Hp sb s F0 s599 [Ck.ol OI 3 A428 c428 x428, Ck.ol OI 3 A429 c429 x429, Ck.ov bp0 [.slice A0_0p p0_0.length c0_0p, .int .i64 x426, .int .u64 x427] 113, Ck.ov b2 [.int .i64 0, .slice none 0 0, .slice none 0 0, .int .i64 0] 37, Ck.ov b7 [.int .i64 u5.1, .slice A428 x428.length c428, .slice A429 x429.length c429, .int .i64 u6.1] 37, Ck.ol OI 3 A599 5 [97, 98, 97, 99, 12354]] := hH'
              clear hH' hG
              try dsimp only [putL, setL, evL, getL]
              refine HK_more [1, 4] (by kernel_rfl) rfl (fun _ => hR) ⟨⟨_, rfl, Or.inl ⟨rfl, ?_⟩⟩, ⟨_, rfl, Or.inl ⟨rfl, ?_⟩⟩, trivial⟩
              · skip
                refine o_load' rfl Try.underlying24 rfl (hH.hasv 4 rfl rfl) ?_
                try dsimp only [putL, setL, evL, getL]
                refine HK_more [4] (by kernel_rfl) rfl (fun _ => hR) ⟨⟨_, rfl, Or.inl ⟨rfl, ?_⟩⟩, trivial⟩
                replace H := headE H
                obtain ⟨u600, hu600, H⟩ := H
                obtain ⟨F1, sx, hx, hC, hA, hB⟩ := hH.takeT [2] (by decide)
                dsimp only [addC, setC, rmC, selC, getC] at hA
                skip
                refine o_call (args := #[.pointer (some ⟨bp0, 0, none⟩), .slice A599 [97, 98, 97, 99, 12354].length 5]) Try.func104 rfl rfl rfl (spec_l1Cur_among.ok sx s599 F1 bp0 A0_0p c0_0p p0_0 x426 x427 A599 5 [97, 98, 97, 99, 12354] (HRp0_0.mono hx.mono) (Ck.rdT hx (hC 5 (by decide)) rfl) hA _ hu600) ?_
                rintro _ s600 ⟨rfl, hD⟩
                replace hH := hB _ _ _ inferInstance hD
                clear hD hA hB hx hC
                dsimp only [addC, setC, rmC, selC, getC] at hH
                try dsimp only [putL, setL, evL, getL]
                refine HK_free (by kernel_rfl) ?_
                refine HX_lim (R := fun _ => True) (k := 0) (fun s' => Gro s600 s') 6 ?_
                have hR := Gro.refl s600
                have hH0 := hH
                refine HK_more [5] (by kernel_rfl) rfl (fun _ => hR) ⟨⟨_, rfl, Or.inl ⟨rfl, ?_⟩⟩, trivial⟩
                skip
                refine o_litF (K := KI) (O := OI) (ca := #[.int .i64 u600.1]) [[.int .i64 u600.1]] [u600.1] hH Try.underlying24 tI3 rfl (by decide) rfl rfl (by kernel_rfl) rfl ⟨rfl, Ent.own (Ent.flat rfl), trivial⟩ ?_
                intro A601 s601 hH' hG
                replace hR := hR.trans hG
                replace hH : Hp sb s F0 s601 [Ck.ol OI 3 A428 c428 x428, Ck.ol OI 3 A429 c429 x429, Ck.emp, Ck.ov b2 [.int .i64 0, .slice none 0 0, .slice none 0 0, .int .i64 0] 37, Ck.ov b7 [.int .i64 u5.1, .slice A428 x428.length c428, .slice A429 x429.length c429, .int .i64 u6.1] 37, Ck.ol OI 3 A599 5 [97, 98, 97, 99, 12354], Ck.ov bp0 [.slice A0_0p p0_0.length c0_0p, .int .i64 u600.2.1, .int .u64 u600.2.2] 113, Ck.ol OI 3 A601 1 [u600.1]] := hH'
                clear hH' hG
                try dsimp only [putL, setL, evL, getL]
                refine HK_more [6] (by kernel_rfl) rfl (fun _ => hR) ⟨⟨_, rfl, Or.inl ⟨rfl, ?_⟩⟩, trivial⟩
                replace H := headE H
                obtain ⟨x602, hx602, H⟩ := H
                skip
                refine o_appF (K := KI) (n := 17592186044416) (A := A428) (c := c428) (xs := x428) (ys := [u600.1]) (B := A601) (c2 := 1) hH 0 rfl rfl rfl rfl Try.underlying24 tI3 rfl (by decide) (by decide) (by decide) (Src.flat (hH.rd 7 rfl)) hx602 ?_
                intro A602 c602 s602 hH'
                replace hH : Hp sb s F0 s602 [Ck.ol OI 3 A602 c602 x602, Ck.ol OI 3 A429 c429 x429, Ck.emp, Ck.ov b2 [.int .i64 0, .slice none 0 0, .slice none 0 0, .int .i64 0] 37, Ck.ov b7 [.int .i64 u5.1, .slice A428 x428.length c428, .slice A429 x429.length c429, .int .i64 u6.1] 37, Ck.ol OI 3 A599 5 [97, 98, 97, 99, 12354], Ck.ov bp0 [.slice A0_0p p0_0.length c0_0p, .int .i64 u600.2.1, .int .u64 u600.2.2] 113, Ck.ol OI 3 A601 1 [u600.1]] := hH'
                clear hH'
                try dsimp only [putL, setL, evL, getL]
                refine HK_free (by kernel_rfl) ?_
                refine HX_lim (R := fun _ => True) (k := 0) (fun s' => Gro s602 s') 8 ?_
                have hR := Gro.refl s602
                have hH0 := hH
                refine HK_readP 7 (v := .pointer (some ⟨b7, 0 + 1, none⟩)) rfl (by kernel_rfl) (fun c l s h => hQp c l s h) rfl (fun s' K hK => ?_) rfl rfl (fun _ => hR) ?_
                · refine o_faddr' (ft := 24) (off := 1) rfl Try.underlying37 rfl tI24 (by decide) ?_
                  exact hK
                try dsimp only [putL, setL, evL, getL]
                refine HK_more [8] (by kernel_rfl) rfl (fun _ => hR) ⟨⟨_, rfl, Or.inl ⟨rfl, ?_⟩⟩, trivial⟩
                skip
                refine o_stvH (vs := [.slice A602 x602.length c602]) (us' := [.int .i64 u5.1, .slice A602 x602.length c602, .slice A429 x429.length c429, .int .i64 u6.1]) hH 4 rfl rfl rfl rfl rfl tI24 rfl (List.cons_ne_nil _ _) rfl rfl rfl ?_
                intro s603 hH'
                replace hH : Hp sb s F0 s603 [Ck.ol OI 3 A602 c602 x602, Ck.ol OI 3 A429 c429 x429, Ck.emp, Ck.ov b2 [.int .i64 0, .slice none 0 0, .slice none 0 0, .int .i64 0] 37, Ck.ov b7 [.int .i64 u5.1, .slice A602 x602.length c602, .slice A429 x429.length c429, .int .i64 u6.1] 37, Ck.ol OI 3 A599 5 [97, 98, 97, 99, 12354], Ck.ov bp0 [.slice A0_0p p0_0.length c0_0p, .int .i64 u600.2.1, .int .u64 u600.2.2] 113, Ck.ol OI 3 A601 1 [u600.1]] := hH'
                clear hH'
                try dsimp only [putL, setL, evL, getL]
                refine HK_free (by kernel_rfl) ?_
                refine HX_done (by kernel_rfl) ?_
                exact hK576 _ _ ⟨u600.2.1, u600.2.2, x602, A602, c602, H, rfl, hH.sel [0, 1, 6, 3, 4] (by decide)⟩
              · replace H := headE H
                obtain ⟨u604, hu604, H⟩ := H
                obtain ⟨F1, sx, hx, hC, hA, hB⟩ := hH.takeT [2] (by decide)
                dsimp only [addC, setC, rmC, selC, getC] at hA
                skip
                refine o_call (args := #[.pointer (some ⟨bp0, 0, none⟩), .slice A599 [97, 98, 97, 99, 12354].length 5]) Try.func104 rfl rfl rfl (spec_l1Cur_among.ok sx s599 F1 bp0 A0_0p c0_0p p0_0 x426 x427 A599 5 [97, 98, 97, 99, 12354] (HRp0_0.mono hx.mono) (Ck.rdT hx (hC 5 (by decide)) rfl) hA _ hu604) ?_
                rintro _ s604 ⟨rfl, hD⟩
                replace hH := hB _ _ _ inferInstance hD
                clear hD hA hB hx hC
                dsimp only [addC, setC, rmC, selC, getC] at hH
                try dsimp only [putL, setL, evL, getL]
                refine HK_free (by kernel_rfl) ?_
                refine HX_lim (R := fun _ => True) (k := 0) (fun s' => Gro s604 s') 6 ?_
                have hR := Gro.refl s604
                have hH0 := hH
                refine HK_read 1 (v := .slice A428 x428.length c428) rfl (by kernel_rfl) (fun c l s h => hQp c l s h) rfl (fun s' hR' K hK => ?_) rfl rfl hR ?_
                · refine o_load' rfl Try.underlying24 rfl (has_gro hR' (hH0.hasv 4 rfl rfl)) ?_
                  exact hK
                try dsimp only [putL, setL, evL, getL]
                refine HK_more [5] (by kernel_rfl) rfl (fun _ => hR) ⟨⟨_, rfl, Or.inl ⟨rfl, ?_⟩⟩, trivial⟩
                skip
                refine o_litF (K := KI) (O := OI) (ca := #[.int .i64 u604.1]) [[.int .i64 u604.1]] [u604.1] hH Try.underlying24 tI3 rfl (by decide) rfl rfl (by kernel_rfl) rfl ⟨rfl, Ent.own (Ent.flat rfl), trivial⟩ ?_
                intro A605 s605 hH' hG
                replace hR := hR.trans hG
                replace hH : Hp sb s F0 s605 [Ck.ol OI 3 A428 c428 x428, Ck.ol OI 3 A429 c429 x429, Ck.emp, Ck.ov b2 [.int .i64 0, .slice none 0 0, .slice none 0 0, .int .i64 0] 37, Ck.ov b7 [.int .i64 u5.1, .slice A428 x428.length c428, .slice A429 x429.length c429, .int .i64 u6.1] 37, Ck.ol OI 3 A599 5 [97, 98, 97, 99, 12354], Ck.ov bp0 [.slice A0_0p p0_0.length c0_0p, .int .i64 u604.2.1, .int .u64 u604.2.2] 113, Ck.ol OI 3 A605 1 [u604.1]] := hH'
                clear hH' hG
                try dsimp only [putL, setL, evL, getL]
                refine HK_more [6] (by kernel_rfl) rfl (fun _ => hR) ⟨⟨_, rfl, Or.inl ⟨rfl, ?_⟩⟩, trivial⟩
                replace H := headE H
                obtain ⟨x606, hx606, H⟩ := H
                skip
                refine o_appF (K := KI) (n := 17592186044416) (A := A428) (c := c428) (xs := x428) (ys := [u604.1]) (B := A605) (c2 := 1) hH 0 rfl rfl rfl rfl Try.underlying24 tI3 rfl (by decide) (by decide) (by decide) (Src.flat (hH.rd 7 rfl)) hx606 ?_
                intro A606 c606 s606 hH'
                replace hH : Hp sb s F0 s606 [Ck.ol OI 3 A606 c606 x606, Ck.ol OI 3 A429 c429 x429, Ck.emp, Ck.ov b2 [.int .i64 0, .slice none 0 0, .slice none 0 0, .int .i64 0] 37, Ck.ov b7 [.int .i64 u5.1, .slice A428 x428.length c428, .slice A429 x429.length c429, .int .i64 u6.1] 37, Ck.ol OI 3 A599 5 [97, 98, 97, 99, 12354], Ck.ov bp0 [.slice A0_0p p0_0.length c0_0p, .int .i64 u604.2.1, .int .u64 u604.2.2] 113, Ck.ol OI 3 A605 1 [u604.1]] := hH'
                clear hH'
                try dsimp only [putL, setL, evL, getL]
                refine HK_free (by kernel_rfl) ?_
                refine HX_lim (R := fun _ => True) (k := 0) (fun s' => Gro s606 s') 8 ?_
                have hR := Gro.refl s606
                have hH0 := hH
                refine HK_readP 7 (v := .pointer (some ⟨b7, 0 + 1, none⟩)) rfl (by kernel_rfl) (fun c l s h => hQp c l s h) rfl (fun s' K hK => ?_) rfl rfl (fun _ => hR) ?_
                · refine o_faddr' (ft := 24) (off := 1) rfl Try.underlying37 rfl tI24 (by decide) ?_
                  exact hK
                try dsimp only [putL, setL, evL, getL]
                refine HK_more [8] (by kernel_rfl) rfl (fun _ => hR) ⟨⟨_, rfl, Or.inl ⟨rfl, ?_⟩⟩, trivial⟩
                skip
                refine o_stvH (vs := [.slice A606 x606.length c606]) (us' := [.int .i64 u5.1, .slice A606 x606.length c606, .slice A429 x429.length c429, .int .i64 u6.1]) hH 4 rfl rfl rfl rfl rfl tI24 rfl (List.cons_ne_nil _ _) rfl rfl rfl ?_
                intro s607 hH'
                replace hH : Hp sb s F0 s607 [Ck.ol OI 3 A606 c606 x606, Ck.ol OI 3 A429 c429 x429, Ck.emp, Ck.ov b2 [.int .i64 0, .slice none 0 0, .slice none 0 0, .int .i64 0] 37, Ck.ov b7 [.int .i64 u5.1, .slice A606 x606.length c606, .slice A429 x429.length c429, .int .i64 u6.1] 37, Ck.ol OI 3 A599 5 [97, 98, 97, 99, 12354], Ck.ov bp0 [.slice A0_0p p0_0.length c0_0p, .int .i64 u604.2.1, .int .u64 u604.2.2] 113, Ck.ol OI 3 A605 1 [u604.1]] := hH'
                clear hH'
                try dsimp only [putL, setL, evL, getL]
                refine HK_free (by kernel_rfl) ?_
                refine HX_done (by kernel_rfl) ?_
                exact hK576 _ _ ⟨u604.2.1, u604.2.2, x606, A606, c606, H, rfl, hH.sel [0, 1, 6, 3, 4] (by decide)⟩
          · rintro l' s608 ⟨x591, x592, x593, A593, c593, H, hl, hH⟩
            generalize getL l' 21 = j21, getL l' 22 = j22, getL l' 23 = j23, getL l' 24 = j24, getL l' 25 = j25, getL l' 26 = j26, getL l' 27 = j27, getL l' 28 = j28 at hl
            subst hl
            replace H := hG576 _ H
            try dsimp only at H
            refine HX_draw hMix ?_
            refine HX_lim (R := fun _ => True) (k := 0) (fun s' => Gro s608 s') 3 ?_
            have hR := Gro.refl s608
            have hH0 := hH
            refine HK_readP 0 (v := .pointer (some ⟨b7, 0 + 2, none⟩)) rfl (by kernel_rfl) (fun c l s h => hQp c l s h) rfl (fun s' K hK => ?_) rfl rfl (fun _ => hR) ?_
            · refine o_faddr' (ft := 24) (off := 2) rfl Try.underlying37 rfl tI24 (by decide) ?_
              exact hK
            try dsimp only [putL, setL, evL, getL]
            refine HK_readP 2 (v := .pointer (some ⟨bp0, 0, none⟩)) rfl (by kernel_rfl) (fun c l s h => hQp c l s h) rfl (fun s' K hK => ?_) rfl rfl (fun _ => hR) ?_
            · refine o_move ?_
              exact hK
            try dsimp only [putL, setL, evL, getL]
            refine HK_more [1, 3] (by kernel_rfl) rfl (fun _ => hR) ⟨⟨_, rfl, Or.inl ⟨rfl, ?_⟩⟩, ⟨_, rfl, Or.inl ⟨rfl, ?_⟩⟩, trivial⟩
            · skip
              refine o_load' rfl Try.underlying24 rfl (hH.hasv 4 rfl rfl) ?_
              try dsimp only [putL, setL, evL, getL]
              refine HK_more [3] (by kernel_rfl) rfl (fun _ => hR) ⟨⟨_, rfl, Or.inl ⟨rfl, ?_⟩⟩, trivial⟩
              replace H := headE H
              obtain ⟨u609, hu609, H⟩ := H
              obtain ⟨F1, hA, hB⟩ := hH.take [2] (by decide)
              dsimp only [addC, setC, rmC, selC, getC] at hA
              skip
              refine o_call (args := #[.pointer (some ⟨bp0, 0, none⟩), .int .i64 3]) Try.func112 rfl rfl rfl (spec_l1Cur_pick.ok sb s608 F1 bp0 A0_0p c0_0p p0_0 x591 x592 3 HRp0_0 hA _ hu609) ?_
              rintro _ s609 ⟨rfl, hD⟩
              replace hH := hB _ _ _ (Up.refl _ _ _) hD
              clear hD hA hB
              dsimp only [addC, setC, rmC, selC, getC] at hH
              try dsimp only [putL, setL, evL, getL]
              refine HK_free (by kernel_rfl) ?_
              refine HX_lim (R := fun _ => True) (k := 0) (fun s' => Gro s609 s') 6 ?_
              have hR := Gro.refl s609
              have hH0 := hH
              refine HK_readP 4 (v := .int .i64 (IntKind.i64.wrap (1 + u609.1))) rfl (by kernel_rfl) (fun c l s h => hQp c l s h) rfl (fun s' K hK => ?_) rfl rfl (fun _ => hR) ?_
              · refine o_bin rfl rfl rfl ?_
                exact hK
              try dsimp only [putL, setL, evL, getL]
              refine HK_more [5] (by kernel_rfl) rfl (fun _ => hR) ⟨⟨_, rfl, Or.inl ⟨rfl, ?_⟩⟩, trivial⟩
              skip
              refine o_litF (K := KI) (O := OI) (ca := #[.int .i64 (IntKind.i64.wrap (1 + u609.1))]) [[.int .i64 (IntKind.i64.wrap (1 + u609.1))]] [IntKind.i64.wrap (1 + u609.1)] hH Try.underlying24 tI3 rfl (by decide) rfl rfl (by kernel_rfl) rfl ⟨rfl, Ent.own (Ent.flat rfl), trivial⟩ ?_
              intro A610 s610 hH' hG
              replace hR := hR.trans hG
              replace hH : Hp sb s F0 s610 [Ck.ol OI 3 A593 c593 x593, Ck.ol OI 3 A429 c429 x429, Ck.emp, Ck.ov b2 [.int .i64 0, .slice none 0 0, .slice none 0 0, .int .i64 0] 37, Ck.ov b7 [.int .i64 u5.1, .slice A593 x593.length c593, .slice A429 x429.length c429, .int .i64 u6.1] 37, Ck.ov bp0 [.slice A0_0p p0_0.length c0_0p, .int .i64 u609.2.1, .int .u64 u609.2.2] 113, Ck.ol OI 3 A610 1 [IntKind.i64.wrap (1 + u609.1)]] := hH'
              clear hH' hG
              try dsimp only [putL, setL, evL, getL]
              refine HK_more [6] (by kernel_rfl) rfl (fun _ => hR) ⟨⟨_, rfl, Or.inl ⟨rfl, ?_⟩⟩, trivial⟩
              replace H := headE H
              obtain ⟨x611, hx611, H⟩ := H
              skip
              refine o_appF (K := KI) (n := 17592186044416) (A := A429) (c := c429) (xs := x429) (ys := [IntKind.i64.wrap (1 + u609.1)]) (B := A610) (c2 := 1) hH 1 rfl rfl rfl rfl Try.underlying24 tI3 rfl (by decide) (by decide) (by decide) (Src.flat (hH.rd 6 rfl)) hx611 ?_
              intro A611 c611 s611 hH'
              replace hH : Hp sb s F0 s611 [Ck.ol OI 3 A593 c593 x593, Ck.ol OI 3 A611 c611 x611, Ck.emp, Ck.ov b2 [.int .i64 0, .slice none 0 0, .slice none 0 0, .int .i64 0] 37, Ck.ov b7 [.int .i64 u5.1, .slice A593 x593.length c593, .slice A429 x429.length c429, .int .i64 u6.1] 37, Ck.ov bp0 [.slice A0_0p p0_0.length c0_0p, .int .i64 u609.2.1, .int .u64 u609.2.2] 113, Ck.ol OI 3 A610 1 [IntKind.i64.wrap (1 + u609.1)]] := hH'
              clear hH'
              try dsimp only [putL, setL, evL, getL]
              refine HK_free (by kernel_rfl) ?_
              refine HX_lim (R := fun _ => True) (k := 0) (fun s' => Gro s611 s') 8 ?_
              have hR := Gro.refl s611
              have hH0 := hH
              refine HK_readP 7 (v := .pointer (some ⟨b7, 0 + 2, none⟩)) rfl (by kernel_rfl) (fun c l s h => hQp c l s h) rfl (fun s' K hK => ?_) rfl rfl (fun _ => hR) ?_
              · refine o_faddr' (ft := 24) (off := 2) rfl Try.underlying37 rfl tI24 (by decide) ?_
                exact hK
              try dsimp only [putL, setL, evL, getL]
              refine HK_more [8] (by kernel_rfl) rfl (fun _ => hR) ⟨⟨_, rfl, Or.inl ⟨rfl, ?_⟩⟩, trivial⟩
              skip
              refine o_stvH (vs := [.slice A611 x611.length c611]) (us' := [.int .i64 u5.1, .slice A593 x593.length c593, .slice A611 x611.length c611, .int .i64 u6.1]) hH 4 rfl rfl rfl rfl rfl tI24 rfl (List.cons_ne_nil _ _) rfl rfl rfl ?_
              intro s612 hH'
              replace hH : Hp sb s F0 s612 [Ck.ol OI 3 A593 c593 x593, Ck.ol OI 3 A611 c611 x611, Ck.emp, Ck.ov b2 [.int .i64 0, .slice none 0 0, .slice none 0 0, .int .i64 0] 37, Ck.ov b7 [.int .i64 u5.1, .slice A593 x593.length c593, .slice A611 x611.length c611, .int .i64 u6.1] 37, Ck.ov bp0 [.slice A0_0p p0_0.length c0_0p, .int .i64 u609.2.1, .int .u64 u609.2.2] 113, Ck.ol OI 3 A610 1 [IntKind.i64.wrap (1 + u609.1)]] := hH'
              clear hH'
              try dsimp only [putL, setL, evL, getL]
              refine HK_free (by kernel_rfl) ?_
              refine HX_done (by kernel_rfl) ?_
              exact hK530 _ _ ⟨u609.2.1, u609.2.2, x593, A593, c593, x611, A611, c611, H, rfl, hH.sel [0, 1, 5, 3, 4] (by decide)⟩
            · replace H := headE H
              obtain ⟨u613, hu613, H⟩ := H
              obtain ⟨F1, hA, hB⟩ := hH.take [2] (by decide)
              dsimp only [addC, setC, rmC, selC, getC] at hA
              skip
              refine o_call (args := #[.pointer (some ⟨bp0, 0, none⟩), .int .i64 3]) Try.func112 rfl rfl rfl (spec_l1Cur_pick.ok sb s608 F1 bp0 A0_0p c0_0p p0_0 x591 x592 3 HRp0_0 hA _ hu613) ?_
              rintro _ s613 ⟨rfl, hD⟩
              replace hH := hB _ _ _ (Up.refl _ _ _) hD
              clear hD hA hB
              dsimp only [addC, setC, rmC, selC, getC] at hH
              try dsimp only [putL, setL, evL, getL]
              refine HK_free (by kernel_rfl) ?_
              refine HX_lim (R := fun _ => True) (k := 0) (fun s' => Gro s613 s') 6 ?_
              have hR := Gro.refl s613
              have hH0 := hH
              refine HK_read 1 (v := .slice A429 x429.length c429) rfl (by kernel_rfl) (fun c l s h => hQp c l s h) rfl (fun s' hR' K hK => ?_) rfl rfl hR ?_
              · refine o_load' rfl Try.underlying24 rfl (has_gro hR' (hH0.hasv 4 rfl rfl)) ?_
                exact hK
              try dsimp only [putL, setL, evL, getL]
              refine HK_readP 4 (v := .int .i64 (IntKind.i64.wrap (1 + u613.1))) rfl (by kernel_rfl) (fun c l s h => hQp c l s h) rfl (fun s' K hK => ?_) rfl rfl (fun _ => hR) ?_
              · refine o_bin rfl rfl rfl ?_
                exact hK
              try dsimp only [putL, setL, evL, getL]
              refine HK_more [5] (by kernel_rfl) rfl (fun _ => hR) ⟨⟨_, rfl, Or.inl ⟨rfl, ?_⟩⟩, trivial⟩
              skip
              refine o_litF (K := KI) (O := OI) (ca := #[.int .i64 (IntKind.i64.wrap (1 + u613.1))]) [[.int .i64 (IntKind.i64.wrap (1 + u613.1))]] [IntKind.i64.wrap (1 + u613.1)] hH Try.underlying24 tI3 rfl (by decide) rfl rfl (by kernel_rfl) rfl ⟨rfl, Ent.own (Ent.flat rfl), trivial⟩ ?_
              intro A614 s614 hH' hG
              replace hR := hR.trans hG
              replace hH : Hp sb s F0 s614 [Ck.ol OI 3 A593 c593 x593, Ck.ol OI 3 A429 c429 x429, Ck.emp, Ck.ov b2 [.int .i64 0, .slice none 0 0, .slice none 0 0, .int .i64 0] 37, Ck.ov b7 [.int .i64 u5.1, .slice A593 x593.length c593, .slice A429 x429.length c429, .int .i64 u6.1] 37, Ck.ov bp0 [.slice A0_0p p0_0.length c0_0p, .int .i64 u613.2.1, .int .u64 u613.2.2] 113, Ck.ol OI 3 A614 1 [IntKind.i64.wrap (1 + u613.1)]] := hH'
              clear hH' hG
              try dsimp only [putL, setL, evL, getL]
              refine HK_more [6] (by kernel_rfl) rfl (fun _ => hR) ⟨⟨_, rfl, Or.inl ⟨rfl, ?_⟩⟩, trivial⟩
              replace H := headE H
              obtain ⟨x615, hx615, H⟩ := H
              skip
              refine o_appF (K := KI) (n := 17592186044416) (A := A429) (c := c429) (xs := x429) (ys := [IntKind.i64.wrap (1 + u613.1)]) (B := A614) (c2 := 1) hH 1 rfl rfl rfl rfl Try.underlying24 tI3 rfl (by decide) (by decide) (by decide) (Src.flat (hH.rd 6 rfl)) hx615 ?_
              intro A615 c615 s615 hH'
              replace hH : Hp sb s F0 s615 [Ck.ol OI 3 A593 c593 x593, Ck.ol OI 3 A615 c615 x615, Ck.emp, Ck.ov b2 [.int .i64 0, .slice none 0 0, .slice none 0 0, .int .i64 0] 37, Ck.ov b7 [.int .i64 u5.1, .slice A593 x593.length c593, .slice A429 x429.length c429, .int .i64 u6.1] 37, Ck.ov bp0 [.slice A0_0p p0_0.length c0_0p, .int .i64 u613.2.1, .int .u64 u613.2.2] 113, Ck.ol OI 3 A614 1 [IntKind.i64.wrap (1 + u613.1)]] := hH'
              clear hH'
              try dsimp only [putL, setL, evL, getL]
              refine HK_free (by kernel_rfl) ?_
              refine HX_lim (R := fun _ => True) (k := 0) (fun s' => Gro s615 s') 8 ?_
              have hR := Gro.refl s615
              have hH0 := hH
              refine HK_readP 7 (v := .pointer (some ⟨b7, 0 + 2, none⟩)) rfl (by kernel_rfl) (fun c l s h => hQp c l s h) rfl (fun s' K hK => ?_) rfl rfl (fun _ => hR) ?_
              · refine o_faddr' (ft := 24) (off := 2) rfl Try.underlying37 rfl tI24 (by decide) ?_
                exact hK
              try dsimp only [putL, setL, evL, getL]
              refine HK_more [8] (by kernel_rfl) rfl (fun _ => hR) ⟨⟨_, rfl, Or.inl ⟨rfl, ?_⟩⟩, trivial⟩
              skip
              refine o_stvH (vs := [.slice A615 x615.length c615]) (us' := [.int .i64 u5.1, .slice A593 x593.length c593, .slice A615 x615.length c615, .int .i64 u6.1]) hH 4 rfl rfl rfl rfl rfl tI24 rfl (List.cons_ne_nil _ _) rfl rfl rfl ?_
              intro s616 hH'
              replace hH : Hp sb s F0 s616 [Ck.ol OI 3 A593 c593 x593, Ck.ol OI 3 A615 c615 x615, Ck.emp, Ck.ov b2 [.int .i64 0, .slice none 0 0, .slice none 0 0, .int .i64 0] 37, Ck.ov b7 [.int .i64 u5.1, .slice A593 x593.length c593, .slice A615 x615.length c615, .int .i64 u6.1] 37, Ck.ov bp0 [.slice A0_0p p0_0.length c0_0p, .int .i64 u613.2.1, .int .u64 u613.2.2] 113, Ck.ol OI 3 A614 1 [IntKind.i64.wrap (1 + u613.1)]] := hH'
              clear hH'
              try dsimp only [putL, setL, evL, getL]
              refine HK_free (by kernel_rfl) ?_
              refine HX_done (by kernel_rfl) ?_
              exact hK530 _ _ ⟨u613.2.1, u613.2.2, x593, A593, c593, x615, A615, c615, H, rfl, hH.sel [0, 1, 5, 3, 4] (by decide)⟩
        · rintro l' s617 ⟨x572, x573, x574, A574, c574, x575, A575, c575, H, hl, hH⟩
          generalize getL l' 21 = j21, getL l' 22 = j22, getL l' 23 = j23, getL l' 24 = j24, getL l' 25 = j25, getL l' 26 = j26, getL l' 27 = j27, getL l' 28 = j28, getL l' 29 = j29, getL l' 30 = j30, getL l' 31 = j31, getL l' 32 = j32, getL l' 33 = j33, getL l' 34 = j34, getL l' 35 = j35, getL l' 36 = j36 at hl
          subst hl
          replace H := hG530 _ H
          try dsimp only at H
          refine HT_region ?_
          refine HL_cons rfl ?_
          refine o_move ?_
          try dsimp only [putL, setL, evL, getL]
          refine HL_cons rfl ?_
          refine o_bin rfl rfl rfl ?_
          try dsimp only [putL, setL, evL, getL]
          refine HL_cons rfl ?_
          refine o_assign ?_
          try dsimp only [putL, setL, evL, getL]
          refine HL_nil ?_
          exact hK526 _ _ ⟨kf, Nat.lt_succ_self kf, IntKind.i64.wrap (x425 - 1), x572, x573, x574, A574, c574, x575, A575, c575, H, rfl, hH⟩
      · replace H := iteF hb529 H
        refine HT_false (congrArg Value.bool hb529) ?_
        refine HT_exit ?_
        exact hK13 _ _ ⟨x426, x427, x428, A428, c428, x429, A429, c429, H, rfl, hH⟩
  · rintro l' s618 ⟨x314, x315, x316, A316, c316, x317, A317, c317, H, hl, hH⟩
    generalize getL l' 4 = j4, getL l' 17 = j17, getL l' 18 = j18, getL l' 19 = j19, getL l' 20 = j20, getL l' 21 = j21, getL l' 22 = j22, getL l' 23 = j23, getL l' 24 = j24, getL l' 25 = j25, getL l' 26 = j26, getL l' 27 = j27, getL l' 28 = j28, getL l' 29 = j29, getL l' 30 = j30, getL l' 31 = j31, getL l' 32 = j32, getL l' 33 = j33, getL l' 34 = j34, getL l' 35 = j35, getL l' 36 = j36 at hl
    subst hl
    replace H := hG13 _ H
    try dsimp only at H
    refine hK9 _ _ ?_
    refine joinH H fun G619 hG619 H => ?_
    refine HT_joinK (fun l' s' => ∃ (x632 : List (Int)) (A632 : Option Addr) (c632 : Nat) (x633 : Int) (x634 : Int) (x635 : Int), G619 (x632, x633, x634, x635) = some r ∧ l' = [.pointer (some ⟨bp0, 0, none⟩), undef, .pointer (some ⟨b2, 0, none⟩), .pointer (some ⟨b7, 0, none⟩), j4, .pointer (some ⟨bp0, 0, none⟩), .slice A4 [1, 3, 5, 10, 20, 60, 0, 61].length 8, .int .i64 u5.1, .pointer (some ⟨bp0, 0, none⟩), .int .i64 u6.1, .agg #[.int .i64 u5.1, .slice none 0 0, .slice none 0 0, .int .i64 u6.1], .pointer (some ⟨bp0, 0, none⟩), .pointer (some ⟨b7, 0 + 0, none⟩), .int .i64 u5.1, .int .i64 (IntKind.i64.wrap (u5.1 + 1)), .int .i64 u11, .int .i64 u12.1, j17, j18, j19, j20, j21, j22, j23, j24, j25, j26, j27, j28, j29, j30, j31, j32, j33, j34, j35, j36, getL l' 37, getL l' 38, getL l' 39, getL l' 40, getL l' 41, getL l' 42, getL l' 43, getL l' 44, getL l' 45, getL l' 46, getL l' 47, getL l' 48, getL l' 49, getL l' 50, getL l' 51, undef] ∧ Hp sb s F0 s' [Ck.ol OI 3 A632 c632 x632, Ck.ol OI 3 A316 c316 x316, Ck.ov b2 [.int .i64 0, .slice none 0 0, .slice none 0 0, .int .i64 0] 37, Ck.ov b7 [.int .i64 u5.1, .slice A316 x316.length c316, .slice A632 x632.length c632, .int .i64 x633] 37, Ck.ov bp0 [.slice A0_0p p0_0.length c0_0p, .int .i64 x634, .int .u64 x635] 113]) ?_ ?_
    · intro K619 hK619
      refine HT_seq_k ?_
      intro K636 hK636
      refine HT_region ?_
      refine HL_cons rfl ?_
      refine o_move ?_
      try dsimp only [putL, setL, evL, getL]
      replace H := headE H
      obtain ⟨u637, hu637, H⟩ := H
      obtain ⟨F1, hA, hB⟩ := hH.take [2] (by decide)
      dsimp only [addC, setC, rmC, selC, getC] at hA
      refine HL_cons rfl ?_
      refine o_call (args := #[.pointer (some ⟨bp0, 0, none⟩), .int .i64 40]) Try.func112 rfl rfl rfl (spec_l1Cur_pick.ok sb s618 F1 bp0 A0_0p c0_0p p0_0 x314 x315 40 HRp0_0 hA _ hu637) ?_
      rintro _ s637 ⟨rfl, hD⟩
      replace hH := hB _ _ _ (Up.refl _ _ _) hD
      clear hD hA hB
      dsimp only [addC, setC, rmC, selC, getC] at hH
      try dsimp only [putL, setL, evL, getL]
      refine HL_nil ?_
      refine hK636 _ _ ?_
      refine HT_block ?_
      refine HT_seq_k ?_
      intro K638 hK638
      refine HT_region ?_
      refine HL_cons rfl ?_
      refine o_bin rfl rfl rfl ?_
      try dsimp only [putL, setL, evL, getL]
      refine HL_cons rfl ?_
      refine o_assign ?_
      try dsimp only [putL, setL, evL, getL]
      refine HL_nil ?_
      refine hK638 _ _ ?_
      rcases Bool.eq_false_or_eq_true (u637.1 == 0) with hb639 | hb639
      · replace H := iteT hb639 H
        refine HT_true (congrArg Value.bool hb639) ?_
        refine HT_region ?_
        refine HL_cons rfl ?_
        refine o_faddr' (ft := 24) (off := 2) rfl Try.underlying37 rfl tI24 (by decide) ?_
        try dsimp only [putL, setL, evL, getL]
        refine HL_cons rfl ?_
        refine o_load' rfl Try.underlying24 rfl (hH.hasv 4 rfl rfl) ?_
        try dsimp only [putL, setL, evL, getL]
        refine HL_cons rfl ?_
        refine o_litF (K := KI) (O := OI) (ca := #[.int .i64 1]) [[.int .i64 1]] [1] hH Try.underlying24 tI3 rfl (by decide) rfl rfl (by kernel_rfl) rfl ⟨rfl, Ent.own (Ent.flat rfl), trivial⟩ ?_
        intro A640 s640 hH' hG
        replace hH : Hp sb s F0 s640 [Ck.ol OI 3 A316 c316 x316, Ck.ol OI 3 A317 c317 x317, Ck.emp, Ck.ov b2 [.int .i64 0, .slice none 0 0, .slice none 0 0, .int .i64 0] 37, Ck.ov b7 [.int .i64 u5.1, .slice A316 x316.length c316, .slice A317 x317.length c317, .int .i64 u6.1] 37, Ck.ov bp0 [.slice A0_0p p0_0.length c0_0p, .int .i64 u637.2.1, .int .u64 u637.2.2] 113, Ck.ol OI 3 A640 1 [1]] := hH'
        clear hH' hG
        try dsimp only [putL, setL, evL, getL]
        replace H := headE H
        obtain ⟨x641, hx641, H⟩ := H
        refine HL_cons rfl ?_
        refine o_appF (K := KI) (n := 17592186044416) (A := A317) (c := c317) (xs := x317) (ys := [1]) (B := A640) (c2 := 1) hH 1 rfl rfl rfl rfl Try.underlying24 tI3 rfl (by decide) (by decide) (by decide) (Src.flat (hH.rd 6 rfl)) hx641 ?_
        intro A641 c641 s641 hH'
        replace hH : Hp sb s F0 s641 [Ck.ol OI 3 A316 c316 x316, Ck.ol OI 3 A641 c641 x641, Ck.emp, Ck.ov b2 [.int .i64 0, .slice none 0 0, .slice none 0 0, .int .i64 0] 37, Ck.ov b7 [.int .i64 u5.1, .slice A316 x316.length c316, .slice A317 x317.length c317, .int .i64 u6.1] 37, Ck.ov bp0 [.slice A0_0p p0_0.length c0_0p, .int .i64 u637.2.1, .int .u64 u637.2.2] 113, Ck.ol OI 3 A640 1 [1]] := hH'
        clear hH'
        try dsimp only [putL, setL, evL, getL]
        refine HL_cons rfl ?_
        refine o_faddr' (ft := 24) (off := 2) rfl Try.underlying37 rfl tI24 (by decide) ?_
        try dsimp only [putL, setL, evL, getL]
        refine HL_cons rfl ?_
        refine o_stvH (vs := [.slice A641 x641.length c641]) (us' := [.int .i64 u5.1, .slice A316 x316.length c316, .slice A641 x641.length c641, .int .i64 u6.1]) hH 4 rfl rfl rfl rfl rfl tI24 rfl (List.cons_ne_nil _ _) rfl rfl rfl ?_
        intro s642 hH'
        replace hH : Hp sb s F0 s642 [Ck.ol OI 3 A316 c316 x316, Ck.ol OI 3 A641 c641 x641, Ck.emp, Ck.ov b2 [.int .i64 0, .slice none 0 0, .slice none 0 0, .int .i64 0] 37, Ck.ov b7 [.int .i64 u5.1, .slice A316 x316.length c316, .slice A641 x641.length c641, .int .i64 u6.1] 37, Ck.ov bp0 [.slice A0_0p p0_0.length c0_0p, .int .i64 u637.2.1, .int .u64 u637.2.2] 113, Ck.ol OI 3 A640 1 [1]] := hH'
        clear hH'
        try dsimp only [putL, setL, evL, getL]
        refine HL_nil ?_
        exact hK619 _ _ ⟨x641, A641, c641, u6.1, u637.2.1, u637.2.2, H, rfl, hH.sel [1, 0, 3, 4, 5] (by decide)⟩
      · replace H := iteF hb639 H
        refine HT_false (congrArg Value.bool hb639) ?_
        refine HT_seq_k ?_
        intro K643 hK643
        refine HT_region ?_
        refine HL_cons rfl ?_
        refine o_bin rfl rfl rfl ?_
        try dsimp only [putL, setL, evL, getL]
        refine HL_cons rfl ?_
        refine o_assign ?_
        try dsimp only [putL, setL, evL, getL]
        refine HL_nil ?_
        refine hK643 _ _ ?_
        rcases Bool.eq_false_or_eq_true (u637.1 == 1) with hb644 | hb644
        · replace H := iteT hb644 H
          refine HT_true (congrArg Value.bool hb644) ?_
          refine HT_region ?_
          refine HL_cons rfl ?_
          refine o_move ?_
          try dsimp only [putL, setL, evL, getL]
          refine HL_cons rfl ?_
          refine o_litF (K := KI) (O := OI) (ca := #[.int .i64 (-1), .int .i64 1000000, .int .i64 1000001]) [[.int .i64 (-1)], [.int .i64 1000000], [.int .i64 1000001]] [-1, 1000000, 1000001] hH Try.underlying24 tI3 rfl (by decide) rfl rfl (by kernel_rfl) rfl ⟨rfl, Ent.own (Ent.flat rfl), rfl, Ent.own (Ent.flat rfl), rfl, Ent.own (Ent.flat rfl), trivial⟩ ?_
          intro A645 s645 hH' hG
          replace hH : Hp sb s F0 s645 [Ck.ol OI 3 A316 c316 x316, Ck.ol OI 3 A317 c317 x317, Ck.emp, Ck.ov b2 [.int .i64 0, .slice none 0 0, .slice none 0 0, .int .i64 0] 37, Ck.ov b7 [.int .i64 u5.1, .slice A316 x316.length c316, .slice A317 x317.length c317, .int .i64 u6.1] 37, Ck.ov bp0 [.slice A0_0p p0_0.length c0_0p, .int .i64 u637.2.1, .int .u64 u637.2.2] 113, Ck.ol OI 3 A645 3 [-1, 1000000, 1000001]] := hH'
          clear hH' hG
          try dsimp only [putL, setL, evL, getL]
          replace H := headE H
          obtain ⟨u646, hu646, H⟩ := H
          obtain ⟨F1, sx, hx, hC, hA, hB⟩ := hH.takeT [5] (by decide)
          dsimp only [addC, setC, rmC, selC, getC] at hA
          refine HL_cons rfl ?_
          refine o_call (args := #[.pointer (some ⟨bp0, 0, none⟩), .slice A645 [-1, 1000000, 1000001].length 3]) Try.func104 rfl rfl rfl (spec_l1Cur_among.ok sx s645 F1 bp0 A0_0p c0_0p p0_0 u637.2.1 u637.2.2 A645 3 [-1, 1000000, 1000001] (HRp0_0.mono hx.mono) (Ck.rdT hx (hC 6 (by decide)) rfl) hA _ hu646) ?_
          rintro _ s646 ⟨rfl, hD⟩
          replace hH := hB _ _ _ inferInstance hD
          clear hD hA hB hx hC
          dsimp only [addC, setC, rmC, selC, getC] at hH
          try dsimp only [putL, setL, evL, getL]
          refine HL_cons rfl ?_
          refine o_faddr' (ft := 3) (off := 3) rfl Try.underlying37 rfl tI3 (by decide) ?_
          try dsimp only [putL, setL, evL, getL]
          refine HL_cons rfl ?_
          refine o_stvH (vs := [.int .i64 u646.1]) (us' := [.int .i64 u5.1, .slice A316 x316.length c316, .slice A317 x317.length c317, .int .i64 u646.1]) hH 4 rfl rfl rfl rfl rfl tI3 rfl (List.cons_ne_nil _ _) rfl rfl rfl ?_
          intro s647 hH'
          replace hH : Hp sb s F0 s647 [Ck.ol OI 3 A316 c316 x316, Ck.ol OI 3 A317 c317 x317, Ck.emp, Ck.ov b2 [.int .i64 0, .slice none 0 0, .slice none 0 0, .int .i64 0] 37, Ck.ov b7 [.int .i64 u5.1, .slice A316 x316.length c316, .slice A317 x317.length c317, .int .i64 u646.1] 37, Ck.emp, Ck.ol OI 3 A645 3 [-1, 1000000, 1000001], Ck.ov bp0 [.slice A0_0p p0_0.length c0_0p, .int .i64 u646.2.1, .int .u64 u646.2.2] 113] := hH'
          clear hH'
          try dsimp only [putL, setL, evL, getL]
          refine HL_nil ?_
          exact hK619 _ _ ⟨x317, A317, c317, u646.1, u646.2.1, u646.2.2, H, rfl, hH.sel [1, 0, 3, 4, 7] (by decide)⟩
        · replace H := iteF hb644 H
          refine HT_false (congrArg Value.bool hb644) ?_
          refine HT_skip ?_
          exact hK619 _ _ ⟨x317, A317, c317, u6.1, u637.2.1, u637.2.2, H, rfl, hH.sel [1, 0, 3, 4, 5] (by decide)⟩
    · rintro l' s648 ⟨x632, A632, c632, x633, x634, x635, H, hl, hH⟩
      generalize getL l' 37 = j37, getL l' 38 = j38, getL l' 39 = j39, getL l' 40 = j40, getL l' 41 = j41, getL l' 42 = j42, getL l' 43 = j43, getL l' 44 = j44, getL l' 45 = j45, getL l' 46 = j46, getL l' 47 = j47, getL l' 48 = j48, getL l' 49 = j49, getL l' 50 = j50, getL l' 51 = j51 at hl
      subst hl
      replace H := hG619 _ H
      try dsimp only at H
      refine HT_seq_k ?_
      intro K649 hK649
      refine HT_region ?_
      refine HL_cons rfl ?_
      refine o_loads' [.int .i64 u5.1, .slice A316 x316.length c316, .slice A632 x632.length c632, .int .i64 x633] rfl Try.underlying37 rfl tI37 rfl (hH.partv 3 rfl (0) [.int .i64 u5.1, .slice A316 x316.length c316, .slice A632 x632.length c632, .int .i64 x633] rfl) ?_
      try dsimp only [putL, setL, evL, getL]
      refine HL_cons rfl ?_
      refine o_stvH (vs := [.int .i64 u5.1, .slice A316 x316.length c316, .slice A632 x632.length c632, .int .i64 x633]) (us' := [.int .i64 u5.1, .slice A316 x316.length c316, .slice A632 x632.length c632, .int .i64 x633]) hH 2 rfl rfl rfl rfl rfl tI37 rfl (List.cons_ne_nil _ _) rfl rfl rfl ?_
      intro s650 hH'
      replace hH : Hp sb s F0 s650 [Ck.ol OI 3 A632 c632 x632, Ck.ol OI 3 A316 c316 x316, Ck.ov b2 [.int .i64 u5.1, .slice A316 x316.length c316, .slice A632 x632.length c632, .int .i64 x633] 37, Ck.ov b7 [.int .i64 u5.1, .slice A316 x316.length c316, .slice A632 x632.length c632, .int .i64 x633] 37, Ck.ov bp0 [.slice A0_0p p0_0.length c0_0p, .int .i64 x634, .int .u64 x635] 113] := hH'
      clear hH'
      try dsimp only [putL, setL, evL, getL]
      refine HL_nil ?_
      refine hK649 _ _ ?_
      refine HT_ret ?_
      exact hQr _ _ [.agg #[.int .i64 u5.1, .slice A316 x316.length c316, .slice A632 x632.length c632, .int .i64 x633]] ⟨ResV.cells rfl Try.underlying37 rfl tI37 (hH.var 2 rfl) rfl, trivial⟩ (retH (fun r => spec_l1Cur_buf.post sb s F0 bp0 A0_0p c0_0p p0_0 r _ _) (show some _ = some r from H) ⟨A316, c316, A632, c632, rfl, hH.sel [1, 0, 4] (by decide)⟩)
def spec_l1Cur_one.f (p0_0 : List (Int)) (p0_1 : Int) (p0_2 : Int) (p1 : Int) : Option (Bool × Int × Int) := (spec_l1Cur_pick.f p0_0 p0_1 p0_2 p1).bind fun u3 => some ((u3.1 == 0), u3.2.1, u3.2.2)
def spec_l1Cur_one.post (sb s : St) (F0 : Fp) (bp0 : Nat) (A0_0p : Option Addr) (c0_0p : Nat) (p0_0 : List (Int)) (r : Bool × Int × Int) : Value → St → Prop := fun v s' => v = .bool r.1 ∧ Hp sb s F0 s' [Ck.ov bp0 [.slice A0_0p p0_0.length c0_0p, .int .i64 r.2.1, .int .u64 r.2.2] 113]
set_option maxRecDepth 100000 in
set_option maxHeartbeats 4000000 in
theorem spec_l1Cur_one.ok (sb s : St) (F0 : Fp) (bp0 : Nat) (A0_0p : Option Addr) (c0_0p : Nat) (p0_0 : List (Int)) (p0_1 : Int) (p0_2 : Int) (p1 : Int) (HRp0_0 : Rd (Kd.int .u8) sb A0_0p c0_0p p0_0) (hH : Hp sb s F0 s [Ck.ov bp0 [.slice A0_0p p0_0.length c0_0p, .int .i64 p0_1, .int .u64 p0_2] 113]) (r : Bool × Int × Int) (H : spec_l1Cur_one.f p0_0 p0_1 p0_2 p1 = some r) : GCall Try.prog 113 #[.pointer (some ⟨bp0, 0, none⟩), .int .i64 p1] s (spec_l1Cur_one.post sb s F0 bp0 A0_0p c0_0p p0_0 r) := by
  refine GCall_ofk [.tmp 4] [.pointer (some ⟨bp0, 0, none⟩), .int .i64 p1, undef, undef, undef, undef, undef, undef, undef] Try.func113 rfl rfl rfl ?_
  intro w Q hQr hQn hQp
  replace H := topE H
  unfold spec_l1Cur_one.f at H
  refine HT_seq_k ?_
  intro K1 hK1
  refine HT_region ?_
  refine HL_cons rfl ?_
  refine o_assign ?_
  try dsimp only [putL, setL, evL, getL]
  refine HL_nil ?_
  refine hK1 _ _ ?_
  refine HT_seq_k ?_
  intro K2 hK2
  refine HT_region ?_
  refine HL_cons rfl ?_
  refine o_move ?_
  try dsimp only [putL, setL, evL, getL]
  refine HL_cons rfl ?_
  refine o_move ?_
  try dsimp only [putL, setL, evL, getL]
  replace H := headE H
  obtain ⟨u3, hu3, H⟩ := H
  obtain ⟨F1, hA, hB⟩ := hH.take [0] (by decide)
  dsimp only [addC, setC, rmC, selC, getC] at hA
  refine HL_cons rfl ?_
  refine o_call (args := #[.pointer (some ⟨bp0, 0, none⟩), .int .i64 p1]) Try.func112 rfl rfl rfl (spec_l1Cur_pick.ok sb s F1 bp0 A0_0p c0_0p p0_0 p0_1 p0_2 p1 HRp0_0 hA _ hu3) ?_
  rintro _ s3 ⟨rfl, hD⟩
  replace hH := hB _ _ _ (Up.refl _ _ _) hD
  clear hD hA hB
  dsimp only [addC, setC, rmC, selC, getC] at hH
  try dsimp only [putL, setL, evL, getL]
  refine HL_cons rfl ?_
  refine o_bin rfl rfl rfl ?_
  try dsimp only [putL, setL, evL, getL]
  refine HL_cons rfl ?_
  refine o_assign ?_
  try dsimp only [putL, setL, evL, getL]
  refine HL_nil ?_
  refine hK2 _ _ ?_
  refine HT_ret ?_
  exact hQr _ _ [.bool (u3.1 == 0)] ⟨rfl, trivial⟩ (retH (fun r => spec_l1Cur_one.post sb s F0 bp0 A0_0p c0_0p p0_0 r _ _) (show some _ = some r from H) ⟨rfl, hH.sel [1] (by decide)⟩)
def spec_DrawPutBuf.l1 (p0 : List (Int)) : Nat → (List (Int)) → (List (Int)) → Int → Int → Int → Option ((List (Int)) × (List (Int)) × Int × Int)
  | 0, _, _, _, _, _ => none
  | kf + 1, x83, x84, x85, x86, x87 => if (decide (x85 > 0)) = true then ((spec_l1Cur_among.f p0 x86 x87 [97, 98, 12354]).bind fun u112 => (app? 17592186044416 x83 [u112.1]).bind fun x114 => (spec_l1Cur_pick.f p0 u112.2.1 u112.2.2 4).bind fun u115 => (app? 17592186044416 x84 [IntKind.i64.wrap (1 + u115.1)]).bind fun x117 => spec_DrawPutBuf.l1 p0 kf x114 x117 (IntKind.i64.wrap (x85 - 1)) u115.2.1 u115.2.2) else (some (x83, x84, x86, x87))
def spec_DrawPutBuf.f (p0 : List (Int)) : Option (Int × (List (Int)) × (List (Int)) × Int × (List (Int)) × (List (Int))) := (spec_l1Cur_buf.f p0 0 0).bind fun u6 => (spec_l1Cur_pick.f p0 u6.2.2.2.2.1 u6.2.2.2.2.2 8).bind fun u14 => (spec_DrawPutBuf.l1 p0 (((u14.1) - (0)).toNat + 2) [] [] u14.1 u14.2.1 u14.2.2).bind fun (o : (List (Int)) × (List (Int)) × Int × Int) => match o with | (x65, x66, x67, x68) => (((if (decide ((x66.length : Int) > 0)) = true then ((spec_l1Cur_one.f p0 x67 x68 30).bind fun u135 => some u135.1) else (some false)).bind fun (o : Bool) => match o with | x133 => (if x133 = true then ((cut? x66 1 (x66.length : Int)).bind fun x138 => some x138) else (some x66))).bind fun (o : (List (Int))) => match o with | x129 => (some (u6.1, u6.2.1, u6.2.2.1, u6.2.2.2.1, x65, x129)))
def spec_DrawPutBuf.post (sb s : St) (F0 : Fp) (r : Int × (List (Int)) × (List (Int)) × Int × (List (Int)) × (List (Int))) : Value → St → Prop := fun v s' => ∃ (A1 : Option Addr) (c1 : Nat) (A2 : Option Addr) (c2 : Nat) (A4 : Option Addr) (c4 : Nat) (A5 : Option Addr) (c5 : Nat), v = .tuple #[.agg #[.int .i64 r.1, .slice A1 r.2.1.length c1, .slice A2 r.2.2.1.length c2, .int .i64 r.2.2.2.1], .slice A4 r.2.2.2.2.1.length c4, .slice A5 r.2.2.2.2.2.length c5] ∧ Hp sb s F0 s' [Ck.ol OI 3 A1 c1 r.2.1, Ck.ol OI 3 A2 c2 r.2.2.1, Ck.ol OI 3 A4 c4 r.2.2.2.2.1, Ck.ol OI 3 A5 c5 r.2.2.2.2.2]
set_option maxRecDepth 100000 in
set_option maxHeartbeats 4000000 in
theorem spec_DrawPutBuf.ok (sb s : St) (F0 : Fp) (A0p : Option Addr) (c0p : Nat) (p0 : List (Int)) (HRp0 : Rd (Kd.int .u8) sb A0p c0p p0) (hH : Hp sb s F0 s []) (r : Int × (List (Int)) × (List (Int)) × Int × (List (Int)) × (List (Int))) (H : spec_DrawPutBuf.f p0 = some r) : GCall Try.prog 24 #[.slice A0p p0.length c0p] s (spec_DrawPutBuf.post sb s F0 r) := by
  refine GCall_ofk [.cell 2 37, .tmp 3, .tmp 4] [.slice A0p p0.length c0p, undef, undef, undef, undef, undef, undef, undef, undef, undef, undef, undef, undef, undef, undef, undef, undef, undef, undef, undef, undef, undef, undef, undef, undef, undef, undef, undef, undef, undef, undef, undef, undef, undef, undef, undef, undef, undef, undef, undef, undef, undef, undef, undef, undef] Try.func24 rfl rfl rfl ?_
  intro w Q hQr hQn hQp
  replace H := topE H
  unfold spec_DrawPutBuf.f at H
  refine HT_seq_k ?_
  intro K1 hK1
  refine HT_region ?_
  refine HL_cons rfl ?_
  refine o_allocH hH tI37 ?_
  intro b2 s2 hH' hG
  replace hH : Hp sb s F0 s2 [Ck.ov b2 [.int .i64 0, .slice none 0 0, .slice none 0 0, .int .i64 0] 37] := hH'
  clear hH' hG
  try dsimp only [putL, setL, evL, getL]
  refine HL_cons rfl ?_
  refine o_assign ?_
  try dsimp only [putL, setL, evL, getL]
  refine HL_cons rfl ?_
  refine o_assign ?_
  try dsimp only [putL, setL, evL, getL]
  refine HL_nil ?_
  refine hK1 _ _ ?_
  refine HT_seq_k ?_
  intro K3 hK3
  refine HT_region ?_
  refine HL_cons rfl ?_
  refine o_move ?_
  try dsimp only [putL, setL, evL, getL]
  refine HL_cons rfl ?_
  refine o_build (pl := [(0, 1), (1, 1), (2, 1)]) (cs := #[.slice A0p p0.length c0p, .int .i64 0, .int .u64 0]) Try.underlying113 tI113 (by kernel_rfl) (by kernel_rfl) rfl ?_
  try dsimp only [putL, setL, evL, getL]
  refine HL_cons rfl ?_
  refine o_boxH hH rfl ?_
  intro b4 s4 hH' hG
  replace hH : Hp sb s F0 s4 [Ck.ov b2 [.int .i64 0, .slice none 0 0, .slice none 0 0, .int .i64 0] 37, Ck.ov b4 [.slice A0p p0.length c0p, .int .i64 0, .int .u64 0] 113] := hH'
  clear hH' hG
  try dsimp only [putL, setL, evL, getL]
  refine HL_cons rfl ?_
  refine o_assign ?_
  try dsimp only [putL, setL, evL, getL]
  refine HL_nil ?_
  refine hK3 _ _ ?_
  refine HT_seq_k ?_
  intro K5 hK5
  refine HT_region ?_
  refine HL_cons rfl ?_
  refine o_move ?_
  try dsimp only [putL, setL, evL, getL]
  replace H := headE H
  obtain ⟨u6, hu6, H⟩ := H
  obtain ⟨F1, hA, hB⟩ := hH.take [1] (by decide)
  dsimp only [addC, setC, rmC, selC, getC] at hA
  refine HL_cons rfl ?_
  refine o_call (args := #[.pointer (some ⟨b4, 0, none⟩)]) Try.func111 rfl rfl rfl (spec_l1Cur_buf.ok sb s4 F1 b4 A0p c0p p0 0 0 HRp0 hA _ hu6) ?_
  rintro _ s6 ⟨A7, c7, A8, c8, rfl, hD⟩
  replace hH := hB _ _ _ (Up.refl _ _ _) hD
  clear hD hA hB
  dsimp only [addC, setC, rmC, selC, getC] at hH
  try dsimp only [putL, setL, evL, getL]
  refine HL_cons rfl ?_
  refine o_allocH hH tI37 ?_
  intro b9 s9 hH' hG
  replace hH : Hp sb s F0 s9 [Ck.ov b2 [.int .i64 0, .slice none 0 0, .slice none 0 0, .int .i64 0] 37, Ck.emp, Ck.ol OI 3 A7 c7 u6.2.1, Ck.ol OI 3 A8 c8 u6.2.2.1, Ck.ov b4 [.slice A0p p0.length c0p, .int .i64 u6.2.2.2.2.1, .int .u64 u6.2.2.2.2.2] 113, Ck.ov b9 [.int .i64 0, .slice none 0 0, .slice none 0 0, .int .i64 0] 37] := hH'
  clear hH' hG
  try dsimp only [putL, setL, evL, getL]
  refine HL_cons rfl ?_
  refine o_stvH (vs := [.int .i64 u6.1, .slice A7 u6.2.1.length c7, .slice A8 u6.2.2.1.length c8, .int .i64 u6.2.2.2.1]) (us' := [.int .i64 u6.1, .slice A7 u6.2.1.length c7, .slice A8 u6.2.2.1.length c8, .int .i64 u6.2.2.2.1]) hH 5 rfl rfl rfl rfl rfl tI37 rfl (List.cons_ne_nil _ _) rfl rfl rfl ?_
  intro s10 hH'
  replace hH : Hp sb s F0 s10 [Ck.ov b2 [.int .i64 0, .slice none 0 0, .slice none 0 0, .int .i64 0] 37, Ck.emp, Ck.ol OI 3 A7 c7 u6.2.1, Ck.ol OI 3 A8 c8 u6.2.2.1, Ck.ov b4 [.slice A0p p0.length c0p, .int .i64 u6.2.2.2.2.1, .int .u64 u6.2.2.2.2.2] 113, Ck.ov b9 [.int .i64 u6.1, .slice A7 u6.2.1.length c7, .slice A8 u6.2.2.1.length c8, .int .i64 u6.2.2.2.1] 37] := hH'
  clear hH'
  try dsimp only [putL, setL, evL, getL]
  refine HL_nil ?_
  refine hK5 _ _ ?_
  refine HT_seq_k ?_
  intro K11 hK11
  refine HT_region ?_
  refine HL_cons rfl ?_
  refine o_assign ?_
  try dsimp only [putL, setL, evL, getL]
  refine HL_cons rfl ?_
  refine o_assign ?_
  try dsimp only [putL, setL, evL, getL]
  refine HL_nil ?_
  refine hK11 _ _ ?_
  refine HT_seq_k ?_
  intro K12 hK12
  refine HT_seq_k ?_
  intro K13 hK13
  refine HT_region ?_
  refine HL_cons rfl ?_
  refine o_move ?_
  try dsimp only [putL, setL, evL, getL]
  replace H := headE H
  obtain ⟨u14, hu14, H⟩ := H
  obtain ⟨F1, hA, hB⟩ := hH.take [4] (by decide)
  dsimp only [addC, setC, rmC, selC, getC] at hA
  refine HL_cons rfl ?_
  refine o_call (args := #[.pointer (some ⟨b4, 0, none⟩), .int .i64 8]) Try.func112 rfl rfl rfl (spec_l1Cur_pick.ok sb s10 F1 b4 A0p c0p p0 u6.2.2.2.2.1 u6.2.2.2.2.2 8 HRp0 hA _ hu14) ?_
  rintro _ s14 ⟨rfl, hD⟩
  replace hH := hB _ _ _ (Up.refl _ _ _) hD
  clear hD hA hB
  dsimp only [addC, setC, rmC, selC, getC] at hH
  try dsimp only [putL, setL, evL, getL]
  refine HL_cons rfl ?_
  refine o_assign ?_
  try dsimp only [putL, setL, evL, getL]
  refine HL_nil ?_
  refine hK13 _ _ ?_
  refine joinH H fun G15 hG15 H => ?_
  refine HT_toK (fun l' s' => ∃ (x65 : List (Int)) (A65 : Option Addr) (c65 : Nat) (x66 : List (Int)) (A66 : Option Addr) (c66 : Nat) (x67 : Int) (x68 : Int), G15 (x65, x66, x67, x68) = some r ∧ l' = [.slice A0p p0.length c0p, undef, .pointer (some ⟨b2, 0, none⟩), .slice none 0 0, .slice none 0 0, .pointer (some ⟨b4, 0, none⟩), .pointer (some ⟨b9, 0, none⟩), .slice A65 x65.length c65, .slice A66 x66.length c66, getL l' 9, .slice A0p p0.length c0p, .agg #[.slice A0p p0.length c0p, .int .i64 0, .int .u64 0], .pointer (some ⟨b4, 0, none⟩), .pointer (some ⟨b4, 0, none⟩), .agg #[.int .i64 u6.1, .slice A7 u6.2.1.length c7, .slice A8 u6.2.2.1.length c8, .int .i64 u6.2.2.2.1], .pointer (some ⟨b4, 0, none⟩), .int .i64 u14.1, getL l' 17, getL l' 18, getL l' 19, getL l' 20, getL l' 21, getL l' 22, getL l' 23, getL l' 24, getL l' 25, getL l' 26, getL l' 27, getL l' 28, getL l' 29, getL l' 30, getL l' 31, getL l' 32, undef, undef, undef, undef, undef, undef, undef, undef, undef, undef, undef, undef] ∧ Hp sb s F0 s' [Ck.ol OI 3 A65 c65 x65, Ck.ol OI 3 A66 c66 x66, Ck.ol OI 3 A7 c7 u6.2.1, Ck.ol OI 3 A8 c8 u6.2.2.1, Ck.ov b2 [.int .i64 0, .slice none 0 0, .slice none 0 0, .int .i64 0] 37, Ck.ov b4 [.slice A0p p0.length c0p, .int .i64 x67, .int .u64 x68] 113, Ck.ov b9 [.int .i64 u6.1, .slice A7 u6.2.1.length c7, .slice A8 u6.2.2.1.length c8, .int .i64 u6.2.2.2.1] 37]) ?_ ?_
  · intro K15 hK15
    refine HT_block ?_
    refine HT_loopK (fun kf l' s' => ∃ (x83 : List (Int)) (A83 : Option Addr) (c83 : Nat) (x84 : List (Int)) (A84 : Option Addr) (c84 : Nat) (x85 : Int) (x86 : Int) (x87 : Int), (spec_DrawPutBuf.l1 p0 kf x83 x84 x85 x86 x87).bind G15 = some r ∧ l' = [.slice A0p p0.length c0p, undef, .pointer (some ⟨b2, 0, none⟩), .slice none 0 0, .slice none 0 0, .pointer (some ⟨b4, 0, none⟩), .pointer (some ⟨b9, 0, none⟩), .slice A83 x83.length c83, .slice A84 x84.length c84, .int .i64 x85, .slice A0p p0.length c0p, .agg #[.slice A0p p0.length c0p, .int .i64 0, .int .u64 0], .pointer (some ⟨b4, 0, none⟩), .pointer (some ⟨b4, 0, none⟩), .agg #[.int .i64 u6.1, .slice A7 u6.2.1.length c7, .slice A8 u6.2.2.1.length c8, .int .i64 u6.2.2.2.1], .pointer (some ⟨b4, 0, none⟩), .int .i64 u14.1, getL l' 17, getL l' 18, getL l' 19, getL l' 20, getL l' 21, getL l' 22, getL l' 23, getL l' 24, getL l' 25, getL l' 26, getL l' 27, getL l' 28, getL l' 29, getL l' 30, getL l' 31, getL l' 32, undef, undef, undef, undef, undef, undef, undef, undef, undef, undef, undef, undef] ∧ Hp sb s F0 s' [Ck.ol OI 3 A83 c83 x83, Ck.ol OI 3 A84 c84 x84, Ck.ol OI 3 A7 c7 u6.2.1, Ck.ol OI 3 A8 c8 u6.2.2.1, Ck.ov b2 [.int .i64 0, .slice none 0 0, .slice none 0 0, .int .i64 0] 37, Ck.ov b4 [.slice A0p p0.length c0p, .int .i64 x86, .int .u64 x87] 113, Ck.ov b9 [.int .i64 u6.1, .slice A7 u6.2.1.length c7, .slice A8 u6.2.2.1.length c8, .int .i64 u6.2.2.2.1] 37]) (((u14.1) - (0)).toNat + 2) ⟨[], none, 0, [], none, 0, u14.1, u14.2.1, u14.2.2, H, rfl, ((hH.nil (K := KI) OI 3).nil (K := KI) OI 3).sel [7, 8, 2, 3, 0, 6, 5] (by decide)⟩ ?_
    rintro kf l' s105 ⟨x83, A83, c83, x84, A84, c84, x85, x86, x87, H, hl, hH⟩ K105 hK105
    generalize getL l' 17 = j17, getL l' 18 = j18, getL l' 19 = j19, getL l' 20 = j20, getL l' 21 = j21, getL l' 22 = j22, getL l' 23 = j23, getL l' 24 = j24, getL l' 25 = j25, getL l' 26 = j26, getL l' 27 = j27, getL l' 28 = j28, getL l' 29 = j29, getL l' 30 = j30, getL l' 31 = j31, getL l' 32 = j32 at hl
    subst hl
    cases kf with
    | zero => simp [spec_DrawPutBuf.l1] at H
    | succ kf =>
      rw [spec_DrawPutBuf.l1] at H
      refine HT_seq_k ?_
      intro K106 hK106
      refine HT_seq_k ?_
      intro K107 hK107
      refine HT_region ?_
      refine HL_cons rfl ?_
      refine o_move ?_
      try dsimp only [putL, setL, evL, getL]
      refine HL_cons rfl ?_
      refine o_bin rfl rfl rfl ?_
      try dsimp only [putL, setL, evL, getL]
      refine HL_nil ?_
      refine hK107 _ _ ?_
      rcases Bool.eq_false_or_eq_true (decide (x85 > 0)) with hb108 | hb108
      · replace H := iteT hb108 H
        refine HT_true (congrArg Value.bool hb108) ?_
        refine HT_skip ?_
        refine hK106 _ _ ?_
        refine HT_seq_k ?_
        intro K109 hK109
        refine HT_block ?_
        refine HT_seq_k ?_
        intro K110 hK110
        refine HT_region ?_
        refine HL_cons rfl ?_
        refine o_move ?_
        try dsimp only [putL, setL, evL, getL]
        refine HL_cons rfl ?_
        refine o_move ?_
        try dsimp only [putL, setL, evL, getL]
        refine HL_cons rfl ?_
        refine o_litF (K := KI) (O := OI) (ca := #[.int .i64 97, .int .i64 98, .int .i64 12354]) [[.int .i64 97], [.int .i64 98], [.int .i64 12354]] [97, 98, 12354] hH Try.underlying24 tI3 rfl (by decide) rfl rfl (by kernel_rfl) rfl ⟨rfl, Ent.own (Ent.flat rfl), rfl, Ent.own (Ent.flat rfl), rfl, Ent.own (Ent.flat rfl), trivial⟩ ?_
        intro A111 s111 hH' hG
        replace hH : Hp sb s F0 s111 [Ck.ol OI 3 A83 c83 x83, Ck.ol OI 3 A84 c84 x84, Ck.ol OI 3 A7 c7 u6.2.1, Ck.ol OI 3 A8 c8 u6.2.2.1, Ck.ov b2 [.int .i64 0, .slice none 0 0, .slice none 0 0, .int .i64 0] 37, Ck.ov b4 [.slice A0p p0.length c0p, .int .i64 x86, .int .u64 x87] 113, Ck.ov b9 [.int .i64 u6.1, .slice A7 u6.2.1.length c7, .slice A8 u6.2.2.1.length c8, .int .i64 u6.2.2.2.1] 37, Ck.ol OI 3 A111 3 [97, 98, 12354]] := hH'
        clear hH' hG
        try dsimp only [putL, setL, evL, getL]
        replace H := headE H
        obtain ⟨u112, hu112, H⟩ := H
        obtain ⟨F1, sx, hx, hC, hA, hB⟩ := hH.takeT [5] (by decide)
        dsimp only [addC, setC, rmC, selC, getC] at hA
        refine HL_cons rfl ?_
        refine o_call (args := #[.pointer (some ⟨b4, 0, none⟩), .slice A111 [97, 98, 12354].length 3]) Try.func104 rfl rfl rfl (spec_l1Cur_among.ok sx s111 F1 b4 A0p c0p p0 x86 x87 A111 3 [97, 98, 12354] (HRp0.mono hx.mono) (Ck.rdT hx (hC 7 (by decide)) rfl) hA _ hu112) ?_
        rintro _ s112 ⟨rfl, hD⟩
        replace hH := hB _ _ _ inferInstance hD
        clear hD hA hB hx hC
        dsimp only [addC, setC, rmC, selC, getC] at hH
        try dsimp only [putL, setL, evL, getL]
        refine HL_cons rfl ?_
        refine o_litF (K := KI) (O := OI) (ca := #[.int .i64 u112.1]) [[.int .i64 u112.1]] [u112.1] hH Try.underlying24 tI3 rfl (by decide) rfl rfl (by kernel_rfl) rfl ⟨rfl, Ent.own (Ent.flat rfl), trivial⟩ ?_
        intro A113 s113 hH' hG
        replace hH : Hp sb s F0 s113 [Ck.ol OI 3 A83 c83 x83, Ck.ol OI 3 A84 c84 x84, Ck.ol OI 3 A7 c7 u6.2.1, Ck.ol OI 3 A8 c8 u6.2.2.1, Ck.ov b2 [.int .i64 0, .slice none 0 0, .slice none 0 0, .int .i64 0] 37, Ck.emp, Ck.ov b9 [.int .i64 u6.1, .slice A7 u6.2.1.length c7, .slice A8 u6.2.2.1.length c8, .int .i64 u6.2.2.2.1] 37, Ck.ol OI 3 A111 3 [97, 98, 12354], Ck.ov b4 [.slice A0p p0.length c0p, .int .i64 u112.2.1, .int .u64 u112.2.2] 113, Ck.ol OI 3 A113 1 [u112.1]] := hH'
        clear hH' hG
        try dsimp only [putL, setL, evL, getL]
        replace H := headE H
        obtain ⟨x114, hx114, H⟩ := H
        refine HL_cons rfl ?_
        refine o_appF (K := KI) (n := 17592186044416) (A := A83) (c := c83) (xs := x83) (ys := [u112.1]) (B := A113) (c2 := 1) hH 0 rfl rfl rfl rfl Try.underlying24 tI3 rfl (by decide) (by decide) (by decide) (Src.flat (hH.rd 9 rfl)) hx114 ?_
        intro A114 c114 s114 hH'
        replace hH : Hp sb s F0 s114 [Ck.ol OI 3 A114 c114 x114, Ck.ol OI 3 A84 c84 x84, Ck.ol OI 3 A7 c7 u6.2.1, Ck.ol OI 3 A8 c8 u6.2.2.1, Ck.ov b2 [.int .i64 0, .slice none 0 0, .slice none 0 0, .int .i64 0] 37, Ck.emp, Ck.ov b9 [.int .i64 u6.1, .slice A7 u6.2.1.length c7, .slice A8 u6.2.2.1.length c8, .int .i64 u6.2.2.2.1] 37, Ck.ol OI 3 A111 3 [97, 98, 12354], Ck.ov b4 [.slice A0p p0.length c0p, .int .i64 u112.2.1, .int .u64 u112.2.2] 113, Ck.ol OI 3 A113 1 [u112.1]] := hH'
        clear hH'
        try dsimp only [putL, setL, evL, getL]
        refine HL_cons rfl ?_
        refine o_assign ?_
        try dsimp only [putL, setL, evL, getL]
        refine HL_nil ?_
        refine hK110 _ _ ?_
        refine HT_region ?_
        refine HL_cons rfl ?_
        refine o_move ?_
        try dsimp only [putL, setL, evL, getL]
        refine HL_cons rfl ?_
        refine o_move ?_
        try dsimp only [putL, setL, evL, getL]
        replace H := headE H
        obtain ⟨u115, hu115, H⟩ := H
        obtain ⟨F1, hA, hB⟩ := hH.take [8] (by decide)
        dsimp only [addC, setC, rmC, selC, getC] at hA
        refine HL_cons rfl ?_
        refine o_call (args := #[.pointer (some ⟨b4, 0, none⟩), .int .i64 4]) Try.func112 rfl rfl rfl (spec_l1Cur_pick.ok sb s114 F1 b4 A0p c0p p0 u112.2.1 u112.2.2 4 HRp0 hA _ hu115) ?_
        rintro _ s115 ⟨rfl, hD⟩
        replace hH := hB _ _ _ (Up.refl _ _ _) hD
        clear hD hA hB
        dsimp only [addC, setC, rmC, selC, getC] at hH
        try dsimp only [putL, setL, evL, getL]
        refine HL_cons rfl ?_
        refine o_bin rfl rfl rfl ?_
        try dsimp only [putL, setL, evL, getL]
        refine HL_cons rfl ?_
        refine o_litF (K := KI) (O := OI) (ca := #[.int .i64 (IntKind.i64.wrap (1 + u115.1))]) [[.int .i64 (IntKind.i64.wrap (1 + u115.1))]] [IntKind.i64.wrap (1 + u115.1)] hH Try.underlying24 tI3 rfl (by decide) rfl rfl (by kernel_rfl) rfl ⟨rfl, Ent.own (Ent.flat rfl), trivial⟩ ?_
        intro A116 s116 hH' hG
        replace hH : Hp sb s F0 s116 [Ck.ol OI 3 A114 c114 x114, Ck.ol OI 3 A84 c84 x84, Ck.ol OI 3 A7 c7 u6.2.1, Ck.ol OI 3 A8 c8 u6.2.2.1, Ck.ov b2 [.int .i64 0, .slice none 0 0, .slice none 0 0, .int .i64 0] 37, Ck.emp, Ck.ov b9 [.int .i64 u6.1, .slice A7 u6.2.1.length c7, .slice A8 u6.2.2.1.length c8, .int .i64 u6.2.2.2.1] 37, Ck.ol OI 3 A111 3 [97, 98, 12354], Ck.emp, Ck.ol OI 3 A113 1 [u112.1], Ck.ov b4 [.slice A0p p0.length c0p, .int .i64 u115.2.1, .int .u64 u115.2.2] 113, Ck.ol OI 3 A116 1 [IntKind.i64.wrap (1 + u115.1)]] := hH'
        clear hH' hG
        try dsimp only [putL, setL, evL, getL]
        replace H := headE H
        obtain ⟨x117, hx117, H⟩ := H
        refine HL_cons rfl ?_
        refine o_appF (K := KI) (n := 17592186044416) (A := A84) (c := c84) (xs := x84) (ys := [IntKind.i64.wrap (1 + u115.1)]) (B := A116) (c2 := 1) hH 1 rfl rfl rfl rfl Try.underlying24 tI3 rfl (by decide) (by decide) (by decide) (Src.flat (hH.rd 11 rfl)) hx117 ?_
        intro A117 c117 s117 hH'
        replace hH : Hp sb s F0 s117 [Ck.ol OI 3 A114 c114 x114, Ck.ol OI 3 A117 c117 x117, Ck.ol OI 3 A7 c7 u6.2.1, Ck.ol OI 3 A8 c8 u6.2.2.1, Ck.ov b2 [.int .i64 0, .slice none 0 0, .slice none 0 0, .int .i64 0] 37, Ck.emp, Ck.ov b9 [.int .i64 u6.1, .slice A7 u6.2.1.length c7, .slice A8 u6.2.2.1.length c8, .int .i64 u6.2.2.2.1] 37, Ck.ol OI 3 A111 3 [97, 98, 12354], Ck.emp, Ck.ol OI 3 A113 1 [u112.1], Ck.ov b4 [.slice A0p p0.length c0p, .int .i64 u115.2.1, .int .u64 u115.2.2] 113, Ck.ol OI 3 A116 1 [IntKind.i64.wrap (1 + u115.1)]] := hH'
        clear hH'
        try dsimp only [putL, setL, evL, getL]
        refine HL_cons rfl ?_
        refine o_assign ?_
        try dsimp only [putL, setL, evL, getL]
        refine HL_nil ?_
        refine hK109 _ _ ?_
        refine HT_region ?_
        refine HL_cons rfl ?_
        refine o_move ?_
        try dsimp only [putL, setL, evL, getL]
        refine HL_cons rfl ?_
        refine o_bin rfl rfl rfl ?_
        try dsimp only [putL, setL, evL, getL]
        refine HL_cons rfl ?_
        refine o_assign ?_
        try dsimp only [putL, setL, evL, getL]
        refine HL_nil ?_
        exact hK105 _ _ ⟨kf, Nat.lt_succ_self kf, x114, A114, c114, x117, A117, c117, IntKind.i64.wrap (x85 - 1), u115.2.1, u115.2.2, H, rfl, hH.sel [0, 1, 2, 3, 4, 10, 6] (by decide)⟩
      · replace H := iteF hb108 H
        refine HT_false (congrArg Value.bool hb108) ?_
        refine HT_exit ?_
        exact hK15 _ _ ⟨x83, A83, c83, x84, A84, c84, x86, x87, H, rfl, hH⟩
  · rintro l' s118 ⟨x65, A65, c65, x66, A66, c66, x67, x68, H, hl, hH⟩
    generalize getL l' 9 = j9, getL l' 17 = j17, getL l' 18 = j18, getL l' 19 = j19, getL l' 20 = j20, getL l' 21 = j21, getL l' 22 = j22, getL l' 23 = j23, getL l' 24 = j24, getL l' 25 = j25, getL l' 26 = j26, getL l' 27 = j27, getL l' 28 = j28, getL l' 29 = j29, getL l' 30 = j30, getL l' 31 = j31, getL l' 32 = j32 at hl
    subst hl
    replace H := hG15 _ H
    try dsimp only at H
    refine hK12 _ _ ?_
    refine joinH H fun G119 hG119 H => ?_
    refine HT_joinK (fun l' s' => ∃ (x129 : List (Int)) (A129 : Option Addr) (c129 : Nat), G119 x129 = some r ∧ l' = [.slice A0p p0.length c0p, undef, .pointer (some ⟨b2, 0, none⟩), .slice none 0 0, .slice none 0 0, .pointer (some ⟨b4, 0, none⟩), .pointer (some ⟨b9, 0, none⟩), .slice A65 x65.length c65, .slice A129 x129.length c129, j9, .slice A0p p0.length c0p, .agg #[.slice A0p p0.length c0p, .int .i64 0, .int .u64 0], .pointer (some ⟨b4, 0, none⟩), .pointer (some ⟨b4, 0, none⟩), .agg #[.int .i64 u6.1, .slice A7 u6.2.1.length c7, .slice A8 u6.2.2.1.length c8, .int .i64 u6.2.2.2.1], .pointer (some ⟨b4, 0, none⟩), .int .i64 u14.1, j17, j18, j19, j20, j21, j22, j23, j24, j25, j26, j27, j28, j29, j30, j31, j32, getL l' 33, getL l' 34, getL l' 35, getL l' 36, getL l' 37, getL l' 38, getL l' 39, getL l' 40, getL l' 41, undef, undef, undef] ∧ Hp sb s F0 s' [Ck.ol OI 3 A129 c129 x129, Ck.ol OI 3 A65 c65 x65, Ck.ol OI 3 A7 c7 u6.2.1, Ck.ol OI 3 A8 c8 u6.2.2.1, Ck.ov b2 [.int .i64 0, .slice none 0 0, .slice none 0 0, .int .i64 0] 37, Ck.ov b9 [.int .i64 u6.1, .slice A7 u6.2.1.length c7, .slice A8 u6.2.2.1.length c8, .int .i64 u6.2.2.2.1] 37]) ?_ ?_
    · intro K119 hK119
      refine joinH H fun G130 hG130 H => ?_
      refine HT_joinK (fun l' s' => ∃ (x133 : Bool), G130 x133 = some r ∧ l' = [.slice A0p p0.length c0p, undef, .pointer (some ⟨b2, 0, none⟩), .slice none 0 0, .slice none 0 0, .pointer (some ⟨b4, 0, none⟩), .pointer (some ⟨b9, 0, none⟩), .slice A65 x65.length c65, .slice A66 x66.length c66, j9, .slice A0p p0.length c0p, .agg #[.slice A0p p0.length c0p, .int .i64 0, .int .u64 0], .pointer (some ⟨b4, 0, none⟩), .pointer (some ⟨b4, 0, none⟩), .agg #[.int .i64 u6.1, .slice A7 u6.2.1.length c7, .slice A8 u6.2.2.1.length c8, .int .i64 u6.2.2.2.1], .pointer (some ⟨b4, 0, none⟩), .int .i64 u14.1, j17, j18, j19, j20, j21, j22, j23, j24, j25, j26, j27, j28, j29, j30, j31, j32, getL l' 33, getL l' 34, getL l' 35, getL l' 36, getL l' 37, getL l' 38, .bool x133, undef, undef, undef, undef, undef] ∧ Hp sb s F0 s' [Ck.ol OI 3 A65 c65 x65, Ck.ol OI 3 A66 c66 x66, Ck.ol OI 3 A7 c7 u6.2.1, Ck.ol OI 3 A8 c8 u6.2.2.1, Ck.ov b2 [.int .i64 0, .slice none 0 0, .slice none 0 0, .int .i64 0] 37, Ck.ov b9 [.int .i64 u6.1, .slice A7 u6.2.1.length c7, .slice A8 u6.2.2.1.length c8, .int .i64 u6.2.2.2.1] 37]) ?_ ?_
      · intro K130 hK130
        refine HT_region ?_
        refine HL_cons rfl ?_
        refine o_move ?_
        try dsimp only [putL, setL, evL, getL]
        refine HL_cons rfl ?_
        refine o_len rfl Try.underlying24 ?_
        try dsimp only [putL, setL, evL, getL]
        refine HL_cons rfl ?_
        refine o_bin rfl rfl rfl ?_
        try dsimp only [putL, setL, evL, getL]
        refine HL_cons rfl ?_
        refine o_move ?_
        try dsimp only [putL, setL, evL, getL]
        rcases Bool.eq_false_or_eq_true (decide ((x66.length : Int) > 0)) with hb134 | hb134
        · replace H := iteT hb134 H
          refine HL_want ?_ ?_
          · exact wantT (j := 3) (b := true) (t := 36) (c := decide ((x66.length : Int) > 0)) rfl rfl rfl rfl hb134
          refine o_move ?_
          try dsimp only [putL, setL, evL, getL]
          replace H := headE H
          obtain ⟨u135, hu135, H⟩ := H
          obtain ⟨F1, hA, hB⟩ := hH.take [5] (by decide)
          dsimp only [addC, setC, rmC, selC, getC] at hA
          refine HL_want ?_ ?_
          · exact wantT (j := 3) (b := true) (t := 36) (c := decide ((x66.length : Int) > 0)) rfl rfl rfl rfl hb134
          refine o_call (args := #[.pointer (some ⟨b4, 0, none⟩), .int .i64 30]) Try.func113 rfl rfl rfl (spec_l1Cur_one.ok sb s118 F1 b4 A0p c0p p0 x67 x68 30 HRp0 hA _ hu135) ?_
          rintro _ s135 ⟨rfl, hD⟩
          replace hH := hB _ _ _ (Up.refl _ _ _) hD
          clear hD hA hB
          dsimp only [addC, setC, rmC, selC, getC] at hH
          try dsimp only [putL, setL, evL, getL]
          refine HL_cons rfl ?_
          refine o_pickT rfl hb134 ?_
          try dsimp only [putL, setL, evL, getL]
          refine HL_nil ?_
          exact hK130 _ _ ⟨u135.1, H, rfl, hH.sel [0, 1, 2, 3, 4, 6] (by decide)⟩
        · replace H := iteF hb134 H
          refine HL_skip ?_ ?_
          · exact wantF (j := 3) (b := true) (t := 36) (c := decide ((x66.length : Int) > 0)) rfl rfl rfl rfl hb134
          try dsimp only [putL, setL, evL, getL]
          refine HL_skip ?_ ?_
          · exact wantF (j := 3) (b := true) (t := 36) (c := decide ((x66.length : Int) > 0)) rfl rfl rfl rfl hb134
          try dsimp only [putL, setL, evL, getL]
          refine HL_cons rfl ?_
          refine o_pickF rfl hb134 ?_
          try dsimp only [putL, setL, evL, getL]
          refine HL_nil ?_
          exact hK130 _ _ ⟨false, H, rfl, hH.sel [0, 1, 2, 3, 4, 6] (by decide)⟩
      · rintro l' s136 ⟨x133, H, hl, hH⟩
        generalize getL l' 33 = j33, getL l' 34 = j34, getL l' 35 = j35, getL l' 36 = j36, getL l' 37 = j37, getL l' 38 = j38 at hl
        subst hl
        replace H := hG130 _ H
        try dsimp only at H
        rcases Bool.eq_false_or_eq_true x133 with hb137 | hb137
        · replace H := iteT hb137 H
          refine HT_true (congrArg Value.bool hb137) ?_
          refine HT_region ?_
          refine HL_cons rfl ?_
          refine o_move ?_
          try dsimp only [putL, setL, evL, getL]
          replace H := headE H
          obtain ⟨x138, hx138, H⟩ := H
          refine HL_cons rfl ?_
          refine o_cutA (xs := x66) (kl := .i64) (kh := .i64) (L := 1) (H := (x66.length : Int)) rfl rfl rfl Try.underlying24 tI3 (hH.rd 1 rfl).1 hx138 ?_
          have D138 := @Der.cut _ _ OI 3 A66 c66 _ _ _ _ hx138
          try dsimp only [putL, setL, evL, getL]
          refine HL_cons rfl ?_
          refine o_assign ?_
          try dsimp only [putL, setL, evL, getL]
          refine HL_nil ?_
          exact hK119 _ _ ⟨x138, (cutA A66 c66 (Int.toNat 1) (Kd.sz KI)), c66 - Int.toNat 1, H, rfl, (hH.cut 1 rfl rfl hx138).sel [1, 0, 2, 3, 4, 5] (by decide)⟩
        · replace H := iteF hb137 H
          refine HT_false (congrArg Value.bool hb137) ?_
          refine HT_skip ?_
          exact hK119 _ _ ⟨x66, A66, c66, H, rfl, hH.sel [1, 0, 2, 3, 4, 5] (by decide)⟩
    · rintro l' s139 ⟨x129, A129, c129, H, hl, hH⟩
      generalize getL l' 33 = j33, getL l' 34 = j34, getL l' 35 = j35, getL l' 36 = j36, getL l' 37 = j37, getL l' 38 = j38, getL l' 39 = j39, getL l' 40 = j40, getL l' 41 = j41 at hl
      subst hl
      replace H := hG119 _ H
      try dsimp only at H
      refine HT_seq_k ?_
      intro K140 hK140
      refine HT_region ?_
      refine HL_cons rfl ?_
      refine o_loads' [.int .i64 u6.1, .slice A7 u6.2.1.length c7, .slice A8 u6.2.2.1.length c8, .int .i64 u6.2.2.2.1] rfl Try.underlying37 rfl tI37 rfl (hH.partv 5 rfl (0) [.int .i64 u6.1, .slice A7 u6.2.1.length c7, .slice A8 u6.2.2.1.length c8, .int .i64 u6.2.2.2.1] rfl) ?_
      try dsimp only [putL, setL, evL, getL]
      refine HL_cons rfl ?_
      refine o_move ?_
      try dsimp only [putL, setL, evL, getL]
      refine HL_cons rfl ?_
      refine o_move ?_
      try dsimp only [putL, setL, evL, getL]
      refine HL_cons rfl ?_
      refine o_stvH (vs := [.int .i64 u6.1, .slice A7 u6.2.1.length c7, .slice A8 u6.2.2.1.length c8, .int .i64 u6.2.2.2.1]) (us' := [.int .i64 u6.1, .slice A7 u6.2.1.length c7, .slice A8 u6.2.2.1.length c8, .int .i64 u6.2.2.2.1]) hH 4 rfl rfl rfl rfl rfl tI37 rfl (List.cons_ne_nil _ _) rfl rfl rfl ?_
      intro s141 hH'
      replace hH : Hp sb s F0 s141 [Ck.ol OI 3 A129 c129 x129, Ck.ol OI 3 A65 c65 x65, Ck.ol OI 3 A7 c7 u6.2.1, Ck.ol OI 3 A8 c8 u6.2.2.1, Ck.ov b2 [.int .i64 u6.1, .slice A7 u6.2.1.length c7, .slice A8 u6.2.2.1.length c8, .int .i64 u6.2.2.2.1] 37, Ck.ov b9 [.int .i64 u6.1, .slice A7 u6.2.1.length c7, .slice A8 u6.2.2.1.length c8, .int .i64 u6.2.2.2.1] 37] := hH'
      clear hH'
      try dsimp only [putL, setL, evL, getL]
      refine HL_cons rfl ?_
      refine o_assign ?_
      try dsimp only [putL, setL, evL, getL]
      refine HL_cons rfl ?_
      refine o_assign ?_
      try dsimp only [putL, setL, evL, getL]
      refine HL_nil ?_
      refine hK140 _ _ ?_
      refine HT_ret ?_
      exact hQr _ _ [.agg #[.int .i64 u6.1, .slice A7 u6.2.1.length c7, .slice A8 u6.2.2.1.length c8, .int .i64 u6.2.2.2.1], .slice A65 x65.length c65, .slice A129 x129.length c129] ⟨ResV.cells rfl Try.underlying37 rfl tI37 (hH.var 4 rfl) rfl, rfl, rfl, trivial⟩ (retH (fun r => spec_DrawPutBuf.post sb s F0 r _ _) (show some _ = some r from H) ⟨A7, c7, A8, c8, A65, c65, A129, c129, rfl, hH.sel [2, 3, 1, 0] (by decide)⟩)
def impl_inRange.f (p0 : Int) (p1 : Int) (p2 : Int) : Option Bool := if (decide (p1 ≤ p0)) = true then (some (decide (p0 ≤ p2))) else (some false)
def impl_inRange.post (sb s : St) (F0 : Fp) (r : Bool) : Value → St → Prop := fun v s' => v = .bool r ∧ Hp sb s F0 s' []
set_option maxRecDepth 100000 in
set_option maxHeartbeats 4000000 in
theorem impl_inRange.ok (sb s : St) (F0 : Fp) (p0 : Int) (p1 : Int) (p2 : Int) (hH : Hp sb s F0 s []) (r : Bool) (H : impl_inRange.f p0 p1 p2 = some r) : GCall Try.prog 105 #[.int .i64 p0, .int .i64 p1, .int .i64 p2] s (impl_inRange.post sb s F0 r) := by
  refine GCall_ofk [.tmp 6] [.int .i64 p0, .int .i64 p1, .int .i64 p2, undef, undef, undef, undef, undef, undef, undef, undef, undef, undef, undef, undef] Try.func105 rfl rfl rfl ?_
  intro w Q hQr hQn hQp
  replace H := topE H
  unfold impl_inRange.f at H
  refine HT_seq_k ?_
  intro K1 hK1
  refine HT_region ?_
  refine HL_cons rfl ?_
  refine o_assign ?_
  try dsimp only [putL, setL, evL, getL]
  refine HL_nil ?_
  refine hK1 _ _ ?_
  refine HT_seq_k ?_
  intro K2 hK2
  refine HT_region ?_
  refine HL_cons rfl ?_
  refine o_move ?_
  try dsimp only [putL, setL, evL, getL]
  refine HL_cons rfl ?_
  refine o_move ?_
  try dsimp only [putL, setL, evL, getL]
  refine HL_cons rfl ?_
  refine o_bin rfl rfl rfl ?_
  try dsimp only [putL, setL, evL, getL]
  refine HL_cons rfl ?_
  refine o_move ?_
  try dsimp only [putL, setL, evL, getL]
  rcases Bool.eq_false_or_eq_true (decide (p1 ≤ p0)) with hb3 | hb3
  · replace H := iteT hb3 H
    refine HL_want ?_ ?_
    · exact wantT (j := 3) (b := true) (t := 10) (c := decide (p1 ≤ p0)) rfl rfl rfl rfl hb3
    refine o_move ?_
    try dsimp only [putL, setL, evL, getL]
    refine HL_want ?_ ?_
    · exact wantT (j := 3) (b := true) (t := 10) (c := decide (p1 ≤ p0)) rfl rfl rfl rfl hb3
    refine o_move ?_
    try dsimp only [putL, setL, evL, getL]
    refine HL_want ?_ ?_
    · exact wantT (j := 3) (b := true) (t := 10) (c := decide (p1 ≤ p0)) rfl rfl rfl rfl hb3
    refine o_bin rfl rfl rfl ?_
    try dsimp only [putL, setL, evL, getL]
    refine HL_cons rfl ?_
    refine o_pickT rfl hb3 ?_
    try dsimp only [putL, setL, evL, getL]
    refine HL_cons rfl ?_
    refine o_assign ?_
    try dsimp only [putL, setL, evL, getL]
    refine HL_nil ?_
    refine hK2 _ _ ?_
    refine HT_ret ?_
    exact hQr _ _ [.bool (decide (p0 ≤ p2))] ⟨rfl, trivial⟩ (retH (fun r => impl_inRange.post sb s F0 r _ _) (show some _ = some r from H) ⟨rfl, hH⟩)
  · replace H := iteF hb3 H
    refine HL_skip ?_ ?_
    · exact wantF (j := 3) (b := true) (t := 10) (c := decide (p1 ≤ p0)) rfl rfl rfl rfl hb3
    try dsimp only [putL, setL, evL, getL]
    refine HL_skip ?_ ?_
    · exact wantF (j := 3) (b := true) (t := 10) (c := decide (p1 ≤ p0)) rfl rfl rfl rfl hb3
    try dsimp only [putL, setL, evL, getL]
    refine HL_skip ?_ ?_
    · exact wantF (j := 3) (b := true) (t := 10) (c := decide (p1 ≤ p0)) rfl rfl rfl rfl hb3
    try dsimp only [putL, setL, evL, getL]
    refine HL_cons rfl ?_
    refine o_pickF rfl hb3 ?_
    try dsimp only [putL, setL, evL, getL]
    refine HL_cons rfl ?_
    refine o_assign ?_
    try dsimp only [putL, setL, evL, getL]
    refine HL_nil ?_
    refine hK2 _ _ ?_
    refine HT_ret ?_
    exact hQr _ _ [.bool false] ⟨rfl, trivial⟩ (retH (fun r => impl_inRange.post sb s F0 r _ _) (show some _ = some r from H) ⟨rfl, hH⟩)
def impl_GoodRune.f (p0 : Int) : Option Bool := (impl_inRange.f p0 0 1114111).bind fun u3 => if u3 = true then ((impl_inRange.f p0 55296 57343).bind fun u5 => some (!u5)) else (some false)
def impl_GoodRune.post (sb s : St) (F0 : Fp) (r : Bool) : Value → St → Prop := fun v s' => v = .bool r ∧ Hp sb s F0 s' []
set_option maxRecDepth 100000 in
set_option maxHeartbeats 4000000 in
theorem impl_GoodRune.ok (sb s : St) (F0 : Fp) (p0 : Int) (hH : Hp sb s F0 s []) (r : Bool) (H : impl_GoodRune.f p0 = some r) : GCall Try.prog 146 #[.int .i64 p0] s (impl_GoodRune.post sb s F0 r) := by
  refine GCall_ofk [.tmp 2] [.int .i64 p0, undef, undef, undef, undef, undef, undef, undef, undef, undef] Try.func146 rfl rfl rfl ?_
  intro w Q hQr hQn hQp
  replace H := topE H
  unfold impl_GoodRune.f at H
  refine HT_seq_k ?_
  intro K1 hK1
  refine HT_region ?_
  refine HL_cons rfl ?_
  refine o_assign ?_
  try dsimp only [putL, setL, evL, getL]
  refine HL_nil ?_
  refine hK1 _ _ ?_
  refine HT_seq_k ?_
  intro K2 hK2
  refine HT_region ?_
  refine HL_cons rfl ?_
  refine o_move ?_
  try dsimp only [putL, setL, evL, getL]
  replace H := headE H
  obtain ⟨u3, hu3, H⟩ := H
  refine HL_cons rfl ?_
  refine o_call (args := #[.int .i64 p0, .int .i64 0, .int .i64 1114111]) Try.func105 rfl rfl rfl (impl_inRange.ok sb s no p0 0 1114111 (Hp.own hH.bs) _ hu3) ?_
  rintro _ s3 ⟨rfl, hD⟩
  replace hH := hH.back0 hD (Up.refl _ _ _)
  clear hD
  dsimp only [addC, setC, rmC, selC, getC] at hH
  try dsimp only [putL, setL, evL, getL]
  refine HL_cons rfl ?_
  refine o_move ?_
  try dsimp only [putL, setL, evL, getL]
  rcases Bool.eq_false_or_eq_true u3 with hb4 | hb4
  · replace H := iteT hb4 H
    refine HL_want ?_ ?_
    · exact wantT (j := 2) (b := true) (t := 5) (c := u3) rfl rfl rfl rfl hb4
    refine o_move ?_
    try dsimp only [putL, setL, evL, getL]
    replace H := headE H
    obtain ⟨u5, hu5, H⟩ := H
    refine HL_want ?_ ?_
    · exact wantT (j := 2) (b := true) (t := 5) (c := u3) rfl rfl rfl rfl hb4
    refine o_call (args := #[.int .i64 p0, .int .i64 55296, .int .i64 57343]) Try.func105 rfl rfl rfl (impl_inRange.ok sb s3 no p0 55296 57343 (Hp.own hH.bs) _ hu5) ?_
    rintro _ s5 ⟨rfl, hD⟩
    replace hH := hH.back0 hD (Up.refl _ _ _)
    clear hD
    dsimp only [addC, setC, rmC, selC, getC] at hH
    try dsimp only [putL, setL, evL, getL]
    refine HL_want ?_ ?_
    · exact wantT (j := 2) (b := true) (t := 5) (c := u3) rfl rfl rfl rfl hb4
    refine o_not rfl ?_
    try dsimp only [putL, setL, evL, getL]
    refine HL_cons rfl ?_
    refine o_pickT rfl hb4 ?_
    try dsimp only [putL, setL, evL, getL]
    refine HL_cons rfl ?_
    refine o_assign ?_
    try dsimp only [putL, setL, evL, getL]
    refine HL_nil ?_
    refine hK2 _ _ ?_
    refine HT_ret ?_
    exact hQr _ _ [.bool (!u5)] ⟨rfl, trivial⟩ (retH (fun r => impl_GoodRune.post sb s F0 r _ _) (show some _ = some r from H) ⟨rfl, hH⟩)
  · replace H := iteF hb4 H
    refine HL_skip ?_ ?_
    · exact wantF (j := 2) (b := true) (t := 5) (c := u3) rfl rfl rfl rfl hb4
    try dsimp only [putL, setL, evL, getL]
    refine HL_skip ?_ ?_
    · exact wantF (j := 2) (b := true) (t := 5) (c := u3) rfl rfl rfl rfl hb4
    try dsimp only [putL, setL, evL, getL]
    refine HL_skip ?_ ?_
    · exact wantF (j := 2) (b := true) (t := 5) (c := u3) rfl rfl rfl rfl hb4
    try dsimp only [putL, setL, evL, getL]
    refine HL_cons rfl ?_
    refine o_pickF rfl hb4 ?_
    try dsimp only [putL, setL, evL, getL]
    refine HL_cons rfl ?_
    refine o_assign ?_
    try dsimp only [putL, setL, evL, getL]
    refine HL_nil ?_
    refine hK2 _ _ ?_
    refine HT_ret ?_
    exact hQr _ _ [.bool false] ⟨rfl, trivial⟩ (retH (fun r => impl_GoodRune.post sb s F0 r _ _) (show some _ = some r from H) ⟨rfl, hH⟩)
def impl_areRunes_1.f (p0 : Int) : Option Bool := (impl_GoodRune.f p0).bind fun u3 => some (!u3)
def impl_areRunes_1.post (sb s : St) (F0 : Fp) (r : Bool) : Value → St → Prop := fun v s' => v = .bool r ∧ Hp sb s F0 s' []
set_option maxRecDepth 100000 in
set_option maxHeartbeats 4000000 in
theorem impl_areRunes_1.ok (sb s : St) (F0 : Fp) (p0 : Int) (hH : Hp sb s F0 s []) (r : Bool) (H : impl_areRunes_1.f p0 = some r) : GCall Try.prog 186 #[.int .i64 p0] s (impl_areRunes_1.post sb s F0 r) := by
  refine GCall_ofk [.tmp 2] [.int .i64 p0, undef, undef, undef, undef, undef] Try.func186 rfl rfl rfl ?_
  intro w Q hQr hQn hQp
  replace H := topE H
  unfold impl_areRunes_1.f at H
  refine HT_seq_k ?_
  intro K1 hK1
  refine HT_region ?_
  refine HL_cons rfl ?_
  refine o_assign ?_
  try dsimp only [putL, setL, evL, getL]
  refine HL_nil ?_
  refine hK1 _ _ ?_
  refine HT_seq_k ?_
  intro K2 hK2
  refine HT_region ?_
  refine HL_cons rfl ?_
  refine o_move ?_
  try dsimp only [putL, setL, evL, getL]
  replace H := headE H
  obtain ⟨u3, hu3, H⟩ := H
  refine HL_cons rfl ?_
  refine o_call (args := #[.int .i64 p0]) Try.func146 rfl rfl rfl (impl_GoodRune.ok sb s no p0 (Hp.own hH.bs) _ hu3) ?_
  rintro _ s3 ⟨rfl, hD⟩
  replace hH := hH.back0 hD (Up.refl _ _ _)
  clear hD
  dsimp only [addC, setC, rmC, selC, getC] at hH
  try dsimp only [putL, setL, evL, getL]
  refine HL_cons rfl ?_
  refine o_not rfl ?_
  try dsimp only [putL, setL, evL, getL]
  refine HL_cons rfl ?_
  refine o_assign ?_
  try dsimp only [putL, setL, evL, getL]
  refine HL_nil ?_
  refine hK2 _ _ ?_
  refine HT_ret ?_
  exact hQr _ _ [.bool (!u3)] ⟨rfl, trivial⟩ (retH (fun r => impl_areRunes_1.post sb s F0 r _ _) (show some _ = some r from H) ⟨rfl, hH⟩)
def slices_IndexFunc_int_int_impl_areRunes_1.l1 (p0 : List (Int)) : Nat → Int → Option (Lo Unit Int)
  | 0, _ => none
  | kf + 1, x48 => if (decide (x48 < (p0.length : Int))) = true then ((rd? p0 x48).bind fun u67 => (impl_areRunes_1.f u67).bind fun u68 => if u68 = true then ((some x48).bind fun z => some (Lo.ret z)) else (slices_IndexFunc_int_int_impl_areRunes_1.l1 p0 kf (IntKind.i64.wrap (x48 + 1)))) else (some (Lo.go ()))
def slices_IndexFunc_int_int_impl_areRunes_1.f (p0 : List (Int)) : Option Int := (slices_IndexFunc_int_int_impl_areRunes_1.l1 p0 ((((p0.length : Int)) - (0)).toNat + 2) 0).bind fun (o : Lo Unit Int) => match o with | .go () => (some (-1)) | .ret z => some z
def slices_IndexFunc_int_int_impl_areRunes_1.post (sb s : St) (F0 : Fp) (r : Int) : Value → St → Prop := fun v s' => v = .int .i64 r ∧ Hp sb s F0 s' []
set_option maxRecDepth 100000 in
set_option maxHeartbeats 4000000 in
theorem slices_IndexFunc_int_int_impl_areRunes_1.ok (sb s : St) (F0 : Fp) (A0p : Option Addr) (c0p : Nat) (p0 : List (Int)) (HRp0 : Rd KI sb A0p c0p p0) (hH : Hp sb s F0 s []) (r : Int) (H : slices_IndexFunc_int_int_impl_areRunes_1.f p0 = some r) : GCall Try.prog 184 #[.slice A0p p0.length c0p, .func (.func 186) #[] #[]] s (slices_IndexFunc_int_int_impl_areRunes_1.post sb s F0 r) := by
  refine GCall_ofk [.tmp 4] [.slice A0p p0.length c0p, .func (.func 186) #[] #[], undef, undef, undef, undef, undef, undef, undef, undef, undef, undef, undef, undef, undef, undef, undef, undef, undef] Try.func184 rfl rfl rfl ?_
  intro w Q hQr hQn hQp
  replace H := topE H
  unfold slices_IndexFunc_int_int_impl_areRunes_1.f at H
  refine HT_seq_k ?_
  intro K1 hK1
  refine HT_region ?_
  refine HL_cons rfl ?_
  refine o_assign ?_
  try dsimp only [putL, setL, evL, getL]
  refine HL_nil ?_
  refine hK1 _ _ ?_
  refine HT_seq_k ?_
  intro K2 hK2
  refine HT_seq_k ?_
  intro K3 hK3
  refine HT_region ?_
  refine HL_cons rfl ?_
  refine o_move ?_
  try dsimp only [putL, setL, evL, getL]
  refine HL_cons rfl ?_
  refine o_len rfl Try.underlying24 ?_
  try dsimp only [putL, setL, evL, getL]
  refine HL_cons rfl ?_
  refine o_move ?_
  try dsimp only [putL, setL, evL, getL]
  refine HL_nil ?_
  refine hK3 _ _ ?_
  refine joinH H fun G4 hG4 H => ?_
  refine HT_toK (fun l' s' => G4 (.go ()) = some r ∧ l' = [.slice A0p p0.length c0p, .func (.func 186) #[] #[], undef, undef, getL l' 4, getL l' 5, .slice A0p p0.length c0p, .int .i64 (p0.length : Int), getL l' 8, getL l' 9, getL l' 10, getL l' 11, getL l' 12, getL l' 13, getL l' 14, getL l' 15, getL l' 16, getL l' 17, getL l' 18] ∧ Hp sb s F0 s' []) ?_ ?_
  · intro K4 hK4
    refine HT_block ?_
    refine HT_loopK (fun kf l' s' => ∃ (x48 : Int), (slices_IndexFunc_int_int_impl_areRunes_1.l1 p0 kf x48).bind G4 = some r ∧ l' = [.slice A0p p0.length c0p, .func (.func 186) #[] #[], undef, undef, getL l' 4, getL l' 5, .slice A0p p0.length c0p, .int .i64 (p0.length : Int), .int .i64 x48, getL l' 9, getL l' 10, getL l' 11, getL l' 12, getL l' 13, getL l' 14, getL l' 15, getL l' 16, getL l' 17, getL l' 18] ∧ Hp sb s F0 s' []) ((((p0.length : Int)) - (0)).toNat + 2) ⟨0, H, rfl, hH⟩ ?_
    rintro kf l' s60 ⟨x48, H, hl, hH⟩ K60 hK60
    generalize getL l' 4 = j4, getL l' 5 = j5, getL l' 9 = j9, getL l' 10 = j10, getL l' 11 = j11, getL l' 12 = j12, getL l' 13 = j13, getL l' 14 = j14, getL l' 15 = j15, getL l' 16 = j16, getL l' 17 = j17, getL l' 18 = j18 at hl
    subst hl
    cases kf with
    | zero => simp [slices_IndexFunc_int_int_impl_areRunes_1.l1] at H
    | succ kf =>
      rw [slices_IndexFunc_int_int_impl_areRunes_1.l1] at H
      refine HT_seq_k ?_
      intro K61 hK61
      refine HT_region ?_
      refine HL_cons rfl ?_
      refine o_bin rfl rfl rfl ?_
      try dsimp only [putL, setL, evL, getL]
      refine HL_nil ?_
      refine hK61 _ _ ?_
      refine HT_seq_k ?_
      intro K62 hK62
      rcases Bool.eq_false_or_eq_true (decide (x48 < (p0.length : Int))) with hb63 | hb63
      · replace H := iteT hb63 H
        refine HT_true (congrArg Value.bool hb63) ?_
        refine HT_skip ?_
        refine hK62 _ _ ?_
        refine HT_seq_k ?_
        intro K64 hK64
        refine HT_block ?_
        refine HT_seq_k ?_
        intro K65 hK65
        refine HT_region ?_
        refine HL_cons rfl ?_
        refine o_move ?_
        try dsimp only [putL, setL, evL, getL]
        refine HL_cons rfl ?_
        refine o_assign ?_
        try dsimp only [putL, setL, evL, getL]
        refine HL_nil ?_
        refine hK65 _ _ ?_
        refine HT_seq_k ?_
        intro K66 hK66
        refine HT_region ?_
        refine HL_cons rfl ?_
        refine o_move ?_
        try dsimp only [putL, setL, evL, getL]
        refine HL_cons rfl ?_
        refine o_move ?_
        try dsimp only [putL, setL, evL, getL]
        refine HL_cons rfl ?_
        refine o_move ?_
        try dsimp only [putL, setL, evL, getL]
        replace H := headE H
        obtain ⟨u67, hu67, H⟩ := H
        obtain ⟨b67, o67, cs67, hr67, hh67, hel67⟩ := Rd.elb HRp0 hu67
        obtain rfl := hr67
        refine HL_cons rfl ?_
        refine hel67 s60 rfl rfl Try.underlying24 tI3 ?_
        try dsimp only [putL, setL, evL, getL]
        refine HL_cons rfl ?_
        refine o_load' rfl Try.underlying3 rfl ((hh67 hH.bs.mono) 0 _ rfl) ?_
        try dsimp only [putL, setL, evL, getL]
        replace H := headE H
        obtain ⟨u68, hu68, H⟩ := H
        refine HL_cons rfl ?_
        refine o_callv (first := #[]) (cap := #[]) (args := #[.int .i64 u67]) rfl Try.func186 rfl rfl [.int .i64 u67] rfl (by simp) (impl_areRunes_1.ok sb s60 no u67 (Hp.own hH.bs) _ hu68) ?_
        rintro _ s68 ⟨rfl, hD⟩
        replace hH := hH.back0 hD (Up.refl _ _ _)
        clear hD
        dsimp only [addC, setC, rmC, selC, getC] at hH
        try dsimp only [putL, setL, evL, getL]
        refine HL_nil ?_
        refine hK66 _ _ ?_
        rcases Bool.eq_false_or_eq_true u68 with hb69 | hb69
        · replace H := iteT hb69 H
          refine HT_true (congrArg Value.bool hb69) ?_
          refine HT_seq_k ?_
          intro K70 hK70
          refine HT_region ?_
          refine HL_cons rfl ?_
          refine o_move ?_
          try dsimp only [putL, setL, evL, getL]
          refine HL_cons rfl ?_
          refine o_assign ?_
          try dsimp only [putL, setL, evL, getL]
          refine HL_nil ?_
          refine hK70 _ _ ?_
          refine HT_ret ?_
          replace H := escH (fun z hz => hG4 _ hz) H
          exact hQr _ _ [.int .i64 x48] ⟨rfl, trivial⟩ (retH (fun r => slices_IndexFunc_int_int_impl_areRunes_1.post sb s F0 r _ _) (show some _ = some r from H) ⟨rfl, hH⟩)
        · replace H := iteF hb69 H
          refine HT_false (congrArg Value.bool hb69) ?_
          refine HT_skip ?_
          refine hK64 _ _ ?_
          refine HT_region ?_
          refine HL_cons rfl ?_
          refine o_bin rfl rfl rfl ?_
          try dsimp only [putL, setL, evL, getL]
          refine HL_cons rfl ?_
          refine o_move ?_
          try dsimp only [putL, setL, evL, getL]
          refine HL_nil ?_
          exact hK60 _ _ ⟨kf, Nat.lt_succ_self kf, IntKind.i64.wrap (x48 + 1), H, rfl, hH⟩
      · replace H := iteF hb63 H
        refine HT_false (congrArg Value.bool hb63) ?_
        refine HT_exit ?_
        exact hK4 _ _ ⟨H, rfl, hH⟩
  · rintro l' s71 ⟨H, hl, hH⟩
    generalize getL l' 4 = j4, getL l' 5 = j5, getL l' 8 = j8, getL l' 9 = j9, getL l' 10 = j10, getL l' 11 = j11, getL l' 12 = j12, getL l' 13 = j13, getL l' 14 = j14, getL l' 15 = j15, getL l' 16 = j16, getL l' 17 = j17, getL l' 18 = j18 at hl
    subst hl
    replace H := hG4 _ H
    try dsimp only at H
    refine hK2 _ _ ?_
    refine HT_seq_k ?_
    intro K72 hK72
    refine HT_region ?_
    refine HL_cons rfl ?_
    refine o_assign ?_
    try dsimp only [putL, setL, evL, getL]
    refine HL_nil ?_
    refine hK72 _ _ ?_
    refine HT_ret ?_
    exact hQr _ _ [.int .i64 (-1)] ⟨rfl, trivial⟩ (retH (fun r => slices_IndexFunc_int_int_impl_areRunes_1.post sb s F0 r _ _) (show some _ = some r from H) ⟨rfl, hH⟩)
def slices_ContainsFunc_int_int_impl_areRunes_1.f (p0 : List (Int)) : Option Bool := (slices_IndexFunc_int_int_impl_areRunes_1.f p0).bind fun u3 => some (decide (u3 ≥ 0))
def slices_ContainsFunc_int_int_impl_areRunes_1.post (sb s : St) (F0 : Fp) (r : Bool) : Value → St → Prop := fun v s' => v = .bool r ∧ Hp sb s F0 s' []
set_option maxRecDepth 100000 in
set_option maxHeartbeats 4000000 in
theorem slices_ContainsFunc_int_int_impl_areRunes_1.ok (sb s : St) (F0 : Fp) (A0p : Option Addr) (c0p : Nat) (p0 : List (Int)) (HRp0 : Rd KI sb A0p c0p p0) (hH : Hp sb s F0 s []) (r : Bool) (H : slices_ContainsFunc_int_int_impl_areRunes_1.f p0 = some r) : GCall Try.prog 114 #[.slice A0p p0.length c0p, .func (.func 186) #[] #[]] s (slices_ContainsFunc_int_int_impl_areRunes_1.post sb s F0 r) := by
  refine GCall_ofk [.tmp 4] [.slice A0p p0.length c0p, .func (.func 186) #[] #[], undef, undef, undef, undef, undef, undef, undef] Try.func114 rfl rfl rfl ?_
  intro w Q hQr hQn hQp
  replace H := topE H
  unfold slices_ContainsFunc_int_int_impl_areRunes_1.f at H
  refine HT_seq_k ?_
  intro K1 hK1
  refine HT_region ?_
  refine HL_cons rfl ?_
  refine o_assign ?_
  try dsimp only [putL, setL, evL, getL]
  refine HL_nil ?_
  refine hK1 _ _ ?_
  refine HT_seq_k ?_
  intro K2 hK2
  refine HT_region ?_
  refine HL_cons rfl ?_
  refine o_move ?_
  try dsimp only [putL, setL, evL, getL]
  refine HL_cons rfl ?_
  refine o_move ?_
  try dsimp only [putL, setL, evL, getL]
  replace H := headE H
  obtain ⟨u3, hu3, H⟩ := H
  refine HL_cons rfl ?_
  refine o_call (args := #[.slice A0p p0.length c0p, .func (.func 186) #[] #[]]) Try.func184 rfl rfl rfl (slices_IndexFunc_int_int_impl_areRunes_1.ok sb s no A0p c0p p0 HRp0 (Hp.own hH.bs) _ hu3) ?_
  rintro _ s3 ⟨rfl, hD⟩
  replace hH := hH.back0 hD (Up.refl _ _ _)
  clear hD
  dsimp only [addC, setC, rmC, selC, getC] at hH
  try dsimp only [putL, setL, evL, getL]
  refine HL_cons rfl ?_
  refine o_bin rfl rfl rfl ?_
  try dsimp only [putL, setL, evL, getL]
  refine HL_cons rfl ?_
  refine o_assign ?_
  try dsimp only [putL, setL, evL, getL]
  refine HL_nil ?_
  refine hK2 _ _ ?_
  refine HT_ret ?_
  exact hQr _ _ [.bool (decide (u3 ≥ 0))] ⟨rfl, trivial⟩ (retH (fun r => slices_ContainsFunc_int_int_impl_areRunes_1.post sb s F0 r _ _) (show some _ = some r from H) ⟨rfl, hH⟩)
def impl_areRunes.f (p0 : List (Int)) (p1 : Int) : Option Bool := if (decide ((p0.length : Int) ≤ p1)) = true then ((slices_ContainsFunc_int_int_impl_areRunes_1.f p0).bind fun u4 => some (!u4)) else (some false)
def impl_areRunes.post (sb s : St) (F0 : Fp) (r : Bool) : Value → St → Prop := fun v s' => v = .bool r ∧ Hp sb s F0 s' []
set_option maxRecDepth 100000 in
set_option maxHeartbeats 4000000 in
theorem impl_areRunes.ok (sb s : St) (F0 : Fp) (A0p : Option Addr) (c0p : Nat) (p0 : List (Int)) (p1 : Int) (HRp0 : Rd KI sb A0p c0p p0) (hH : Hp sb s F0 s []) (r : Bool) (H : impl_areRunes.f p0 p1 = some r) : GCall Try.prog 118 #[.slice A0p p0.length c0p, .int .i64 p1] s (impl_areRunes.post sb s F0 r) := by
  refine GCall_ofk [.tmp 4] [.slice A0p p0.length c0p, .int .i64 p1, undef, undef, undef, undef, undef, undef, undef, undef, undef, undef, undef, undef] Try.func118 rfl rfl rfl ?_
  intro w Q hQr hQn hQp
  replace H := topE H
  unfold impl_areRunes.f at H
  refine HT_seq_k ?_
  intro K1 hK1
  refine HT_region ?_
  refine HL_cons rfl ?_
  refine o_assign ?_
  try dsimp only [putL, setL, evL, getL]
  refine HL_nil ?_
  refine hK1 _ _ ?_
  refine HT_seq_k ?_
  intro K2 hK2
  refine HT_region ?_
  refine HL_cons rfl ?_
  refine o_move ?_
  try dsimp only [putL, setL, evL, getL]
  refine HL_cons rfl ?_
  refine o_len rfl Try.underlying24 ?_
  try dsimp only [putL, setL, evL, getL]
  refine HL_cons rfl ?_
  refine o_move ?_
  try dsimp only [putL, setL, evL, getL]
  refine HL_cons rfl ?_
  refine o_bin rfl rfl rfl ?_
  try dsimp only [putL, setL, evL, getL]
  refine HL_cons rfl ?_
  refine o_move ?_
  try dsimp only [putL, setL, evL, getL]
  rcases Bool.eq_false_or_eq_true (decide ((p0.length : Int) ≤ p1)) with hb3 | hb3
  · replace H := iteT hb3 H
    refine HL_want ?_ ?_
    · exact wantT (j := 4) (b := true) (t := 9) (c := decide ((p0.length : Int) ≤ p1)) rfl rfl rfl rfl hb3
    refine o_move ?_
    try dsimp only [putL, setL, evL, getL]
    replace H := headE H
    obtain ⟨u4, hu4, H⟩ := H
    refine HL_want ?_ ?_
    · exact wantT (j := 4) (b := true) (t := 9) (c := decide ((p0.length : Int) ≤ p1)) rfl rfl rfl rfl hb3
    refine o_call (args := #[.slice A0p p0.length c0p, .func (.func 186) #[] #[]]) Try.func114 rfl rfl rfl (slices_ContainsFunc_int_int_impl_areRunes_1.ok sb s no A0p c0p p0 HRp0 (Hp.own hH.bs) _ hu4) ?_
    rintro _ s4 ⟨rfl, hD⟩
    replace hH := hH.back0 hD (Up.refl _ _ _)
    clear hD
    dsimp only [addC, setC, rmC, selC, getC] at hH
    try dsimp only [putL, setL, evL, getL]
    refine HL_want ?_ ?_
    · exact wantT (j := 4) (b := true) (t := 9) (c := decide ((p0.length : Int) ≤ p1)) rfl rfl rfl rfl hb3
    refine o_not rfl ?_
    try dsimp only [putL, setL, evL, getL]
    refine HL_cons rfl ?_
    refine o_pickT rfl hb3 ?_
    try dsimp only [putL, setL, evL, getL]
    refine HL_cons rfl ?_
    refine o_assign ?_
    try dsimp only [putL, setL, evL, getL]
    refine HL_nil ?_
    refine hK2 _ _ ?_
    refine HT_ret ?_
    exact hQr _ _ [.bool (!u4)] ⟨rfl, trivial⟩ (retH (fun r => impl_areRunes.post sb s F0 r _ _) (show some _ = some r from H) ⟨rfl, hH⟩)
  · replace H := iteF hb3 H
    refine HL_skip ?_ ?_
    · exact wantF (j := 4) (b := true) (t := 9) (c := decide ((p0.length : Int) ≤ p1)) rfl rfl rfl rfl hb3
    try dsimp only [putL, setL, evL, getL]
    refine HL_skip ?_ ?_
    · exact wantF (j := 4) (b := true) (t := 9) (c := decide ((p0.length : Int) ≤ p1)) rfl rfl rfl rfl hb3
    try dsimp only [putL, setL, evL, getL]
    refine HL_skip ?_ ?_
    · exact wantF (j := 4) (b := true) (t := 9) (c := decide ((p0.length : Int) ≤ p1)) rfl rfl rfl rfl hb3
    try dsimp only [putL, setL, evL, getL]
    refine HL_cons rfl ?_
    refine o_pickF rfl hb3 ?_
    try dsimp only [putL, setL, evL, getL]
    refine HL_cons rfl ?_
    refine o_assign ?_
    try dsimp only [putL, setL, evL, getL]
    refine HL_nil ?_
    refine hK2 _ _ ?_
    refine HT_ret ?_
    exact hQr _ _ [.bool false] ⟨rfl, trivial⟩ (retH (fun r => impl_areRunes.post sb s F0 r _ _) (show some _ = some r from H) ⟨rfl, hH⟩)
def impl_GoodBuf_1.f (p0 : Int) : Option Bool := (impl_inRange.f p0 1 1000).bind fun u3 => some (!u3)
def impl_GoodBuf_1.post (sb s : St) (F0 : Fp) (r : Bool) : Value → St → Prop := fun v s' => v = .bool r ∧ Hp sb s F0 s' []
set_option maxRecDepth 100000 in
set_option maxHeartbeats 4000000 in
theorem impl_GoodBuf_1.ok (sb s : St) (F0 : Fp) (p0 : Int) (hH : Hp sb s F0 s []) (r : Bool) (H : impl_GoodBuf_1.f p0 = some r) : GCall Try.prog 122 #[.int .i64 p0] s (impl_GoodBuf_1.post sb s F0 r) := by
  refine GCall_ofk [.tmp 2] [.int .i64 p0, undef, undef, undef, undef, undef] Try.func122 rfl rfl rfl ?_
  intro w Q hQr hQn hQp
  replace H := topE H
  unfold impl_GoodBuf_1.f at H
  refine HT_seq_k ?_
  intro K1 hK1
  refine HT_region ?_
  refine HL_cons rfl ?_
  refine o_assign ?_
  try dsimp only [putL, setL, evL, getL]
  refine HL_nil ?_
  refine hK1 _ _ ?_
  refine HT_seq_k ?_
  intro K2 hK2
  refine HT_region ?_
  refine HL_cons rfl ?_
  refine o_move ?_
  try dsimp only [putL, setL, evL, getL]
  replace H := headE H
  obtain ⟨u3, hu3, H⟩ := H
  refine HL_cons rfl ?_
  refine o_call (args := #[.int .i64 p0, .int .i64 1, .int .i64 1000]) Try.func105 rfl rfl rfl (impl_inRange.ok sb s no p0 1 1000 (Hp.own hH.bs) _ hu3) ?_
  rintro _ s3 ⟨rfl, hD⟩
  replace hH := hH.back0 hD (Up.refl _ _ _)
  clear hD
  dsimp only [addC, setC, rmC, selC, getC] at hH
  try dsimp only [putL, setL, evL, getL]
  refine HL_cons rfl ?_
  refine o_not rfl ?_
  try dsimp only [putL, setL, evL, getL]
  refine HL_cons rfl ?_
  refine o_assign ?_
  try dsimp only [putL, setL, evL, getL]
  refine HL_nil ?_
  refine hK2 _ _ ?_
  refine HT_ret ?_
  exact hQr _ _ [.bool (!u3)] ⟨rfl, trivial⟩ (retH (fun r => impl_GoodBuf_1.post sb s F0 r _ _) (show some _ = some r from H) ⟨rfl, hH⟩)
def slices_IndexFunc_int_int_impl_GoodBuf_1.l1 (p0 : List (Int)) : Nat → Int → Option (Lo Unit Int)
  | 0, _ => none
  | kf + 1, x48 => if (decide (x48 < (p0.length : Int))) = true then ((rd? p0 x48).bind fun u67 => (impl_GoodBuf_1.f u67).bind fun u68 => if u68 = true then ((some x48).bind fun z => some (Lo.ret z)) else (slices_IndexFunc_int_int_impl_GoodBuf_1.l1 p0 kf (IntKind.i64.wrap (x48 + 1)))) else (some (Lo.go ()))
def slices_IndexFunc_int_int_impl_GoodBuf_1.f (p0 : List (Int)) : Option Int := (slices_IndexFunc_int_int_impl_GoodBuf_1.l1 p0 ((((p0.length : Int)) - (0)).toNat + 2) 0).bind fun (o : Lo Unit Int) => match o with | .go () => (some (-1)) | .ret z => some z
def slices_IndexFunc_int_int_impl_GoodBuf_1.post (sb s : St) (F0 : Fp) (r : Int) : Value → St → Prop := fun v s' => v = .int .i64 r ∧ Hp sb s F0 s' []
set_option maxRecDepth 100000 in
set_option maxHeartbeats 4000000 in
theorem slices_IndexFunc_int_int_impl_GoodBuf_1.ok (sb s : St) (F0 : Fp) (A0p : Option Addr) (c0p : Nat) (p0 : List (Int)) (HRp0 : Rd KI sb A0p c0p p0) (hH : Hp sb s F0 s []) (r : Int) (H : slices_IndexFunc_int_int_impl_GoodBuf_1.f p0 = some r) : GCall Try.prog 184 #[.slice A0p p0.length c0p, .func (.func 122) #[] #[]] s (slices_IndexFunc_int_int_impl_GoodBuf_1.post sb s F0 r) := by
  refine GCall_ofk [.tmp 4] [.slice A0p p0.length c0p, .func (.func 122) #[] #[], undef, undef, undef, undef, undef, undef, undef, undef, undef, undef, undef, undef, undef, undef, undef, undef, undef] Try.func184 rfl rfl rfl ?_
  intro w Q hQr hQn hQp
  replace H := topE H
  unfold slices_IndexFunc_int_int_impl_GoodBuf_1.f at H
  refine HT_seq_k ?_
  intro K1 hK1
  refine HT_region ?_
  refine HL_cons rfl ?_
  refine o_assign ?_
  try dsimp only [putL, setL, evL, getL]
  refine HL_nil ?_
  refine hK1 _ _ ?_
  refine HT_seq_k ?_
  intro K2 hK2
  refine HT_seq_k ?_
  intro K3 hK3
  refine HT_region ?_
  refine HL_cons rfl ?_
  refine o_move ?_
  try dsimp only [putL, setL, evL, getL]
  refine HL_cons rfl ?_
  refine o_len rfl Try.underlying24 ?_
  try dsimp only [putL, setL, evL, getL]
  refine HL_cons rfl ?_
  refine o_move ?_
  try dsimp only [putL, setL, evL, getL]
  refine HL_nil ?_
  refine hK3 _ _ ?_
  refine joinH H fun G4 hG4 H => ?_
  refine HT_toK (fun l' s' => G4 (.go ()) = some r ∧ l' = [.slice A0p p0.length c0p, .func (.func 122) #[] #[], undef, undef, getL l' 4, getL l' 5, .slice A0p p0.length c0p, .int .i64 (p0.length : Int), getL l' 8, getL l' 9, getL l' 10, getL l' 11, getL l' 12, getL l' 13, getL l' 14, getL l' 15, getL l' 16, getL l' 17, getL l' 18] ∧ Hp sb s F0 s' []) ?_ ?_
  · intro K4 hK4
    refine HT_block ?_
    refine HT_loopK (fun kf l' s' => ∃ (x48 : Int), (slices_IndexFunc_int_int_impl_GoodBuf_1.l1 p0 kf x48).bind G4 = some r ∧ l' = [.slice A0p p0.length c0p, .func (.func 122) #[] #[], undef, undef, getL l' 4, getL l' 5, .slice A0p p0.length c0p, .int .i64 (p0.length : Int), .int .i64 x48, getL l' 9, getL l' 10, getL l' 11, getL l' 12, getL l' 13, getL l' 14, getL l' 15, getL l' 16, getL l' 17, getL l' 18] ∧ Hp sb s F0 s' []) ((((p0.length : Int)) - (0)).toNat + 2) ⟨0, H, rfl, hH⟩ ?_
    rintro kf l' s60 ⟨x48, H, hl, hH⟩ K60 hK60
    generalize getL l' 4 = j4, getL l' 5 = j5, getL l' 9 = j9, getL l' 10 = j10, getL l' 11 = j11, getL l' 12 = j12, getL l' 13 = j13, getL l' 14 = j14, getL l' 15 = j15, getL l' 16 = j16, getL l' 17 = j17, getL l' 18 = j18 at hl
    subst hl
    cases kf with
    | zero => simp [slices_IndexFunc_int_int_impl_GoodBuf_1.l1] at H
    | succ kf =>
      rw [slices_IndexFunc_int_int_impl_GoodBuf_1.l1] at H
      refine HT_seq_k ?_
      intro K61 hK61
      refine HT_region ?_
      refine HL_cons rfl ?_
      refine o_bin rfl rfl rfl ?_
      try dsimp only [putL, setL, evL, getL]
      refine HL_nil ?_
      refine hK61 _ _ ?_
      refine HT_seq_k ?_
      intro K62 hK62
      rcases Bool.eq_false_or_eq_true (decide (x48 < (p0.length : Int))) with hb63 | hb63
      · replace H := iteT hb63 H
        refine HT_true (congrArg Value.bool hb63) ?_
        refine HT_skip ?_
        refine hK62 _ _ ?_
        refine HT_seq_k ?_
        intro K64 hK64
        refine HT_block ?_
        refine HT_seq_k ?_
        intro K65 hK65
        refine HT_region ?_
        refine HL_cons rfl ?_
        refine o_move ?_
        try dsimp only [putL, setL, evL, getL]
        refine HL_cons rfl ?_
        refine o_assign ?_
        try dsimp only [putL, setL, evL, getL]
        refine HL_nil ?_
        refine hK65 _ _ ?_
        refine HT_seq_k ?_
        intro K66 hK66
        refine HT_region ?_
        refine HL_cons rfl ?_
        refine o_move ?_
        try dsimp only [putL, setL, evL, getL]
        refine HL_cons rfl ?_
        refine o_move ?_
        try dsimp only [putL, setL, evL, getL]
        refine HL_cons rfl ?_
        refine o_move ?_
        try dsimp only [putL, setL, evL, getL]
        replace H := headE H
        obtain ⟨u67, hu67, H⟩ := H
        obtain ⟨b67, o67, cs67, hr67, hh67, hel67⟩ := Rd.elb HRp0 hu67
        obtain rfl := hr67
        refine HL_cons rfl ?_
        refine hel67 s60 rfl rfl Try.underlying24 tI3 ?_
        try dsimp only [putL, setL, evL, getL]
        refine HL_cons rfl ?_
        refine o_load' rfl Try.underlying3 rfl ((hh67 hH.bs.mono) 0 _ rfl) ?_
        try dsimp only [putL, setL, evL, getL]
        replace H := headE H
        obtain ⟨u68, hu68, H⟩ := H
        refine HL_cons rfl ?_
        refine o_callv (first := #[]) (cap := #[]) (args := #[.int .i64 u67]) rfl Try.func122 rfl rfl [.int .i64 u67] rfl (by simp) (impl_GoodBuf_1.ok sb s60 no u67 (Hp.own hH.bs) _ hu68) ?_
        rintro _ s68 ⟨rfl, hD⟩
        replace hH := hH.back0 hD (Up.refl _ _ _)
        clear hD
        dsimp only [addC, setC, rmC, selC, getC] at hH
        try dsimp only [putL, setL, evL, getL]
        refine HL_nil ?_
        refine hK66 _ _ ?_
        rcases Bool.eq_false_or_eq_true u68 with hb69 | hb69
        · replace H := iteT hb69 H
          refine HT_true (congrArg Value.bool hb69) ?_
          refine HT_seq_k ?_
          intro K70 hK70
          refine HT_region ?_
          refine HL_cons rfl ?_
          refine o_move ?_
          try dsimp only [putL, setL, evL, getL]
          refine HL_cons rfl ?_
          refine o_assign ?_
          try dsimp only [putL, setL, evL, getL]
          refine HL_nil ?_
          refine hK70 _ _ ?_
          refine HT_ret ?_
          replace H := escH (fun z hz => hG4 _ hz) H
          exact hQr _ _ [.int .i64 x48] ⟨rfl, trivial⟩ (retH (fun r => slices_IndexFunc_int_int_impl_GoodBuf_1.post sb s F0 r _ _) (show some _ = some r from H) ⟨rfl, hH⟩)
        · replace H := iteF hb69 H
          refine HT_false (congrArg Value.bool hb69) ?_
          refine HT_skip ?_
          refine hK64 _ _ ?_
          refine HT_region ?_
          refine HL_cons rfl ?_
          refine o_bin rfl rfl rfl ?_
          try dsimp only [putL, setL, evL, getL]
          refine HL_cons rfl ?_
          refine o_move ?_
          try dsimp only [putL, setL, evL, getL]
          refine HL_nil ?_
          exact hK60 _ _ ⟨kf, Nat.lt_succ_self kf, IntKind.i64.wrap (x48 + 1), H, rfl, hH⟩
      · replace H := iteF hb63 H
        refine HT_false (congrArg Value.bool hb63) ?_
        refine HT_exit ?_
        exact hK4 _ _ ⟨H, rfl, hH⟩
  · rintro l' s71 ⟨H, hl, hH⟩
    generalize getL l' 4 = j4, getL l' 5 = j5, getL l' 8 = j8, getL l' 9 = j9, getL l' 10 = j10, getL l' 11 = j11, getL l' 12 = j12, getL l' 13 = j13, getL l' 14 = j14, getL l' 15 = j15, getL l' 16 = j16, getL l' 17 = j17, getL l' 18 = j18 at hl
    subst hl
    replace H := hG4 _ H
    try dsimp only at H
    refine hK2 _ _ ?_
    refine HT_seq_k ?_
    intro K72 hK72
    refine HT_region ?_
    refine HL_cons rfl ?_
    refine o_assign ?_
    try dsimp only [putL, setL, evL, getL]
    refine HL_nil ?_
    refine hK72 _ _ ?_
    refine HT_ret ?_
    exact hQr _ _ [.int .i64 (-1)] ⟨rfl, trivial⟩ (retH (fun r => slices_IndexFunc_int_int_impl_GoodBuf_1.post sb s F0 r _ _) (show some _ = some r from H) ⟨rfl, hH⟩)
def slices_ContainsFunc_int_int_impl_GoodBuf_1.f (p0 : List (Int)) : Option Bool := (slices_IndexFunc_int_int_impl_GoodBuf_1.f p0).bind fun u3 => some (decide (u3 ≥ 0))
def slices_ContainsFunc_int_int_impl_GoodBuf_1.post (sb s : St) (F0 : Fp) (r : Bool) : Value → St → Prop := fun v s' => v = .bool r ∧ Hp sb s F0 s' []
set_option maxRecDepth 100000 in
set_option maxHeartbeats 4000000 in
theorem slices_ContainsFunc_int_int_impl_GoodBuf_1.ok (sb s : St) (F0 : Fp) (A0p : Option Addr) (c0p : Nat) (p0 : List (Int)) (HRp0 : Rd KI sb A0p c0p p0) (hH : Hp sb s F0 s []) (r : Bool) (H : slices_ContainsFunc_int_int_impl_GoodBuf_1.f p0 = some r) : GCall Try.prog 114 #[.slice A0p p0.length c0p, .func (.func 122) #[] #[]] s (slices_ContainsFunc_int_int_impl_GoodBuf_1.post sb s F0 r) := by
  refine GCall_ofk [.tmp 4] [.slice A0p p0.length c0p, .func (.func 122) #[] #[], undef, undef, undef, undef, undef, undef, undef] Try.func114 rfl rfl rfl ?_
  intro w Q hQr hQn hQp
  replace H := topE H
  unfold slices_ContainsFunc_int_int_impl_GoodBuf_1.f at H
  refine HT_seq_k ?_
  intro K1 hK1
  refine HT_region ?_
  refine HL_cons rfl ?_
  refine o_assign ?_
  try dsimp only [putL, setL, evL, getL]
  refine HL_nil ?_
  refine hK1 _ _ ?_
  refine HT_seq_k ?_
  intro K2 hK2
  refine HT_region ?_
  refine HL_cons rfl ?_
  refine o_move ?_
  try dsimp only [putL, setL, evL, getL]
  refine HL_cons rfl ?_
  refine o_move ?_
  try dsimp only [putL, setL, evL, getL]
  replace H := headE H
  obtain ⟨u3, hu3, H⟩ := H
  refine HL_cons rfl ?_
  refine o_call (args := #[.slice A0p p0.length c0p, .func (.func 122) #[] #[]]) Try.func184 rfl rfl rfl (slices_IndexFunc_int_int_impl_GoodBuf_1.ok sb s no A0p c0p p0 HRp0 (Hp.own hH.bs) _ hu3) ?_
  rintro _ s3 ⟨rfl, hD⟩
  replace hH := hH.back0 hD (Up.refl _ _ _)
  clear hD
  dsimp only [addC, setC, rmC, selC, getC] at hH
  try dsimp only [putL, setL, evL, getL]
  refine HL_cons rfl ?_
  refine o_bin rfl rfl rfl ?_
  try dsimp only [putL, setL, evL, getL]
  refine HL_cons rfl ?_
  refine o_assign ?_
  try dsimp only [putL, setL, evL, getL]
  refine HL_nil ?_
  refine hK2 _ _ ?_
  refine HT_ret ?_
  exact hQr _ _ [.bool (decide (u3 ≥ 0))] ⟨rfl, trivial⟩ (retH (fun r => slices_ContainsFunc_int_int_impl_GoodBuf_1.post sb s F0 r _ _) (show some _ = some r from H) ⟨rfl, hH⟩)
def impl_GoodBuf.f (p0_0 : Int) (p0_1 : List (Int)) (p0_2 : List (Int)) (p0_3 : Int) : Option Bool := (impl_inRange.f p0_0 1 60).bind fun u4 => if u4 = true then ((impl_areRunes.f p0_1 p0_0).bind fun u6 => if u6 = true then (if ((p0_2.length : Int) == (p0_1.length : Int)) = true then ((impl_inRange.f p0_3 0 1000000).bind fun u9 => if u9 = true then ((slices_ContainsFunc_int_int_impl_GoodBuf_1.f p0_2).bind fun u11 => some (!u11)) else (some false)) else (some false)) else (some false)) else (some false)
def impl_GoodBuf.post (sb s : St) (F0 : Fp) (r : Bool) : Value → St → Prop := fun v s' => v = .bool r ∧ Hp sb s F0 s' []
set_option maxRecDepth 100000 in
set_option maxHeartbeats 4000000 in
theorem impl_GoodBuf.ok (sb s : St) (F0 : Fp) (p0_0 : Int) (A0_1p : Option Addr) (c0_1p : Nat) (p0_1 : List (Int)) (A0_2p : Option Addr) (c0_2p : Nat) (p0_2 : List (Int)) (p0_3 : Int) (HRp0_1 : Rd KI sb A0_1p c0_1p p0_1) (HRp0_2 : Rd KI sb A0_2p c0_2p p0_2) (hH : Hp sb s F0 s []) (r : Bool) (H : impl_GoodBuf.f p0_0 p0_1 p0_2 p0_3 = some r) : GCall Try.prog 28 #[.agg #[.int .i64 p0_0, .slice A0_1p p0_1.length c0_1p, .slice A0_2p p0_2.length c0_2p, .int .i64 p0_3]] s (impl_GoodBuf.post sb s F0 r) := by
  refine GCall_ofk [.tmp 2] [.agg #[.int .i64 p0_0, .slice A0_1p p0_1.length c0_1p, .slice A0_2p p0_2.length c0_2p, .int .i64 p0_3], undef, undef, undef, undef, undef, undef, undef, undef, undef, undef, undef, undef, undef, undef, undef, undef, undef, undef, undef, undef, undef, undef, undef, undef, undef, undef, undef, undef, undef, undef, undef, undef] Try.func28 rfl rfl rfl ?_
  intro w Q hQr hQn hQp
  replace H := topE H
  unfold impl_GoodBuf.f at H
  refine HT_seq_k ?_
  intro K1 hK1
  refine HT_region ?_
  refine HL_cons rfl ?_
  refine o_boxH hH rfl ?_
  intro b2 s2 hH' hG
  replace hH : Hp sb s F0 s2 [Ck.ov b2 [.int .i64 p0_0, .slice A0_1p p0_1.length c0_1p, .slice A0_2p p0_2.length c0_2p, .int .i64 p0_3] 37] := hH'
  clear hH' hG
  try dsimp only [putL, setL, evL, getL]
  refine HL_cons rfl ?_
  refine o_assign ?_
  try dsimp only [putL, setL, evL, getL]
  refine HL_nil ?_
  refine hK1 _ _ ?_
  refine HT_seq_k ?_
  intro K3 hK3
  refine HT_region ?_
  refine HL_cons rfl ?_
  refine o_faddr' (ft := 3) (off := 0) rfl Try.underlying37 rfl tI3 (by decide) ?_
  try dsimp only [putL, setL, evL, getL]
  refine HL_cons rfl ?_
  refine o_load' rfl Try.underlying3 rfl (hH.hasv 0 rfl rfl) ?_
  try dsimp only [putL, setL, evL, getL]
  replace H := headE H
  obtain ⟨u4, hu4, H⟩ := H
  refine HL_cons rfl ?_
  refine o_call (args := #[.int .i64 p0_0, .int .i64 1, .int .i64 60]) Try.func105 rfl rfl rfl (impl_inRange.ok sb s2 no p0_0 1 60 (Hp.own hH.bs) _ hu4) ?_
  rintro _ s4 ⟨rfl, hD⟩
  replace hH := hH.back0 hD (Up.refl _ _ _)
  clear hD
  dsimp only [addC, setC, rmC, selC, getC] at hH
  try dsimp only [putL, setL, evL, getL]
  refine HL_cons rfl ?_
  refine o_move ?_
  try dsimp only [putL, setL, evL, getL]
  rcases Bool.eq_false_or_eq_true u4 with hb5 | hb5
  · replace H := iteT hb5 H
    refine HL_want ?_ ?_
    · exact wantT (j := 3) (b := true) (t := 6) (c := u4) rfl rfl rfl rfl hb5
    refine o_faddr' (ft := 24) (off := 1) rfl Try.underlying37 rfl tI24 (by decide) ?_
    try dsimp only [putL, setL, evL, getL]
    refine HL_want ?_ ?_
    · exact wantT (j := 3) (b := true) (t := 6) (c := u4) rfl rfl rfl rfl hb5
    refine o_load' rfl Try.underlying24 rfl (hH.hasv 0 rfl rfl) ?_
    try dsimp only [putL, setL, evL, getL]
    refine HL_want ?_ ?_
    · exact wantT (j := 3) (b := true) (t := 6) (c := u4) rfl rfl rfl rfl hb5
    refine o_faddr' (ft := 3) (off := 0) rfl Try.underlying37 rfl tI3 (by decide) ?_
    try dsimp only [putL, setL, evL, getL]
    refine HL_want ?_ ?_
    · exact wantT (j := 3) (b := true) (t := 6) (c := u4) rfl rfl rfl rfl hb5
    refine o_load' rfl Try.underlying3 rfl (hH.hasv 0 rfl rfl) ?_
    try dsimp only [putL, setL, evL, getL]
    replace H := headE H
    obtain ⟨u6, hu6, H⟩ := H
    refine HL_want ?_ ?_
    · exact wantT (j := 3) (b := true) (t := 6) (c := u4) rfl rfl rfl rfl hb5
    refine o_call (args := #[.slice A0_1p p0_1.length c0_1p, .int .i64 p0_0]) Try.func118 rfl rfl rfl (impl_areRunes.ok sb s4 no A0_1p c0_1p p0_1 p0_0 HRp0_1 (Hp.own hH.bs) _ hu6) ?_
    rintro _ s6 ⟨rfl, hD⟩
    replace hH := hH.back0 hD (Up.refl _ _ _)
    clear hD
    dsimp only [addC, setC, rmC, selC, getC] at hH
    try dsimp only [putL, setL, evL, getL]
    refine HL_cons rfl ?_
    refine o_pickT rfl hb5 ?_
    try dsimp only [putL, setL, evL, getL]
    refine HL_cons rfl ?_
    refine o_move ?_
    try dsimp only [putL, setL, evL, getL]
    rcases Bool.eq_false_or_eq_true u6 with hb7 | hb7
    · replace H := iteT hb7 H
      refine HL_want ?_ ?_
      · exact wantT (j := 10) (b := true) (t := 13) (c := u6) rfl rfl rfl rfl hb7
      refine o_faddr' (ft := 24) (off := 2) rfl Try.underlying37 rfl tI24 (by decide) ?_
      try dsimp only [putL, setL, evL, getL]
      refine HL_want ?_ ?_
      · exact wantT (j := 10) (b := true) (t := 13) (c := u6) rfl rfl rfl rfl hb7
      refine o_load' rfl Try.underlying24 rfl (hH.hasv 0 rfl rfl) ?_
      try dsimp only [putL, setL, evL, getL]
      refine HL_want ?_ ?_
      · exact wantT (j := 10) (b := true) (t := 13) (c := u6) rfl rfl rfl rfl hb7
      refine o_len rfl Try.underlying24 ?_
      try dsimp only [putL, setL, evL, getL]
      refine HL_want ?_ ?_
      · exact wantT (j := 10) (b := true) (t := 13) (c := u6) rfl rfl rfl rfl hb7
      refine o_faddr' (ft := 24) (off := 1) rfl Try.underlying37 rfl tI24 (by decide) ?_
      try dsimp only [putL, setL, evL, getL]
      refine HL_want ?_ ?_
      · exact wantT (j := 10) (b := true) (t := 13) (c := u6) rfl rfl rfl rfl hb7
      refine o_load' rfl Try.underlying24 rfl (hH.hasv 0 rfl rfl) ?_
      try dsimp only [putL, setL, evL, getL]
      refine HL_want ?_ ?_
      · exact wantT (j := 10) (b := true) (t := 13) (c := u6) rfl rfl rfl rfl hb7
      refine o_len rfl Try.underlying24 ?_
      try dsimp only [putL, setL, evL, getL]
      refine HL_want ?_ ?_
      · exact wantT (j := 10) (b := true) (t := 13) (c := u6) rfl rfl rfl rfl hb7
      refine o_bin rfl rfl rfl ?_
      try dsimp only [putL, setL, evL, getL]
      refine HL_cons rfl ?_
      refine o_pickT rfl hb7 ?_
      try dsimp only [putL, setL, evL, getL]
      refine HL_cons rfl ?_
      refine o_move ?_
      try dsimp only [putL, setL, evL, getL]
      rcases Bool.eq_false_or_eq_true ((p0_2.length : Int) == (p0_1.length : Int)) with hb8 | hb8
      · replace H := iteT hb8 H
        refine HL_want ?_ ?_
        · exact wantT (j := 19) (b := true) (t := 22) (c := (p0_2.length : Int) == (p0_1.length : Int)) rfl rfl rfl rfl hb8
        refine o_faddr' (ft := 3) (off := 3) rfl Try.underlying37 rfl tI3 (by decide) ?_
        try dsimp only [putL, setL, evL, getL]
        refine HL_want ?_ ?_
        · exact wantT (j := 19) (b := true) (t := 22) (c := (p0_2.length : Int) == (p0_1.length : Int)) rfl rfl rfl rfl hb8
        refine o_load' rfl Try.underlying3 rfl (hH.hasv 0 rfl rfl) ?_
        try dsimp only [putL, setL, evL, getL]
        replace H := headE H
        obtain ⟨u9, hu9, H⟩ := H
        refine HL_want ?_ ?_
        · exact wantT (j := 19) (b := true) (t := 22) (c := (p0_2.length : Int) == (p0_1.length : Int)) rfl rfl rfl rfl hb8
        refine o_call (args := #[.int .i64 p0_3, .int .i64 0, .int .i64 1000000]) Try.func105 rfl rfl rfl (impl_inRange.ok sb s6 no p0_3 0 1000000 (Hp.own hH.bs) _ hu9) ?_
        rintro _ s9 ⟨rfl, hD⟩
        replace hH := hH.back0 hD (Up.refl _ _ _)
        clear hD
        dsimp only [addC, setC, rmC, selC, getC] at hH
        try dsimp only [putL, setL, evL, getL]
        refine HL_cons rfl ?_
        refine o_pickT rfl hb8 ?_
        try dsimp only [putL, setL, evL, getL]
        refine HL_cons rfl ?_
        refine o_move ?_
        try dsimp only [putL, setL, evL, getL]
        rcases Bool.eq_false_or_eq_true u9 with hb10 | hb10
        · replace H := iteT hb10 H
          refine HL_want ?_ ?_
          · exact wantT (j := 24) (b := true) (t := 27) (c := u9) rfl rfl rfl rfl hb10
          refine o_faddr' (ft := 24) (off := 2) rfl Try.underlying37 rfl tI24 (by decide) ?_
          try dsimp only [putL, setL, evL, getL]
          refine HL_want ?_ ?_
          · exact wantT (j := 24) (b := true) (t := 27) (c := u9) rfl rfl rfl rfl hb10
          refine o_load' rfl Try.underlying24 rfl (hH.hasv 0 rfl rfl) ?_
          try dsimp only [putL, setL, evL, getL]
          replace H := headE H
          obtain ⟨u11, hu11, H⟩ := H
          refine HL_want ?_ ?_
          · exact wantT (j := 24) (b := true) (t := 27) (c := u9) rfl rfl rfl rfl hb10
          refine o_call (args := #[.slice A0_2p p0_2.length c0_2p, .func (.func 122) #[] #[]]) Try.func114 rfl rfl rfl (slices_ContainsFunc_int_int_impl_GoodBuf_1.ok sb s9 no A0_2p c0_2p p0_2 HRp0_2 (Hp.own hH.bs) _ hu11) ?_
          rintro _ s11 ⟨rfl, hD⟩
          replace hH := hH.back0 hD (Up.refl _ _ _)
          clear hD
          dsimp only [addC, setC, rmC, selC, getC] at hH
          try dsimp only [putL, setL, evL, getL]
          refine HL_want ?_ ?_
          · exact wantT (j := 24) (b := true) (t := 27) (c := u9) rfl rfl rfl rfl hb10
          refine o_not rfl ?_
          try dsimp only [putL, setL, evL, getL]
          refine HL_cons rfl ?_
          refine o_pickT rfl hb10 ?_
          try dsimp only [putL, setL, evL, getL]
          refine HL_cons rfl ?_
          refine o_assign ?_
          try dsimp only [putL, setL, evL, getL]
          refine HL_nil ?_
          refine hK3 _ _ ?_
          refine HT_ret ?_
          exact hQr _ _ [.bool (!u11)] ⟨rfl, trivial⟩ (retH (fun r => impl_GoodBuf.post sb s F0 r _ _) (show some _ = some r from H) ⟨rfl, hH.sel [] (by decide)⟩)
        · replace H := iteF hb10 H
          refine HL_skip ?_ ?_
          · exact wantF (j := 24) (b := true) (t := 27) (c := u9) rfl rfl rfl rfl hb10
          try dsimp only [putL, setL, evL, getL]
          refine HL_skip ?_ ?_
          · exact wantF (j := 24) (b := true) (t := 27) (c := u9) rfl rfl rfl rfl hb10
          try dsimp only [putL, setL, evL, getL]
          refine HL_skip ?_ ?_
          · exact wantF (j := 24) (b := true) (t := 27) (c := u9) rfl rfl rfl rfl hb10
          try dsimp only [putL, setL, evL, getL]
          refine HL_skip ?_ ?_
          · exact wantF (j := 24) (b := true) (t := 27) (c := u9) rfl rfl rfl rfl hb10
          try dsimp only [putL, setL, evL, getL]
          refine HL_cons rfl ?_
          refine o_pickF rfl hb10 ?_
          try dsimp only [putL, setL, evL, getL]
          refine HL_cons rfl ?_
          refine o_assign ?_
          try dsimp only [putL, setL, evL, getL]
          refine HL_nil ?_
          refine hK3 _ _ ?_
          refine HT_ret ?_
          exact hQr _ _ [.bool false] ⟨rfl, trivial⟩ (retH (fun r => impl_GoodBuf.post sb s F0 r _ _) (show some _ = some r from H) ⟨rfl, hH.sel [] (by decide)⟩)
      · replace H := iteF hb8 H
        refine HL_skip ?_ ?_
        · exact wantF (j := 19) (b := true) (t := 22) (c := (p0_2.length : Int) == (p0_1.length : Int)) rfl rfl rfl rfl hb8
        try dsimp only [putL, setL, evL, getL]
        refine HL_skip ?_ ?_
        · exact wantF (j := 19) (b := true) (t := 22) (c := (p0_2.length : Int) == (p0_1.length : Int)) rfl rfl rfl rfl hb8
        try dsimp only [putL, setL, evL, getL]
        refine HL_skip ?_ ?_
        · exact wantF (j := 19) (b := true) (t := 22) (c := (p0_2.length : Int) == (p0_1.length : Int)) rfl rfl rfl rfl hb8
        try dsimp only [putL, setL, evL, getL]
        refine HL_cons rfl ?_
        refine o_pickF rfl hb8 ?_
        try dsimp only [putL, setL, evL, getL]
        refine HL_cons rfl ?_
        refine o_move ?_
        try dsimp only [putL, setL, evL, getL]
        refine HL_skip ?_ ?_
        · exact wantF (j := 24) (b := true) (t := 27) (c := false) rfl rfl rfl rfl rfl
        try dsimp only [putL, setL, evL, getL]
        refine HL_skip ?_ ?_
        · exact wantF (j := 24) (b := true) (t := 27) (c := false) rfl rfl rfl rfl rfl
        try dsimp only [putL, setL, evL, getL]
        refine HL_skip ?_ ?_
        · exact wantF (j := 24) (b := true) (t := 27) (c := false) rfl rfl rfl rfl rfl
        try dsimp only [putL, setL, evL, getL]
        refine HL_skip ?_ ?_
        · exact wantF (j := 24) (b := true) (t := 27) (c := false) rfl rfl rfl rfl rfl
        try dsimp only [putL, setL, evL, getL]
        refine HL_cons rfl ?_
        refine o_pickF rfl rfl ?_
        try dsimp only [putL, setL, evL, getL]
        refine HL_cons rfl ?_
        refine o_assign ?_
        try dsimp only [putL, setL, evL, getL]
        refine HL_nil ?_
        refine hK3 _ _ ?_
        refine HT_ret ?_
        exact hQr _ _ [.bool false] ⟨rfl, trivial⟩ (retH (fun r => impl_GoodBuf.post sb s F0 r _ _) (show some _ = some r from H) ⟨rfl, hH.sel [] (by decide)⟩)
    · replace H := iteF hb7 H
      refine HL_skip ?_ ?_
      · exact wantF (j := 10) (b := true) (t := 13) (c := u6) rfl rfl rfl rfl hb7
      try dsimp only [putL, setL, evL, getL]
      refine HL_skip ?_ ?_
      · exact wantF (j := 10) (b := true) (t := 13) (c := u6) rfl rfl rfl rfl hb7
      try dsimp only [putL, setL, evL, getL]
      refine HL_skip ?_ ?_
      · exact wantF (j := 10) (b := true) (t := 13) (c := u6) rfl rfl rfl rfl hb7
      try dsimp only [putL, setL, evL, getL]
      refine HL_skip ?_ ?_
      · exact wantF (j := 10) (b := true) (t := 13) (c := u6) rfl rfl rfl rfl hb7
      try dsimp only [putL, setL, evL, getL]
      refine HL_skip ?_ ?_
      · exact wantF (j := 10) (b := true) (t := 13) (c := u6) rfl rfl rfl rfl hb7
      try dsimp only [putL, setL, evL, getL]
      refine HL_skip ?_ ?_
      · exact wantF (j := 10) (b := true) (t := 13) (c := u6) rfl rfl rfl rfl hb7
      try dsimp only [putL, setL, evL, getL]
      refine HL_skip ?_ ?_
      · exact wantF (j := 10) (b := true) (t := 13) (c := u6) rfl rfl rfl rfl hb7
      try dsimp only [putL, setL, evL, getL]
      refine HL_cons rfl ?_
      refine o_pickF rfl hb7 ?_
      try dsimp only [putL, setL, evL, getL]
      refine HL_cons rfl ?_
      refine o_move ?_
      try dsimp only [putL, setL, evL, getL]
      refine HL_skip ?_ ?_
      · exact wantF (j := 19) (b := true) (t := 22) (c := false) rfl rfl rfl rfl rfl
      try dsimp only [putL, setL, evL, getL]
      refine HL_skip ?_ ?_
      · exact wantF (j := 19) (b := true) (t := 22) (c := false) rfl rfl rfl rfl rfl
      try dsimp only [putL, setL, evL, getL]
      refine HL_skip ?_ ?_
      · exact wantF (j := 19) (b := true) (t := 22) (c := false) rfl rfl rfl rfl rfl
      try dsimp only [putL, setL, evL, getL]
      refine HL_cons rfl ?_
      refine o_pickF rfl rfl ?_
      try dsimp only [putL, setL, evL, getL]
      refine HL_cons rfl ?_
      refine o_move ?_
      try dsimp only [putL, setL, evL, getL]
      refine HL_skip ?_ ?_
      · exact wantF (j := 24) (b := true) (t := 27) (c := false) rfl rfl rfl rfl rfl
      try dsimp only [putL, setL, evL, getL]
      refine HL_skip ?_ ?_
      · exact wantF (j := 24) (b := true) (t := 27) (c := false) rfl rfl rfl rfl rfl
      try dsimp only [putL, setL, evL, getL]
      refine HL_skip ?_ ?_
      · exact wantF (j := 24) (b := true) (t := 27) (c := false) rfl rfl rfl rfl rfl
      try dsimp only [putL, setL, evL, getL]
      refine HL_skip ?_ ?_
      · exact wantF (j := 24) (b := true) (t := 27) (c := false) rfl rfl rfl rfl rfl
      try dsimp only [putL, setL, evL, getL]
      refine HL_cons rfl ?_
      refine o_pickF rfl rfl ?_
      try dsimp only [putL, setL, evL, getL]
      refine HL_cons rfl ?_
      refine o_assign ?_
      try dsimp only [putL, setL, evL, getL]
      refine HL_nil ?_
      refine hK3 _ _ ?_
      refine HT_ret ?_
      exact hQr _ _ [.bool false] ⟨rfl, trivial⟩ (retH (fun r => impl_GoodBuf.post sb s F0 r _ _) (show some _ = some r from H) ⟨rfl, hH.sel [] (by decide)⟩)
  · replace H := iteF hb5 H
    refine HL_skip ?_ ?_
    · exact wantF (j := 3) (b := true) (t := 6) (c := u4) rfl rfl rfl rfl hb5
    try dsimp only [putL, setL, evL, getL]
    refine HL_skip ?_ ?_
    · exact wantF (j := 3) (b := true) (t := 6) (c := u4) rfl rfl rfl rfl hb5
    try dsimp only [putL, setL, evL, getL]
    refine HL_skip ?_ ?_
    · exact wantF (j := 3) (b := true) (t := 6) (c := u4) rfl rfl rfl rfl hb5
    try dsimp only [putL, setL, evL, getL]
    refine HL_skip ?_ ?_
    · exact wantF (j := 3) (b := true) (t := 6) (c := u4) rfl rfl rfl rfl hb5
    try dsimp only [putL, setL, evL, getL]
    refine HL_skip ?_ ?_
    · exact wantF (j := 3) (b := true) (t := 6) (c := u4) rfl rfl rfl rfl hb5
    try dsimp only [putL, setL, evL, getL]
    refine HL_cons rfl ?_
    refine o_pickF rfl hb5 ?_
    try dsimp only [putL, setL, evL, getL]
    refine HL_cons rfl ?_
    refine o_move ?_
    try dsimp only [putL, setL, evL, getL]
    refine HL_skip ?_ ?_
    · exact wantF (j := 10) (b := true) (t := 13) (c := false) rfl rfl rfl rfl rfl
    try dsimp only [putL, setL, evL, getL]
    refine HL_skip ?_ ?_
    · exact wantF (j := 10) (b := true) (t := 13) (c := false) rfl rfl rfl rfl rfl
    try dsimp only [putL, setL, evL, getL]
    refine HL_skip ?_ ?_
    · exact wantF (j := 10) (b := true) (t := 13) (c := false) rfl rfl rfl rfl rfl
    try dsimp only [putL, setL, evL, getL]
    refine HL_skip ?_ ?_
    · exact wantF (j := 10) (b := true) (t := 13) (c := false) rfl rfl rfl rfl rfl
    try dsimp only [putL, setL, evL, getL]
    refine HL_skip ?_ ?_
    · exact wantF (j := 10) (b := true) (t := 13) (c := false) rfl rfl rfl rfl rfl
    try dsimp only [putL, setL, evL, getL]
    refine HL_skip ?_ ?_
    · exact wantF (j := 10) (b := true) (t := 13) (c := false) rfl rfl rfl rfl rfl
    try dsimp only [putL, setL, evL, getL]
    refine HL_skip ?_ ?_
    · exact wantF (j := 10) (b := true) (t := 13) (c := false) rfl rfl rfl rfl rfl
    try dsimp only [putL, setL, evL, getL]
    refine HL_cons rfl ?_
    refine o_pickF rfl rfl ?_
    try dsimp only [putL, setL, evL, getL]
    refine HL_cons rfl ?_
    refine o_move ?_
    try dsimp only [putL, setL, evL, getL]
    refine HL_skip ?_ ?_
    · exact wantF (j := 19) (b := true) (t := 22) (c := false) rfl rfl rfl rfl rfl
    try dsimp only [putL, setL, evL, getL]
    refine HL_skip ?_ ?_
    · exact wantF (j := 19) (b := true) (t := 22) (c := false) rfl rfl rfl rfl rfl
    try dsimp only [putL, setL, evL, getL]
    refine HL_skip ?_ ?_
    · exact wantF (j := 19) (b := true) (t := 22) (c := false) rfl rfl rfl rfl rfl
    try dsimp only [putL, setL, evL, getL]
    refine HL_cons rfl ?_
    refine o_pickF rfl rfl ?_
    try dsimp only [putL, setL, evL, getL]
    refine HL_cons rfl ?_
    refine o_move ?_
    try dsimp only [putL, setL, evL, getL]
    refine HL_skip ?_ ?_
    · exact wantF (j := 24) (b := true) (t := 27) (c := false) rfl rfl rfl rfl rfl
    try dsimp only [putL, setL, evL, getL]
    refine HL_skip ?_ ?_
    · exact wantF (j := 24) (b := true) (t := 27) (c := false) rfl rfl rfl rfl rfl
    try dsimp only [putL, setL, evL, getL]
    refine HL_skip ?_ ?_
    · exact wantF (j := 24) (b := true) (t := 27) (c := false) rfl rfl rfl rfl rfl
    try dsimp only [putL, setL, evL, getL]
    refine HL_skip ?_ ?_
    · exact wantF (j := 24) (b := true) (t := 27) (c := false) rfl rfl rfl rfl rfl
    try dsimp only [putL, setL, evL, getL]
    refine HL_cons rfl ?_
    refine o_pickF rfl rfl ?_
    try dsimp only [putL, setL, evL, getL]
    refine HL_cons rfl ?_
    refine o_assign ?_
    try dsimp only [putL, setL, evL, getL]
    refine HL_nil ?_
    refine hK3 _ _ ?_
    refine HT_ret ?_
    exact hQr _ _ [.bool false] ⟨rfl, trivial⟩ (retH (fun r => impl_GoodBuf.post sb s F0 r _ _) (show some _ = some r from H) ⟨rfl, hH.sel [] (by decide)⟩)
def impl_PutBuf_1.f (p0 : Int) : Option Bool := (impl_inRange.f p0 1 1000).bind fun u3 => some (!u3)
def impl_PutBuf_1.post (sb s : St) (F0 : Fp) (r : Bool) : Value → St → Prop := fun v s' => v = .bool r ∧ Hp sb s F0 s' []
set_option maxRecDepth 100000 in
set_option maxHeartbeats 4000000 in
theorem impl_PutBuf_1.ok (sb s : St) (F0 : Fp) (p0 : Int) (hH : Hp sb s F0 s []) (r : Bool) (H : impl_PutBuf_1.f p0 = some r) : GCall Try.prog 115 #[.int .i64 p0] s (impl_PutBuf_1.post sb s F0 r) := by
  refine GCall_ofk [.tmp 2] [.int .i64 p0, undef, undef, undef, undef, undef] Try.func115 rfl rfl rfl ?_
  intro w Q hQr hQn hQp
  replace H := topE H
  unfold impl_PutBuf_1.f at H
  refine HT_seq_k ?_
  intro K1 hK1
  refine HT_region ?_
  refine HL_cons rfl ?_
  refine o_assign ?_
  try dsimp only [putL, setL, evL, getL]
  refine HL_nil ?_
  refine hK1 _ _ ?_
  refine HT_seq_k ?_
  intro K2 hK2
  refine HT_region ?_
  refine HL_cons rfl ?_
  refine o_move ?_
  try dsimp only [putL, setL, evL, getL]
  replace H := headE H
  obtain ⟨u3, hu3, H⟩ := H
  refine HL_cons rfl ?_
  refine o_call (args := #[.int .i64 p0, .int .i64 1, .int .i64 1000]) Try.func105 rfl rfl rfl (impl_inRange.ok sb s no p0 1 1000 (Hp.own hH.bs) _ hu3) ?_
  rintro _ s3 ⟨rfl, hD⟩
  replace hH := hH.back0 hD (Up.refl _ _ _)
  clear hD
  dsimp only [addC, setC, rmC, selC, getC] at hH
  try dsimp only [putL, setL, evL, getL]
  refine HL_cons rfl ?_
  refine o_not rfl ?_
  try dsimp only [putL, setL, evL, getL]
  refine HL_cons rfl ?_
  refine o_assign ?_
  try dsimp only [putL, setL, evL, getL]
  refine HL_nil ?_
  refine hK2 _ _ ?_
  refine HT_ret ?_
  exact hQr _ _ [.bool (!u3)] ⟨rfl, trivial⟩ (retH (fun r => impl_PutBuf_1.post sb s F0 r _ _) (show some _ = some r from H) ⟨rfl, hH⟩)
def slices_IndexFunc_int_int_impl_PutBuf_1.l1 (p0 : List (Int)) : Nat → Int → Option (Lo Unit Int)
  | 0, _ => none
  | kf + 1, x48 => if (decide (x48 < (p0.length : Int))) = true then ((rd? p0 x48).bind fun u67 => (impl_PutBuf_1.f u67).bind fun u68 => if u68 = true then ((some x48).bind fun z => some (Lo.ret z)) else (slices_IndexFunc_int_int_impl_PutBuf_1.l1 p0 kf (IntKind.i64.wrap (x48 + 1)))) else (some (Lo.go ()))
def slices_IndexFunc_int_int_impl_PutBuf_1.f (p0 : List (Int)) : Option Int := (slices_IndexFunc_int_int_impl_PutBuf_1.l1 p0 ((((p0.length : Int)) - (0)).toNat + 2) 0).bind fun (o : Lo Unit Int) => match o with | .go () => (some (-1)) | .ret z => some z
def slices_IndexFunc_int_int_impl_PutBuf_1.post (sb s : St) (F0 : Fp) (r : Int) : Value → St → Prop := fun v s' => v = .int .i64 r ∧ Hp sb s F0 s' []
set_option maxRecDepth 100000 in
set_option maxHeartbeats 4000000 in
theorem slices_IndexFunc_int_int_impl_PutBuf_1.ok (sb s : St) (F0 : Fp) (A0p : Option Addr) (c0p : Nat) (p0 : List (Int)) (HRp0 : Rd KI sb A0p c0p p0) (hH : Hp sb s F0 s []) (r : Int) (H : slices_IndexFunc_int_int_impl_PutBuf_1.f p0 = some r) : GCall Try.prog 184 #[.slice A0p p0.length c0p, .func (.func 115) #[] #[]] s (slices_IndexFunc_int_int_impl_PutBuf_1.post sb s F0 r) := by
  refine GCall_ofk [.tmp 4] [.slice A0p p0.length c0p, .func (.func 115) #[] #[], undef, undef, undef, undef, undef, undef, undef, undef, undef, undef, undef, undef, undef, undef, undef, undef, undef] Try.func184 rfl rfl rfl ?_
  intro w Q hQr hQn hQp
  replace H := topE H
  unfold slices_IndexFunc_int_int_impl_PutBuf_1.f at H
  refine HT_seq_k ?_
  intro K1 hK1
  refine HT_region ?_
  refine HL_cons rfl ?_
  refine o_assign ?_
  try dsimp only [putL, setL, evL, getL]
  refine HL_nil ?_
  refine hK1 _ _ ?_
  refine HT_seq_k ?_
  intro K2 hK2
  refine HT_seq_k ?_
  intro K3 hK3
  refine HT_region ?_
  refine HL_cons rfl ?_
  refine o_move ?_
  try dsimp only [putL, setL, evL, getL]
  refine HL_cons rfl ?_
  refine o_len rfl Try.underlying24 ?_
  try dsimp only [putL, setL, evL, getL]
  refine HL_cons rfl ?_
  refine o_move ?_
  try dsimp only [putL, setL, evL, getL]
  refine HL_nil ?_
  refine hK3 _ _ ?_
  refine joinH H fun G4 hG4 H => ?_
  refine HT_toK (fun l' s' => G4 (.go ()) = some r ∧ l' = [.slice A0p p0.length c0p, .func (.func 115) #[] #[], undef, undef, getL l' 4, getL l' 5, .slice A0p p0.length c0p, .int .i64 (p0.length : Int), getL l' 8, getL l' 9, getL l' 10, getL l' 11, getL l' 12, getL l' 13, getL l' 14, getL l' 15, getL l' 16, getL l' 17, getL l' 18] ∧ Hp sb s F0 s' []) ?_ ?_
  · intro K4 hK4
    refine HT_block ?_
    refine HT_loopK (fun kf l' s' => ∃ (x48 : Int), (slices_IndexFunc_int_int_impl_PutBuf_1.l1 p0 kf x48).bind G4 = some r ∧ l' = [.slice A0p p0.length c0p, .func (.func 115) #[] #[], undef, undef, getL l' 4, getL l' 5, .slice A0p p0.length c0p, .int .i64 (p0.length : Int), .int .i64 x48, getL l' 9, getL l' 10, getL l' 11, getL l' 12, getL l' 13, getL l' 14, getL l' 15, getL l' 16, getL l' 17, getL l' 18] ∧ Hp sb s F0 s' []) ((((p0.length : Int)) - (0)).toNat + 2) ⟨0, H, rfl, hH⟩ ?_
    rintro kf l' s60 ⟨x48, H, hl, hH⟩ K60 hK60
    generalize getL l' 4 = j4, getL l' 5 = j5, getL l' 9 = j9, getL l' 10 = j10, getL l' 11 = j11, getL l' 12 = j12, getL l' 13 = j13, getL l' 14 = j14, getL l' 15 = j15, getL l' 16 = j16, getL l' 17 = j17, getL l' 18 = j18 at hl
    subst hl
    cases kf with
    | zero => simp [slices_IndexFunc_int_int_impl_PutBuf_1.l1] at H
    | succ kf =>
      rw [slices_IndexFunc_int_int_impl_PutBuf_1.l1] at H
      refine HT_seq_k ?_
      intro K61 hK61
      refine HT_region ?_
      refine HL_cons rfl ?_
      refine o_bin rfl rfl rfl ?_
      try dsimp only [putL, setL, evL, getL]
      refine HL_nil ?_
      refine hK61 _ _ ?_
      refine HT_seq_k ?_
      intro K62 hK62
      rcases Bool.eq_false_or_eq_true (decide (x48 < (p0.length : Int))) with hb63 | hb63
      · replace H := iteT hb63 H
        refine HT_true (congrArg Value.bool hb63) ?_
        refine HT_skip ?_
        refine hK62 _ _ ?_
        refine HT_seq_k ?_
        intro K64 hK64
        refine HT_block ?_
        refine HT_seq_k ?_
        intro K65 hK65
        refine HT_region ?_
        refine HL_cons rfl ?_
        refine o_move ?_
        try dsimp only [putL, setL, evL, getL]
        refine HL_cons rfl ?_
        refine o_assign ?_
        try dsimp only [putL, setL, evL, getL]
        refine HL_nil ?_
        refine hK65 _ _ ?_
        refine HT_seq_k ?_
        intro K66 hK66
        refine HT_region ?_
        refine HL_cons rfl ?_
        refine o_move ?_
        try dsimp only [putL, setL, evL, getL]
        refine HL_cons rfl ?_
        refine o_move ?_
        try dsimp only [putL, setL, evL, getL]
        refine HL_cons rfl ?_
        refine o_move ?_
        try dsimp only [putL, setL, evL, getL]
        replace H := headE H
        obtain ⟨u67, hu67, H⟩ := H
        obtain ⟨b67, o67, cs67, hr67, hh67, hel67⟩ := Rd.elb HRp0 hu67
        obtain rfl := hr67
        refine HL_cons rfl ?_
        refine hel67 s60 rfl rfl Try.underlying24 tI3 ?_
        try dsimp only [putL, setL, evL, getL]
        refine HL_cons rfl ?_
        refine o_load' rfl Try.underlying3 rfl ((hh67 hH.bs.mono) 0 _ rfl) ?_
        try dsimp only [putL, setL, evL, getL]
        replace H := headE H
        obtain ⟨u68, hu68, H⟩ := H
        refine HL_cons rfl ?_
        refine o_callv (first := #[]) (cap := #[]) (args := #[.int .i64 u67]) rfl Try.func115 rfl rfl [.int .i64 u67] rfl (by simp) (impl_PutBuf_1.ok sb s60 no u67 (Hp.own hH.bs) _ hu68) ?_
        rintro _ s68 ⟨rfl, hD⟩
        replace hH := hH.back0 hD (Up.refl _ _ _)
        clear hD
        dsimp only [addC, setC, rmC, selC, getC] at hH
        try dsimp only [putL, setL, evL, getL]
        refine HL_nil ?_
        refine hK66 _ _ ?_
        rcases Bool.eq_false_or_eq_true u68 with hb69 | hb69
        · replace H := iteT hb69 H
          refine HT_true (congrArg Value.bool hb69) ?_
          refine HT_seq_k ?_
          intro K70 hK70
          refine HT_region ?_
          refine HL_cons rfl ?_
          refine o_move ?_
          try dsimp only [putL, setL, evL, getL]
          refine HL_cons rfl ?_
          refine o_assign ?_
          try dsimp only [putL, setL, evL, getL]
          refine HL_nil ?_
          refine hK70 _ _ ?_
          refine HT_ret ?_
          replace H := escH (fun z hz => hG4 _ hz) H
          exact hQr _ _ [.int .i64 x48] ⟨rfl, trivial⟩ (retH (fun r => slices_IndexFunc_int_int_impl_PutBuf_1.post sb s F0 r _ _) (show some _ = some r from H) ⟨rfl, hH⟩)
        · replace H := iteF hb69 H
          refine HT_false (congrArg Value.bool hb69) ?_
          refine HT_skip ?_
          refine hK64 _ _ ?_
          refine HT_region ?_
          refine HL_cons rfl ?_
          refine o_bin rfl rfl rfl ?_
          try dsimp only [putL, setL, evL, getL]
          refine HL_cons rfl ?_
          refine o_move ?_
          try dsimp only [putL, setL, evL, getL]
          refine HL_nil ?_
          exact hK60 _ _ ⟨kf, Nat.lt_succ_self kf, IntKind.i64.wrap (x48 + 1), H, rfl, hH⟩
      · replace H := iteF hb63 H
        refine HT_false (congrArg Value.bool hb63) ?_
        refine HT_exit ?_
        exact hK4 _ _ ⟨H, rfl, hH⟩
  · rintro l' s71 ⟨H, hl, hH⟩
    generalize getL l' 4 = j4, getL l' 5 = j5, getL l' 8 = j8, getL l' 9 = j9, getL l' 10 = j10, getL l' 11 = j11, getL l' 12 = j12, getL l' 13 = j13, getL l' 14 = j14, getL l' 15 = j15, getL l' 16 = j16, getL l' 17 = j17, getL l' 18 = j18 at hl
    subst hl
    replace H := hG4 _ H
    try dsimp only at H
    refine hK2 _ _ ?_
    refine HT_seq_k ?_
    intro K72 hK72
    refine HT_region ?_
    refine HL_cons rfl ?_
    refine o_assign ?_
    try dsimp only [putL, setL, evL, getL]
    refine HL_nil ?_
    refine hK72 _ _ ?_
    refine HT_ret ?_
    exact hQr _ _ [.int .i64 (-1)] ⟨rfl, trivial⟩ (retH (fun r => slices_IndexFunc_int_int_impl_PutBuf_1.post sb s F0 r _ _) (show some _ = some r from H) ⟨rfl, hH⟩)
def slices_ContainsFunc_int_int_impl_PutBuf_1.f (p0 : List (Int)) : Option Bool := (slices_IndexFunc_int_int_impl_PutBuf_1.f p0).bind fun u3 => some (decide (u3 ≥ 0))
def slices_ContainsFunc_int_int_impl_PutBuf_1.post (sb s : St) (F0 : Fp) (r : Bool) : Value → St → Prop := fun v s' => v = .bool r ∧ Hp sb s F0 s' []
set_option maxRecDepth 100000 in
set_option maxHeartbeats 4000000 in
theorem slices_ContainsFunc_int_int_impl_PutBuf_1.ok (sb s : St) (F0 : Fp) (A0p : Option Addr) (c0p : Nat) (p0 : List (Int)) (HRp0 : Rd KI sb A0p c0p p0) (hH : Hp sb s F0 s []) (r : Bool) (H : slices_ContainsFunc_int_int_impl_PutBuf_1.f p0 = some r) : GCall Try.prog 114 #[.slice A0p p0.length c0p, .func (.func 115) #[] #[]] s (slices_ContainsFunc_int_int_impl_PutBuf_1.post sb s F0 r) := by
  refine GCall_ofk [.tmp 4] [.slice A0p p0.length c0p, .func (.func 115) #[] #[], undef, undef, undef, undef, undef, undef, undef] Try.func114 rfl rfl rfl ?_
  intro w Q hQr hQn hQp
  replace H := topE H
  unfold slices_ContainsFunc_int_int_impl_PutBuf_1.f at H
  refine HT_seq_k ?_
  intro K1 hK1
  refine HT_region ?_
  refine HL_cons rfl ?_
  refine o_assign ?_
  try dsimp only [putL, setL, evL, getL]
  refine HL_nil ?_
  refine hK1 _ _ ?_
  refine HT_seq_k ?_
  intro K2 hK2
  refine HT_region ?_
  refine HL_cons rfl ?_
  refine o_move ?_
  try dsimp only [putL, setL, evL, getL]
  refine HL_cons rfl ?_
  refine o_move ?_
  try dsimp only [putL, setL, evL, getL]
  replace H := headE H
  obtain ⟨u3, hu3, H⟩ := H
  refine HL_cons rfl ?_
  refine o_call (args := #[.slice A0p p0.length c0p, .func (.func 115) #[] #[]]) Try.func184 rfl rfl rfl (slices_IndexFunc_int_int_impl_PutBuf_1.ok sb s no A0p c0p p0 HRp0 (Hp.own hH.bs) _ hu3) ?_
  rintro _ s3 ⟨rfl, hD⟩
  replace hH := hH.back0 hD (Up.refl _ _ _)
  clear hD
  dsimp only [addC, setC, rmC, selC, getC] at hH
  try dsimp only [putL, setL, evL, getL]
  refine HL_cons rfl ?_
  refine o_bin rfl rfl rfl ?_
  try dsimp only [putL, setL, evL, getL]
  refine HL_cons rfl ?_
  refine o_assign ?_
  try dsimp only [putL, setL, evL, getL]
  refine HL_nil ?_
  refine hK2 _ _ ?_
  refine HT_ret ?_
  exact hQr _ _ [.bool (decide (u3 ≥ 0))] ⟨rfl, trivial⟩ (retH (fun r => slices_ContainsFunc_int_int_impl_PutBuf_1.post sb s F0 r _ _) (show some _ = some r from H) ⟨rfl, hH⟩)
end Go.Proofs.Ytkieinlcpkpcjaa
