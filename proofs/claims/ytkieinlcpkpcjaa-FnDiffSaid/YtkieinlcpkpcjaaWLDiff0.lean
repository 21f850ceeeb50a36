/- The functions that the law reaches, as plain functions, each with its contract: printed by a program of the prover's. No conditions: lemmas. -/
import Derived.Test.YtkieinlcpkpcjaaProg
import Derived.Test.YtkieinlcpkpcjaaGJ
set_option linter.unusedVariables false
set_option linter.unusedSimpArgs false
namespace Go.Proofs.Ytkieinlcpkpcjaa
open Go Go.Proofs.GL
abbrev KS170 := (Kd.pair KI (Kd.sl KI))
abbrev OS170 : Ow KS170 := (Ow.pair OI (Ow.sl OI 3))
abbrev OL170 : Ow KS170 := (Ow.pair OI (Ow.lent (Kd.sl KI)))
theorem tI3 : TI Try.prog 3 (.int .i64 0) 1 8 := by unfold TI; kernel_rfl
theorem tI5 : TI Try.prog 5 (.int .u8 0) 1 1 := by unfold TI; kernel_rfl
theorem tI22 : TI Try.prog 22 (.slice none 0 0) 1 24 := by unfold TI; kernel_rfl
theorem tI24 : TI Try.prog 24 (.slice none 0 0) 1 24 := by unfold TI; kernel_rfl
theorem tI85 : TI Try.prog 85 (.slice none 0 0) 1 24 := by unfold TI; kernel_rfl
theorem tI111 : TI Try.prog 111 (.int .u64 0) 1 8 := by unfold TI; kernel_rfl
theorem tI113 : TI Try.prog 113 (.agg #[.slice none 0 0, .int .i64 0, .int .u64 0]) 3 40 := by unfold TI; kernel_rfl
theorem tI170 : TI Try.prog 170 (.agg #[.int .i64 0, .slice none 0 0]) 2 32 := by unfold TI; kernel_rfl
theorem hMix : Try.prog.follows .mixedOrders = true := by kernel_rfl
def laws_big.f (p0 : List (Int)) (p1 : List (Int)) : Option Bool := if (decide ((p0.length : Int) > 1048576)) = true then (some true) else (some (decide ((p1.length : Int) > (IntKind.i64.wrap (1048576 - (p0.length : Int))))))
def laws_big.post (sb s : St) (F0 : Fp) (r : Bool) : Value → St → Prop := fun v s' => v = .bool r ∧ Hp sb s F0 s' []
set_option maxRecDepth 100000 in
set_option maxHeartbeats 4000000 in
theorem laws_big.ok (sb s : St) (F0 : Fp) (A0p : Option Addr) (c0p : Nat) (p0 : List (Int)) (A1p : Option Addr) (c1p : Nat) (p1 : List (Int)) (HRp0 : Rd (Kd.int .u8) sb A0p c0p p0) (HRp1 : Rd (Kd.int .u8) sb A1p c1p p1) (hH : Hp sb s F0 s []) (r : Bool) (H : laws_big.f p0 p1 = some r) : GCall Try.prog 14 #[.slice A0p p0.length c0p, .slice A1p p1.length c1p] s (laws_big.post sb s F0 r) := by
  refine GCall_ofk [.tmp 4] [.slice A0p p0.length c0p, .slice A1p p1.length c1p, undef, undef, undef, undef, undef, undef, undef, undef, undef, undef, undef, undef, undef, undef] Try.func14 rfl rfl rfl ?_
  intro w Q hQr hQn hQp
  replace H := topE H
  unfold laws_big.f at H
  refine HT_seq_k ?_
  intro K1 hK1
  refine HT_region ?_
  refine HL_cons rfl ?_
  refine o_assign ?_
  try dsimp only [putL, setL, evL, getL]
  refine HL_nil ?_
  refine hK1 _ _ ?_
  refine HT_seq_k ?_
  intro K2 hK2
  refine HT_region ?_
  refine HL_cons rfl ?_
  refine o_move ?_
  try dsimp only [putL, setL, evL, getL]
  refine HL_cons rfl ?_
  refine o_len rfl Try.underlying22 ?_
  try dsimp only [putL, setL, evL, getL]
  refine HL_cons rfl ?_
  refine o_bin rfl rfl rfl ?_
  try dsimp only [putL, setL, evL, getL]
  refine HL_cons rfl ?_
  refine o_move ?_
  try dsimp only [putL, setL, evL, getL]
  rcases Bool.eq_false_or_eq_true (decide ((p0.length : Int) > 1048576)) with hb3 | hb3
  · replace H := iteT hb3 H
    refine HL_skip ?_ ?_
    · exact wantF (j := 3) (b := false) (t := 8) (c := decide ((p0.length : Int) > 1048576)) rfl rfl rfl rfl hb3
    try dsimp only [putL, setL, evL, getL]
    refine HL_skip ?_ ?_
    · exact wantF (j := 3) (b := false) (t := 8) (c := decide ((p0.length : Int) > 1048576)) rfl rfl rfl rfl hb3
    try dsimp only [putL, setL, evL, getL]
    refine HL_skip ?_ ?_
    · exact wantF (j := 3) (b := false) (t := 8) (c := decide ((p0.length : Int) > 1048576)) rfl rfl rfl rfl hb3
    try dsimp only [putL, setL, evL, getL]
    refine HL_skip ?_ ?_
    · exact wantF (j := 3) (b := false) (t := 8) (c := decide ((p0.length : Int) > 1048576)) rfl rfl rfl rfl hb3
    try dsimp only [putL, setL, evL, getL]
    refine HL_skip ?_ ?_
    · exact wantF (j := 3) (b := false) (t := 8) (c := decide ((p0.length : Int) > 1048576)) rfl rfl rfl rfl hb3
    try dsimp only [putL, setL, evL, getL]
    refine HL_skip ?_ ?_
    · exact wantF (j := 3) (b := false) (t := 8) (c := decide ((p0.length : Int) > 1048576)) rfl rfl rfl rfl hb3
    try dsimp only [putL, setL, evL, getL]
    refine HL_cons rfl ?_
    refine o_pickT rfl hb3 ?_
    try dsimp only [putL, setL, evL, getL]
    refine HL_cons rfl ?_
    refine o_assign ?_
    try dsimp only [putL, setL, evL, getL]
    refine HL_nil ?_
    refine hK2 _ _ ?_
    refine HT_ret ?_
    exact hQr _ _ [.bool true] ⟨rfl, trivial⟩ (retH (fun r => laws_big.post sb s F0 r _ _) (show some _ = some r from H) ⟨rfl, hH⟩)
  · replace H := iteF hb3 H
    refine HL_want ?_ ?_
    · exact wantT (j := 3) (b := false) (t := 8) (c := decide ((p0.length : Int) > 1048576)) rfl rfl rfl rfl hb3
    refine o_move ?_
    try dsimp only [putL, setL, evL, getL]
    refine HL_want ?_ ?_
    · exact wantT (j := 3) (b := false) (t := 8) (c := decide ((p0.length : Int) > 1048576)) rfl rfl rfl rfl hb3
    refine o_len rfl Try.underlying22 ?_
    try dsimp only [putL, setL, evL, getL]
    refine HL_want ?_ ?_
    · exact wantT (j := 3) (b := false) (t := 8) (c := decide ((p0.length : Int) > 1048576)) rfl rfl rfl rfl hb3
    refine o_move ?_
    try dsimp only [putL, setL, evL, getL]
    refine HL_want ?_ ?_
    · exact wantT (j := 3) (b := false) (t := 8) (c := decide ((p0.length : Int) > 1048576)) rfl rfl rfl rfl hb3
    refine o_len rfl Try.underlying22 ?_
    try dsimp only [putL, setL, evL, getL]
    refine HL_want ?_ ?_
    · exact wantT (j := 3) (b := false) (t := 8) (c := decide ((p0.length : Int) > 1048576)) rfl rfl rfl rfl hb3
    refine o_bin rfl rfl rfl ?_
    try dsimp only [putL, setL, evL, getL]
    refine HL_want ?_ ?_
    · exact wantT (j := 3) (b := false) (t := 8) (c := decide ((p0.length : Int) > 1048576)) rfl rfl rfl rfl hb3
    refine o_bin rfl rfl rfl ?_
    try dsimp only [putL, setL, evL, getL]
    refine HL_cons rfl ?_
    refine o_pickF rfl hb3 ?_
    try dsimp only [putL, setL, evL, getL]
    refine HL_cons rfl ?_
    refine o_assign ?_
    try dsimp only [putL, setL, evL, getL]
    refine HL_nil ?_
    refine hK2 _ _ ?_
    refine HT_ret ?_
    exact hQr _ _ [.bool (decide ((p1.length : Int) > (IntKind.i64.wrap (1048576 - (p0.length : Int)))))] ⟨rfl, trivial⟩ (retH (fun r => laws_big.post sb s F0 r _ _) (show some _ = some r from H) ⟨rfl, hH⟩)
def spec_l1Cur_next.f (p0_0 : List (Int)) (p0_1 : Int) (p0_2 : Int) : Option (Int × Int × Int) := (if (decide (p0_1 < (p0_0.length : Int))) = true then ((rd? p0_0 p0_1).bind fun u10 => some (IntKind.i64.wrap u10)) else (some 0)).bind fun (o : Int) => match o with | x7 => (if (decide ((IntKind.i64.wrap (p0_1 + 1)) ≤ (p0_0.length : Int))) = true then (some (x7, (IntKind.i64.wrap (p0_1 + 1)), (IntKind.u64.wrap ((IntKind.u64.wrap ((IntKind.u64.wrap (p0_2 * 6364136223846793005)) + (IntKind.u64.wrap x7))) + 1442695040888963407)))) else ((shrK? .u64 (IntKind.u64.wrap ((IntKind.u64.wrap ((IntKind.u64.wrap (p0_2 * 6364136223846793005)) + (IntKind.u64.wrap x7))) + 1442695040888963407)) 40).bind fun u21 => some ((IntKind.i64.wrap (bits .and .u64 u21 255)), (IntKind.i64.wrap (p0_1 + 1)), (IntKind.u64.wrap ((IntKind.u64.wrap ((IntKind.u64.wrap (p0_2 * 6364136223846793005)) + (IntKind.u64.wrap x7))) + 1442695040888963407)))))
def spec_l1Cur_next.post (sb s : St) (F0 : Fp) (bp0 : Nat) (A0_0p : Option Addr) (c0_0p : Nat) (p0_0 : List (Int)) (r : Int × Int × Int) : Value → St → Prop := fun v s' => v = .int .i64 r.1 ∧ Hp sb s F0 s' [Ck.ov bp0 [.slice A0_0p p0_0.length c0_0p, .int .i64 r.2.1, .int .u64 r.2.2] 113]
set_option maxRecDepth 100000 in
set_option maxHeartbeats 4000000 in
theorem spec_l1Cur_next.ok (sb s : St) (F0 : Fp) (bp0 : Nat) (A0_0p : Option Addr) (c0_0p : Nat) (p0_0 : List (Int)) (p0_1 : Int) (p0_2 : Int) (HRp0_0 : Rd (Kd.int .u8) sb A0_0p c0_0p p0_0) (hH : Hp sb s F0 s [Ck.ov bp0 [.slice A0_0p p0_0.length c0_0p, .int .i64 p0_1, .int .u64 p0_2] 113]) (r : Int × Int × Int) (H : spec_l1Cur_next.f p0_0 p0_1 p0_2 = some r) : GCall Try.prog 183 #[.pointer (some ⟨bp0, 0, none⟩)] s (spec_l1Cur_next.post sb s F0 bp0 A0_0p c0_0p p0_0 r) := by
  refine GCall_ofk [.tmp 2] [.pointer (some ⟨bp0, 0, none⟩), undef, undef, undef, undef, undef, undef, undef, undef, undef, undef, undef, undef, undef, undef, undef, undef, undef, undef, undef, undef, undef, undef, undef, undef, undef, undef, undef, undef, undef, undef, undef, undef, undef, undef, undef, undef, undef, undef, undef, undef, undef, undef, undef, undef, undef, undef, undef, undef, undef, undef, undef, undef, undef, undef, undef, undef, undef, undef, undef, undef, undef] Try.func183 rfl rfl rfl ?_
  intro w Q hQr hQn hQp
  replace H := topE H
  unfold spec_l1Cur_next.f at H
  refine HT_seq_k ?_
  intro K1 hK1
  refine HT_region ?_
  refine HL_cons rfl ?_
  refine o_assign ?_
  try dsimp only [putL, setL, evL, getL]
  refine HL_nil ?_
  refine hK1 _ _ ?_
  refine HT_seq_k ?_
  intro K2 hK2
  refine HT_region ?_
  refine HL_cons rfl ?_
  refine o_assign ?_
  try dsimp only [putL, setL, evL, getL]
  refine HL_nil ?_
  refine hK2 _ _ ?_
  refine joinH H fun G3 hG3 H => ?_
  refine HT_joinK (fun l' s' => ∃ (x7 : Int), G3 x7 = some r ∧ l' = [.pointer (some ⟨bp0, 0, none⟩), undef, .int .i64 0, .int .i64 x7, getL l' 4, getL l' 5, getL l' 6, getL l' 7, getL l' 8, getL l' 9, getL l' 10, getL l' 11, getL l' 12, getL l' 13, getL l' 14, getL l' 15, getL l' 16, getL l' 17, getL l' 18, getL l' 19, getL l' 20, getL l' 21, getL l' 22, getL l' 23, getL l' 24, undef, undef, undef, undef, undef, undef, undef, undef, undef, undef, undef, undef, undef, undef, undef, undef, undef, undef, undef, undef, undef, undef, undef, undef, undef, undef, undef, undef, undef, undef, undef, undef, undef, undef, undef, undef, undef] ∧ Hp sb s F0 s' [Ck.ov bp0 [.slice A0_0p p0_0.length c0_0p, .int .i64 p0_1, .int .u64 p0_2] 113]) ?_ ?_
  · intro K3 hK3
    refine HT_seq_k ?_
    intro K8 hK8
    refine HX_draw hMix ?_
    refine HX_lim (R := fun _ => True) (k := 0) (fun s' => Gro s s') 11 ?_
    have hR := Gro.refl s
    have hH0 := hH
    refine HK_readP 0 (v := .pointer (some ⟨bp0, 0, none⟩)) rfl (by kernel_rfl) (fun c l s h => hQp c l s h) rfl (fun s' K hK => ?_) rfl rfl (fun _ => hR) ?_
    · refine o_move ?_
      exact hK
    try dsimp only [putL, setL, evL, getL]
    refine HK_readP 1 (v := .pointer (some ⟨bp0, 0, none⟩)) rfl (by kernel_rfl) (fun c l s h => hQp c l s h) rfl (fun s' K hK => ?_) rfl rfl (fun _ => hR) ?_
    · refine o_nilck rfl ?_
      exact hK
    try dsimp only [putL, setL, evL, getL]
    refine HK_readP 2 (v := .pointer (some ⟨bp0, 0 + 1, none⟩)) rfl (by kernel_rfl) (fun c l s h => hQp c l s h) rfl (fun s' K hK => ?_) rfl rfl (fun _ => hR) ?_
    · refine o_faddr' (ft := 3) (off := 1) rfl Try.underlying113 rfl tI3 (by decide) ?_
      exact hK
    try dsimp only [putL, setL, evL, getL]
    refine HK_read 3 (v := .int .i64 p0_1) rfl (by kernel_rfl) (fun c l s h => hQp c l s h) rfl (fun s' hR' K hK => ?_) rfl rfl hR ?_
    · refine o_load' rfl Try.underlying3 rfl (has_gro hR' (hH0.hasv 0 rfl rfl)) ?_
      exact hK
    try dsimp only [putL, setL, evL, getL]
    refine HK_readP 4 (v := .pointer (some ⟨bp0, 0, none⟩)) rfl (by kernel_rfl) (fun c l s h => hQp c l s h) rfl (fun s' K hK => ?_) rfl rfl (fun _ => hR) ?_
    · refine o_move ?_
      exact hK
    try dsimp only [putL, setL, evL, getL]
    refine HK_readP 5 (v := .pointer (some ⟨bp0, 0, none⟩)) rfl (by kernel_rfl) (fun c l s h => hQp c l s h) rfl (fun s' K hK => ?_) rfl rfl (fun _ => hR) ?_
    · refine o_nilck rfl ?_
      exact hK
    try dsimp only [putL, setL, evL, getL]
    refine HK_readP 6 (v := .pointer (some ⟨bp0, 0 + 0, none⟩)) rfl (by kernel_rfl) (fun c l s h => hQp c l s h) rfl (fun s' K hK => ?_) rfl rfl (fun _ => hR) ?_
    · refine o_faddr' (ft := 22) (off := 0) rfl Try.underlying113 rfl tI22 (by decide) ?_
      exact hK
    try dsimp only [putL, setL, evL, getL]
    refine HK_read 7 (v := .slice A0_0p p0_0.length c0_0p) rfl (by kernel_rfl) (fun c l s h => hQp c l s h) rfl (fun s' hR' K hK => ?_) rfl rfl hR ?_
    · refine o_load' rfl Try.underlying22 rfl (has_gro hR' (hH0.hasv 0 rfl rfl)) ?_
      exact hK
    try dsimp only [putL, setL, evL, getL]
    refine HK_readP 8 (v := .int .i64 (p0_0.length : Int)) rfl (by kernel_rfl) (fun c l s h => hQp c l s h) rfl (fun s' K hK => ?_) rfl rfl (fun _ => hR) ?_
    · refine o_len rfl Try.underlying22 ?_
      exact hK
    try dsimp only [putL, setL, evL, getL]
    refine HK_readP 9 (v := .bool (decide (p0_1 < (p0_0.length : Int)))) rfl (by kernel_rfl) (fun c l s h => hQp c l s h) rfl (fun s' K hK => ?_) rfl rfl (fun _ => hR) ?_
    · refine o_bin rfl rfl rfl ?_
      exact hK
    try dsimp only [putL, setL, evL, getL]
    refine HK_done (fun _ => hR) (by kernel_rfl) ?_
    refine hK8 _ _ ?_
    rcases Bool.eq_false_or_eq_true (decide (p0_1 < (p0_0.length : Int))) with hb9 | hb9
    · replace H := iteT hb9 H
      refine HT_true (congrArg Value.bool hb9) ?_
      refine HX_draw hMix ?_
      refine HX_lim (R := fun _ => True) (k := 0) (fun s' => Gro s s') 13 ?_
      have hR := Gro.refl s
      have hH0 := hH
      refine HK_readP 0 (v := .pointer (some ⟨bp0, 0, none⟩)) rfl (by kernel_rfl) (fun c l s h => hQp c l s h) rfl (fun s' K hK => ?_) rfl rfl (fun _ => hR) ?_
      · refine o_move ?_
        exact hK
      try dsimp only [putL, setL, evL, getL]
      refine HK_readP 1 (v := .pointer (some ⟨bp0, 0, none⟩)) rfl (by kernel_rfl) (fun c l s h => hQp c l s h) rfl (fun s' K hK => ?_) rfl rfl (fun _ => hR) ?_
      · refine o_nilck rfl ?_
        exact hK
      try dsimp only [putL, setL, evL, getL]
      refine HK_readP 2 (v := .pointer (some ⟨bp0, 0 + 0, none⟩)) rfl (by kernel_rfl) (fun c l s h => hQp c l s h) rfl (fun s' K hK => ?_) rfl rfl (fun _ => hR) ?_
      · refine o_faddr' (ft := 22) (off := 0) rfl Try.underlying113 rfl tI22 (by decide) ?_
        exact hK
      try dsimp only [putL, setL, evL, getL]
      refine HK_read 3 (v := .slice A0_0p p0_0.length c0_0p) rfl (by kernel_rfl) (fun c l s h => hQp c l s h) rfl (fun s' hR' K hK => ?_) rfl rfl hR ?_
      · refine o_load' rfl Try.underlying22 rfl (has_gro hR' (hH0.hasv 0 rfl rfl)) ?_
        exact hK
      try dsimp only [putL, setL, evL, getL]
      refine HK_readP 4 (v := .pointer (some ⟨bp0, 0, none⟩)) rfl (by kernel_rfl) (fun c l s h => hQp c l s h) rfl (fun s' K hK => ?_) rfl rfl (fun _ => hR) ?_
      · refine o_move ?_
        exact hK
      try dsimp only [putL, setL, evL, getL]
      refine HK_readP 5 (v := .pointer (some ⟨bp0, 0, none⟩)) rfl (by kernel_rfl) (fun c l s h => hQp c l s h) rfl (fun s' K hK => ?_) rfl rfl (fun _ => hR) ?_
      · refine o_nilck rfl ?_
        exact hK
      try dsimp only [putL, setL, evL, getL]
      refine HK_readP 6 (v := .pointer (some ⟨bp0, 0 + 1, none⟩)) rfl (by kernel_rfl) (fun c l s h => hQp c l s h) rfl (fun s' K hK => ?_) rfl rfl (fun _ => hR) ?_
      · refine o_faddr' (ft := 3) (off := 1) rfl Try.underlying113 rfl tI3 (by decide) ?_
        exact hK
      try dsimp only [putL, setL, evL, getL]
      refine HK_read 7 (v := .int .i64 p0_1) rfl (by kernel_rfl) (fun c l s h => hQp c l s h) rfl (fun s' hR' K hK => ?_) rfl rfl hR ?_
      · refine o_load' rfl Try.underlying3 rfl (has_gro hR' (hH0.hasv 0 rfl rfl)) ?_
        exact hK
      try dsimp only [putL, setL, evL, getL]
      replace H := headE H
      obtain ⟨u10, hu10, H⟩ := H
      obtain ⟨b10, o10, cs10, hr10, hh10, hel10⟩ := Rd.elb HRp0_0 hu10
      obtain rfl := hr10
      refine HK_readP 8 (v := .pointer (some ⟨b10, o10, none⟩)) rfl (by kernel_rfl) (fun c l s h => hQp c l s h) rfl (fun s' K hK => ?_) rfl rfl (fun _ => hR) ?_
      · refine hel10 s' rfl rfl Try.underlying22 tI5 ?_
        exact hK
      try dsimp only [putL, setL, evL, getL]
      refine HK_read 9 (v := .int .u8 u10) rfl (by kernel_rfl) (fun c l s h => hQp c l s h) rfl (fun s' hR' K hK => ?_) rfl rfl hR ?_
      · refine o_load' rfl Try.underlying5 rfl ((hh10 (hH0.bs.mono.trans hR'.mono)) 0 _ rfl) ?_
        exact hK
      try dsimp only [putL, setL, evL, getL]
      refine HK_readP 10 (v := .int .i64 (IntKind.i64.wrap u10)) rfl (by kernel_rfl) (fun c l s h => hQp c l s h) rfl (fun s' K hK => ?_) rfl rfl (fun _ => hR) ?_
      · refine o_conv rfl Try.underlying5 Try.underlying3 ?_
        exact hK
      try dsimp only [putL, setL, evL, getL]
      refine HK_more [11] (by kernel_rfl) rfl (fun _ => hR) ⟨⟨_, rfl, Or.inl ⟨rfl, ?_⟩⟩, trivial⟩
      skip
      refine o_assign ?_
      try dsimp only [putL, setL, evL, getL]
      refine HK_done (fun _ => hR) (by kernel_rfl) ?_
      exact hK3 _ _ ⟨IntKind.i64.wrap u10, H, rfl, hH⟩
    · replace H := iteF hb9 H
      refine HT_false (congrArg Value.bool hb9) ?_
      refine HT_skip ?_
      exact hK3 _ _ ⟨0, H, rfl, hH⟩
  · rintro l' s11 ⟨x7, H, hl, hH⟩
    generalize getL l' 4 = j4, getL l' 5 = j5, getL l' 6 = j6, getL l' 7 = j7, getL l' 8 = j8, getL l' 9 = j9, getL l' 10 = j10, getL l' 11 = j11, getL l' 12 = j12, getL l' 13 = j13, getL l' 14 = j14, getL l' 15 = j15, getL l' 16 = j16, getL l' 17 = j17, getL l' 18 = j18, getL l' 19 = j19, getL l' 20 = j20, getL l' 21 = j21, getL l' 22 = j22, getL l' 23 = j23, getL l' 24 = j24 at hl
    subst hl
    replace H := hG3 _ H
    try dsimp only at H
    refine HT_seq_k ?_
    intro K12 hK12
    refine HT_region ?_
    refine HL_cons rfl ?_
    refine o_move ?_
    try dsimp only [putL, setL, evL, getL]
    refine HL_cons rfl ?_
    refine o_nilck rfl ?_
    try dsimp only [putL, setL, evL, getL]
    refine HL_cons rfl ?_
    refine o_faddr' (ft := 3) (off := 1) rfl Try.underlying113 rfl tI3 (by decide) ?_
    try dsimp only [putL, setL, evL, getL]
    refine HL_cons rfl ?_
    refine o_load' rfl Try.underlying3 rfl (hH.hasv 0 rfl rfl) ?_
    try dsimp only [putL, setL, evL, getL]
    refine HL_cons rfl ?_
    refine o_bin rfl rfl rfl ?_
    try dsimp only [putL, setL, evL, getL]
    refine HL_cons rfl ?_
    refine o_nilck rfl ?_
    try dsimp only [putL, setL, evL, getL]
    refine HL_cons rfl ?_
    refine o_faddr' (ft := 3) (off := 1) rfl Try.underlying113 rfl tI3 (by decide) ?_
    try dsimp only [putL, setL, evL, getL]
    refine HL_cons rfl ?_
    refine o_stvH (vs := [.int .i64 (IntKind.i64.wrap (p0_1 + 1))]) (us' := [.slice A0_0p p0_0.length c0_0p, .int .i64 (IntKind.i64.wrap (p0_1 + 1)), .int .u64 p0_2]) hH 0 rfl rfl rfl rfl rfl tI3 rfl (List.cons_ne_nil _ _) rfl rfl rfl ?_
    intro s13 hH'
    replace hH : Hp sb s F0 s13 [Ck.ov bp0 [.slice A0_0p p0_0.length c0_0p, .int .i64 (IntKind.i64.wrap (p0_1 + 1)), .int .u64 p0_2] 113] := hH'
    clear hH'
    try dsimp only [putL, setL, evL, getL]
    refine HL_nil ?_
    refine hK12 _ _ ?_
    refine HT_seq_k ?_
    intro K14 hK14
    refine HT_region ?_
    refine HL_cons rfl ?_
    refine o_move ?_
    try dsimp only [putL, setL, evL, getL]
    refine HL_cons rfl ?_
    refine o_move ?_
    try dsimp only [putL, setL, evL, getL]
    refine HL_cons rfl ?_
    refine o_nilck rfl ?_
    try dsimp only [putL, setL, evL, getL]
    refine HL_cons rfl ?_
    refine o_faddr' (ft := 111) (off := 2) rfl Try.underlying113 rfl tI111 (by decide) ?_
    try dsimp only [putL, setL, evL, getL]
    refine HL_cons rfl ?_
    refine o_load' rfl Try.underlying111 rfl (hH.hasv 0 rfl rfl) ?_
    try dsimp only [putL, setL, evL, getL]
    refine HL_cons rfl ?_
    refine o_bin rfl rfl rfl ?_
    try dsimp only [putL, setL, evL, getL]
    refine HL_cons rfl ?_
    refine o_move ?_
    try dsimp only [putL, setL, evL, getL]
    refine HL_cons rfl ?_
    refine o_conv rfl Try.underlying3 Try.underlying111 ?_
    try dsimp only [putL, setL, evL, getL]
    refine HL_cons rfl ?_
    refine o_bin rfl rfl rfl ?_
    try dsimp only [putL, setL, evL, getL]
    refine HL_cons rfl ?_
    refine o_bin rfl rfl rfl ?_
    try dsimp only [putL, setL, evL, getL]
    refine HL_cons rfl ?_
    refine o_nilck rfl ?_
    try dsimp only [putL, setL, evL, getL]
    refine HL_cons rfl ?_
    refine o_faddr' (ft := 111) (off := 2) rfl Try.underlying113 rfl tI111 (by decide) ?_
    try dsimp only [putL, setL, evL, getL]
    refine HL_cons rfl ?_
    refine o_stvH (vs := [.int .u64 (IntKind.u64.wrap ((IntKind.u64.wrap ((IntKind.u64.wrap (p0_2 * 6364136223846793005)) + (IntKind.u64.wrap x7))) + 1442695040888963407))]) (us' := [.slice A0_0p p0_0.length c0_0p, .int .i64 (IntKind.i64.wrap (p0_1 + 1)), .int .u64 (IntKind.u64.wrap ((IntKind.u64.wrap ((IntKind.u64.wrap (p0_2 * 6364136223846793005)) + (IntKind.u64.wrap x7))) + 1442695040888963407))]) hH 0 rfl rfl rfl rfl rfl tI111 rfl (List.cons_ne_nil _ _) rfl rfl rfl ?_
    intro s15 hH'
    replace hH : Hp sb s F0 s15 [Ck.ov bp0 [.slice A0_0p p0_0.length c0_0p, .int .i64 (IntKind.i64.wrap (p0_1 + 1)), .int .u64 (IntKind.u64.wrap ((IntKind.u64.wrap ((IntKind.u64.wrap (p0_2 * 6364136223846793005)) + (IntKind.u64.wrap x7))) + 1442695040888963407))] 113] := hH'
    clear hH'
    try dsimp only [putL, setL, evL, getL]
    refine HL_nil ?_
    refine hK14 _ _ ?_
    refine HT_seq_k ?_
    intro K16 hK16
    refine HT_seq_k ?_
    intro K17 hK17
    refine HX_draw hMix ?_
    refine HX_lim (R := fun _ => True) (k := 0) (fun s' => Gro s15 s') 11 ?_
    have hR := Gro.refl s15
    have hH0 := hH
    refine HK_readP 0 (v := .pointer (some ⟨bp0, 0, none⟩)) rfl (by kernel_rfl) (fun c l s h => hQp c l s h) rfl (fun s' K hK => ?_) rfl rfl (fun _ => hR) ?_
    · refine o_move ?_
      exact hK
    try dsimp only [putL, setL, evL, getL]
    refine HK_readP 1 (v := .pointer (some ⟨bp0, 0, none⟩)) rfl (by kernel_rfl) (fun c l s h => hQp c l s h) rfl (fun s' K hK => ?_) rfl rfl (fun _ => hR) ?_
    · refine o_nilck rfl ?_
      exact hK
    try dsimp only [putL, setL, evL, getL]
    refine HK_readP 2 (v := .pointer (some ⟨bp0, 0 + 1, none⟩)) rfl (by kernel_rfl) (fun c l s h => hQp c l s h) rfl (fun s' K hK => ?_) rfl rfl (fun _ => hR) ?_
    · refine o_faddr' (ft := 3) (off := 1) rfl Try.underlying113 rfl tI3 (by decide) ?_
      exact hK
    try dsimp only [putL, setL, evL, getL]
    refine HK_read 3 (v := .int .i64 (IntKind.i64.wrap (p0_1 + 1))) rfl (by kernel_rfl) (fun c l s h => hQp c l s h) rfl (fun s' hR' K hK => ?_) rfl rfl hR ?_
    · refine o_load' rfl Try.underlying3 rfl (has_gro hR' (hH0.hasv 0 rfl rfl)) ?_
      exact hK
    try dsimp only [putL, setL, evL, getL]
    refine HK_readP 4 (v := .pointer (some ⟨bp0, 0, none⟩)) rfl (by kernel_rfl) (fun c l s h => hQp c l s h) rfl (fun s' K hK => ?_) rfl rfl (fun _ => hR) ?_
    · refine o_move ?_
      exact hK
    try dsimp only [putL, setL, evL, getL]
    refine HK_readP 5 (v := .pointer (some ⟨bp0, 0, none⟩)) rfl (by kernel_rfl) (fun c l s h => hQp c l s h) rfl (fun s' K hK => ?_) rfl rfl (fun _ => hR) ?_
    · refine o_nilck rfl ?_
      exact hK
    try dsimp only [putL, setL, evL, getL]
    refine HK_readP 6 (v := .pointer (some ⟨bp0, 0 + 0, none⟩)) rfl (by kernel_rfl) (fun c l s h => hQp c l s h) rfl (fun s' K hK => ?_) rfl rfl (fun _ => hR) ?_
    · refine o_faddr' (ft := 22) (off := 0) rfl Try.underlying113 rfl tI22 (by decide) ?_
      exact hK
    try dsimp only [putL, setL, evL, getL]
    refine HK_read 7 (v := .slice A0_0p p0_0.length c0_0p) rfl (by kernel_rfl) (fun c l s h => hQp c l s h) rfl (fun s' hR' K hK => ?_) rfl rfl hR ?_
    · refine o_load' rfl Try.underlying22 rfl (has_gro hR' (hH0.hasv 0 rfl rfl)) ?_
      exact hK
    try dsimp only [putL, setL, evL, getL]
    refine HK_readP 8 (v := .int .i64 (p0_0.length : Int)) rfl (by kernel_rfl) (fun c l s h => hQp c l s h) rfl (fun s' K hK => ?_) rfl rfl (fun _ => hR) ?_
    · refine o_len rfl Try.underlying22 ?_
      exact hK
    try dsimp only [putL, setL, evL, getL]
    refine HK_readP 9 (v := .bool (decide ((IntKind.i64.wrap (p0_1 + 1)) ≤ (p0_0.length : Int)))) rfl (by kernel_rfl) (fun c l s h => hQp c l s h) rfl (fun s' K hK => ?_) rfl rfl (fun _ => hR) ?_
    · refine o_bin rfl rfl rfl ?_
      exact hK
    try dsimp only [putL, setL, evL, getL]
    refine HK_done (fun _ => hR) (by kernel_rfl) ?_
    refine hK17 _ _ ?_
    rcases Bool.eq_false_or_eq_true (decide ((IntKind.i64.wrap (p0_1 + 1)) ≤ (p0_0.length : Int))) with hb18 | hb18
    · replace H := iteT hb18 H
      refine HT_true (congrArg Value.bool hb18) ?_
      refine HT_seq_k ?_
      intro K19 hK19
      refine HT_region ?_
      refine HL_cons rfl ?_
      refine o_move ?_
      try dsimp only [putL, setL, evL, getL]
      refine HL_cons rfl ?_
      refine o_assign ?_
      try dsimp only [putL, setL, evL, getL]
      refine HL_nil ?_
      refine hK19 _ _ ?_
      refine HT_ret ?_
      exact hQr _ _ [.int .i64 x7] ⟨rfl, trivial⟩ (retH (fun r => spec_l1Cur_next.post sb s F0 bp0 A0_0p c0_0p p0_0 r _ _) (show some _ = some r from H) ⟨rfl, hH⟩)
    · replace H := iteF hb18 H
      refine HT_false (congrArg Value.bool hb18) ?_
      refine HT_skip ?_
      refine hK16 _ _ ?_
      refine HT_seq_k ?_
      intro K20 hK20
      refine HT_region ?_
      refine HL_cons rfl ?_
      refine o_move ?_
      try dsimp only [putL, setL, evL, getL]
      refine HL_cons rfl ?_
      refine o_nilck rfl ?_
      try dsimp only [putL, setL, evL, getL]
      refine HL_cons rfl ?_
      refine o_faddr' (ft := 111) (off := 2) rfl Try.underlying113 rfl tI111 (by decide) ?_
      try dsimp only [putL, setL, evL, getL]
      refine HL_cons rfl ?_
      refine o_load' rfl Try.underlying111 rfl (hH.hasv 0 rfl rfl) ?_
      try dsimp only [putL, setL, evL, getL]
      replace H := headE H
      obtain ⟨u21, hu21, H⟩ := H
      refine HL_cons rfl ?_
      refine o_shrK rfl rfl hu21 ?_
      try dsimp only [putL, setL, evL, getL]
      refine HL_cons rfl ?_
      refine o_bin rfl rfl rfl ?_
      try dsimp only [putL, setL, evL, getL]
      refine HL_cons rfl ?_
      refine o_conv rfl Try.underlying111 Try.underlying3 ?_
      try dsimp only [putL, setL, evL, getL]
      refine HL_cons rfl ?_
      refine o_assign ?_
      try dsimp only [putL, setL, evL, getL]
      refine HL_nil ?_
      refine hK20 _ _ ?_
      refine HT_ret ?_
      exact hQr _ _ [.int .i64 (IntKind.i64.wrap (bits .and .u64 u21 255))] ⟨rfl, trivial⟩ (retH (fun r => spec_l1Cur_next.post sb s F0 bp0 A0_0p c0_0p p0_0 r _ _) (show some _ = some r from H) ⟨rfl, hH⟩)
def spec_l1Cur_pick.f (p0_0 : List (Int)) (p0_1 : Int) (p0_2 : Int) (p1 : Int) : Option (Int × Int × Int) := if (decide (p1 ≤ 1)) = true then (some (0, p0_1, p0_2)) else ((spec_l1Cur_next.f p0_0 p0_1 p0_2).bind fun u7 => (if (decide (p1 > 200)) = true then ((spec_l1Cur_next.f p0_0 u7.2.1 u7.2.2).bind fun u17 => some ((IntKind.i64.wrap ((IntKind.i64.wrap (u7.1 * 256)) + u17.1)), u17.2.1, u17.2.2)) else (some (u7.1, u7.2.1, u7.2.2))).bind fun (o : Int × Int × Int) => match o with | (x12, x13, x14) => ((rem? x12 p1).bind fun u20 => some (u20, x13, x14)))
def spec_l1Cur_pick.post (sb s : St) (F0 : Fp) (bp0 : Nat) (A0_0p : Option Addr) (c0_0p : Nat) (p0_0 : List (Int)) (r : Int × Int × Int) : Value → St → Prop := fun v s' => v = .int .i64 r.1 ∧ Hp sb s F0 s' [Ck.ov bp0 [.slice A0_0p p0_0.length c0_0p, .int .i64 r.2.1, .int .u64 r.2.2] 113]
set_option maxRecDepth 100000 in
set_option maxHeartbeats 4000000 in
theorem spec_l1Cur_pick.ok (sb s : St) (F0 : Fp) (bp0 : Nat) (A0_0p : Option Addr) (c0_0p : Nat) (p0_0 : List (Int)) (p0_1 : Int) (p0_2 : Int) (p1 : Int) (HRp0_0 : Rd (Kd.int .u8) sb A0_0p c0_0p p0_0) (hH : Hp sb s F0 s [Ck.ov bp0 [.slice A0_0p p0_0.length c0_0p, .int .i64 p0_1, .int .u64 p0_2] 113]) (r : Int × Int × Int) (H : spec_l1Cur_pick.f p0_0 p0_1 p0_2 p1 = some r) : GCall Try.prog 112 #[.pointer (some ⟨bp0, 0, none⟩), .int .i64 p1] s (spec_l1Cur_pick.post sb s F0 bp0 A0_0p c0_0p p0_0 r) := by
  refine GCall_ofk [.tmp 4] [.pointer (some ⟨bp0, 0, none⟩), .int .i64 p1, undef, undef, undef, undef, undef, undef, undef, undef, undef, undef, undef, undef, undef, undef, undef, undef, undef, undef] Try.func112 rfl rfl rfl ?_
  intro w Q hQr hQn hQp
  replace H := topE H
  unfold spec_l1Cur_pick.f at H
  refine HT_seq_k ?_
  intro K1 hK1
  refine HT_region ?_
  refine HL_cons rfl ?_
  refine o_assign ?_
  try dsimp only [putL, setL, evL, getL]
  refine HL_nil ?_
  refine hK1 _ _ ?_
  refine HT_seq_k ?_
  intro K2 hK2
  refine HT_seq_k ?_
  intro K3 hK3
  refine HT_region ?_
  refine HL_cons rfl ?_
  refine o_move ?_
  try dsimp only [putL, setL, evL, getL]
  refine HL_cons rfl ?_
  refine o_bin rfl rfl rfl ?_
  try dsimp only [putL, setL, evL, getL]
  refine HL_nil ?_
  refine hK3 _ _ ?_
  rcases Bool.eq_false_or_eq_true (decide (p1 ≤ 1)) with hb4 | hb4
  · replace H := iteT hb4 H
    refine HT_true (congrArg Value.bool hb4) ?_
    refine HT_seq_k ?_
    intro K5 hK5
    refine HT_region ?_
    refine HL_cons rfl ?_
    refine o_assign ?_
    try dsimp only [putL, setL, evL, getL]
    refine HL_nil ?_
    refine hK5 _ _ ?_
    refine HT_ret ?_
    exact hQr _ _ [.int .i64 0] ⟨rfl, trivial⟩ (retH (fun r => spec_l1Cur_pick.post sb s F0 bp0 A0_0p c0_0p p0_0 r _ _) (show some _ = some r from H) ⟨rfl, hH⟩)
  · replace H := iteF hb4 H
    refine HT_false (congrArg Value.bool hb4) ?_
    refine HT_skip ?_
    refine hK2 _ _ ?_
    refine HT_seq_k ?_
    intro K6 hK6
    refine HT_region ?_
    refine HL_cons rfl ?_
    refine o_move ?_
    try dsimp only [putL, setL, evL, getL]
    replace H := headE H
    obtain ⟨u7, hu7, H⟩ := H
    obtain ⟨F1, hA, hB⟩ := hH.take [0] (by decide)
    dsimp only [addC, setC, rmC, selC, getC] at hA
    refine HL_cons rfl ?_
    refine o_call (args := #[.pointer (some ⟨bp0, 0, none⟩)]) Try.func183 rfl rfl rfl (spec_l1Cur_next.ok sb s F1 bp0 A0_0p c0_0p p0_0 p0_1 p0_2 HRp0_0 hA _ hu7) ?_
    rintro _ s7 ⟨rfl, hD⟩
    replace hH := hB _ _ _ (Up.refl _ _ _) hD
    clear hD hA hB
    dsimp only [addC, setC, rmC, selC, getC] at hH
    try dsimp only [putL, setL, evL, getL]
    refine HL_cons rfl ?_
    refine o_assign ?_
    try dsimp only [putL, setL, evL, getL]
    refine HL_nil ?_
    refine hK6 _ _ ?_
    refine joinH H fun G8 hG8 H => ?_
    refine HT_joinK (fun l' s' => ∃ (x12 : Int) (x13 : Int) (x14 : Int), G8 (x12, x13, x14) = some r ∧ l' = [.pointer (some ⟨bp0, 0, none⟩), .int .i64 p1, undef, undef, .int .i64 0, .int .i64 x12, .int .i64 p1, .bool (decide (p1 ≤ 1)), .pointer (some ⟨bp0, 0, none⟩), .int .i64 u7.1, getL l' 10, getL l' 11, getL l' 12, getL l' 13, getL l' 14, getL l' 15, getL l' 16, undef, undef, undef] ∧ Hp sb s F0 s' [Ck.ov bp0 [.slice A0_0p p0_0.length c0_0p, .int .i64 x13, .int .u64 x14] 113]) ?_ ?_
    · intro K8 hK8
      refine HT_seq_k ?_
      intro K15 hK15
      refine HT_region ?_
      refine HL_cons rfl ?_
      refine o_move ?_
      try dsimp only [putL, setL, evL, getL]
      refine HL_cons rfl ?_
      refine o_bin rfl rfl rfl ?_
      try dsimp only [putL, setL, evL, getL]
      refine HL_nil ?_
      refine hK15 _ _ ?_
      rcases Bool.eq_false_or_eq_true (decide (p1 > 200)) with hb16 | hb16
      · replace H := iteT hb16 H
        refine HT_true (congrArg Value.bool hb16) ?_
        refine HT_region ?_
        refine HL_cons rfl ?_
        refine o_move ?_
        try dsimp only [putL, setL, evL, getL]
        refine HL_cons rfl ?_
        refine o_bin rfl rfl rfl ?_
        try dsimp only [putL, setL, evL, getL]
        refine HL_cons rfl ?_
        refine o_move ?_
        try dsimp only [putL, setL, evL, getL]
        replace H := headE H
        obtain ⟨u17, hu17, H⟩ := H
        obtain ⟨F1, hA, hB⟩ := hH.take [1] (by decide)
        dsimp only [addC, setC, rmC, selC, getC] at hA
        refine HL_cons rfl ?_
        refine o_call (args := #[.pointer (some ⟨bp0, 0, none⟩)]) Try.func183 rfl rfl rfl (spec_l1Cur_next.ok sb s7 F1 bp0 A0_0p c0_0p p0_0 u7.2.1 u7.2.2 HRp0_0 hA _ hu17) ?_
        rintro _ s17 ⟨rfl, hD⟩
        replace hH := hB _ _ _ (Up.refl _ _ _) hD
        clear hD hA hB
        dsimp only [addC, setC, rmC, selC, getC] at hH
        try dsimp only [putL, setL, evL, getL]
        refine HL_cons rfl ?_
        refine o_bin rfl rfl rfl ?_
        try dsimp only [putL, setL, evL, getL]
        refine HL_cons rfl ?_
        refine o_assign ?_
        try dsimp only [putL, setL, evL, getL]
        refine HL_nil ?_
        exact hK8 _ _ ⟨IntKind.i64.wrap ((IntKind.i64.wrap (u7.1 * 256)) + u17.1), u17.2.1, u17.2.2, H, rfl, hH.sel [2] (by decide)⟩
      · replace H := iteF hb16 H
        refine HT_false (congrArg Value.bool hb16) ?_
        refine HT_skip ?_
        exact hK8 _ _ ⟨u7.1, u7.2.1, u7.2.2, H, rfl, hH.sel [1] (by decide)⟩
    · rintro l' s18 ⟨x12, x13, x14, H, hl, hH⟩
      generalize getL l' 10 = j10, getL l' 11 = j11, getL l' 12 = j12, getL l' 13 = j13, getL l' 14 = j14, getL l' 15 = j15, getL l' 16 = j16 at hl
      subst hl
      replace H := hG8 _ H
      try dsimp only at H
      refine HT_seq_k ?_
      intro K19 hK19
      refine HT_region ?_
      refine HL_cons rfl ?_
      refine o_move ?_
      try dsimp only [putL, setL, evL, getL]
      refine HL_cons rfl ?_
      refine o_move ?_
      try dsimp only [putL, setL, evL, getL]
      replace H := headE H
      obtain ⟨u20, hu20, H⟩ := H
      refine HL_cons rfl ?_
      refine o_rem' rfl rfl hu20 ?_
      try dsimp only [putL, setL, evL, getL]
      refine HL_cons rfl ?_
      refine o_assign ?_
      try dsimp only [putL, setL, evL, getL]
      refine HL_nil ?_
      refine hK19 _ _ ?_
      refine HT_ret ?_
      exact hQr _ _ [.int .i64 u20] ⟨rfl, trivial⟩ (retH (fun r => spec_l1Cur_pick.post sb s F0 bp0 A0_0p c0_0p p0_0 r _ _) (show some _ = some r from H) ⟨rfl, hH⟩)
def spec_l1Cur_among.f (p0_0 : List (Int)) (p0_1 : Int) (p0_2 : Int) (p1 : List (Int)) : Option (Int × Int × Int) := (spec_l1Cur_pick.f p0_0 p0_1 p0_2 (p1.length : Int)).bind fun u3 => (rd? p1 u3.1).bind fun u4 => some (u4, u3.2.1, u3.2.2)
def spec_l1Cur_among.post (sb s : St) (F0 : Fp) (bp0 : Nat) (A0_0p : Option Addr) (c0_0p : Nat) (p0_0 : List (Int)) (r : Int × Int × Int) : Value → St → Prop := fun v s' => v = .int .i64 r.1 ∧ Hp sb s F0 s' [Ck.ov bp0 [.slice A0_0p p0_0.length c0_0p, .int .i64 r.2.1, .int .u64 r.2.2] 113]
set_option maxRecDepth 100000 in
set_option maxHeartbeats 4000000 in
theorem spec_l1Cur_among.ok (sb s : St) (F0 : Fp) (bp0 : Nat) (A0_0p : Option Addr) (c0_0p : Nat) (p0_0 : List (Int)) (p0_1 : Int) (p0_2 : Int) (A1p : Option Addr) (c1p : Nat) (p1 : List (Int)) (HRp0_0 : Rd (Kd.int .u8) sb A0_0p c0_0p p0_0) (HRp1 : Rd KI sb A1p c1p p1) (hH : Hp sb s F0 s [Ck.ov bp0 [.slice A0_0p p0_0.length c0_0p, .int .i64 p0_1, .int .u64 p0_2] 113]) (r : Int × Int × Int) (H : spec_l1Cur_among.f p0_0 p0_1 p0_2 p1 = some r) : GCall Try.prog 104 #[.pointer (some ⟨bp0, 0, none⟩), .slice A1p p1.length c1p] s (spec_l1Cur_among.post sb s F0 bp0 A0_0p c0_0p p0_0 r) := by
  refine GCall_ofk [.tmp 4] [.pointer (some ⟨bp0, 0, none⟩), .slice A1p p1.length c1p, undef, undef, undef, undef, undef, undef, undef, undef, undef, undef] Try.func104 rfl rfl rfl ?_
  intro w Q hQr hQn hQp
  replace H := topE H
  unfold spec_l1Cur_among.f at H
  refine HT_seq_k ?_
  intro K1 hK1
  refine HT_region ?_
  refine HL_cons rfl ?_
  refine o_assign ?_
  try dsimp only [putL, setL, evL, getL]
  refine HL_nil ?_
  refine hK1 _ _ ?_
  refine HT_seq_k ?_
  intro K2 hK2
  refine HT_region ?_
  refine HL_cons rfl ?_
  refine o_move ?_
  try dsimp only [putL, setL, evL, getL]
  refine HL_cons rfl ?_
  refine o_move ?_
  try dsimp only [putL, setL, evL, getL]
  refine HL_cons rfl ?_
  refine o_move ?_
  try dsimp only [putL, setL, evL, getL]
  refine HL_cons rfl ?_
  refine o_len rfl Try.underlying24 ?_
  try dsimp only [putL, setL, evL, getL]
  replace H := headE H
  obtain ⟨u3, hu3, H⟩ := H
  obtain ⟨F1, hA, hB⟩ := hH.take [0] (by decide)
  dsimp only [addC, setC, rmC, selC, getC] at hA
  refine HL_cons rfl ?_
  refine o_call (args := #[.pointer (some ⟨bp0, 0, none⟩), .int .i64 (p1.length : Int)]) Try.func112 rfl rfl rfl (spec_l1Cur_pick.ok sb s F1 bp0 A0_0p c0_0p p0_0 p0_1 p0_2 (p1.length : Int) HRp0_0 hA _ hu3) ?_
  rintro _ s3 ⟨rfl, hD⟩
  replace hH := hB _ _ _ (Up.refl _ _ _) hD
  clear hD hA hB
  dsimp only [addC, setC, rmC, selC, getC] at hH
  try dsimp only [putL, setL, evL, getL]
  replace H := headE H
  obtain ⟨u4, hu4, H⟩ := H
  obtain ⟨b4, o4, cs4, hr4, hh4, hel4⟩ := Rd.elb HRp1 hu4
  obtain rfl := hr4
  refine HL_cons rfl ?_
  refine hel4 s3 rfl rfl Try.underlying24 tI3 ?_
  try dsimp only [putL, setL, evL, getL]
  refine HL_cons rfl ?_
  refine o_load' rfl Try.underlying3 rfl ((hh4 hH.bs.mono) 0 _ rfl) ?_
  try dsimp only [putL, setL, evL, getL]
  refine HL_cons rfl ?_
  refine o_assign ?_
  try dsimp only [putL, setL, evL, getL]
  refine HL_nil ?_
  refine hK2 _ _ ?_
  refine HT_ret ?_
  exact hQr _ _ [.int .i64 u4] ⟨rfl, trivial⟩ (retH (fun r => spec_l1Cur_among.post sb s F0 bp0 A0_0p c0_0p p0_0 r _ _) (show some _ = some r from H) ⟨rfl, hH.sel [1] (by decide)⟩)
def spec_l1Cur_small.l1 (p0_0 : List (Int)) : Nat → (List (Int)) → Int → Int → Int → Option ((List (Int)) × Int × Int)
  | 0, _, _, _, _ => none
  | kf + 1, x53, x54, x55, x56 => if (decide (x54 > 0)) = true then ((spec_l1Cur_among.f p0_0 x55 x56 [97, 98, 97, 98, 99, 12354]).bind fun u75 => (app? 17592186044416 x53 [u75.1]).bind fun x77 => spec_l1Cur_small.l1 p0_0 kf x77 (IntKind.i64.wrap (x54 - 1)) u75.2.1 u75.2.2) else (some (x53, x55, x56))
def spec_l1Cur_small.f (p0_0 : List (Int)) (p0_1 : Int) (p0_2 : Int) (p1 : Int) : Option ((List (Int)) × Int × Int) := (spec_l1Cur_pick.f p0_0 p0_1 p0_2 (IntKind.i64.wrap (p1 + 1))).bind fun u5 => (spec_l1Cur_small.l1 p0_0 (((u5.1) - (0)).toNat + 2) [] u5.1 u5.2.1 u5.2.2).bind fun (o : (List (Int)) × Int × Int) => match o with | (x41, x42, x43) => (some (x41, x42, x43))
def spec_l1Cur_small.post (sb s : St) (F0 : Fp) (bp0 : Nat) (A0_0p : Option Addr) (c0_0p : Nat) (p0_0 : List (Int)) (r : (List (Int)) × Int × Int) : Value → St → Prop := fun v s' => ∃ (A0 : Option Addr) (c0 : Nat), v = .slice A0 r.1.length c0 ∧ Hp sb s F0 s' [Ck.ol OI 3 A0 c0 r.1, Ck.ov bp0 [.slice A0_0p p0_0.length c0_0p, .int .i64 r.2.1, .int .u64 r.2.2] 113]
set_option maxRecDepth 100000 in
set_option maxHeartbeats 4000000 in
theorem spec_l1Cur_small.ok (sb s : St) (F0 : Fp) (bp0 : Nat) (A0_0p : Option Addr) (c0_0p : Nat) (p0_0 : List (Int)) (p0_1 : Int) (p0_2 : Int) (p1 : Int) (HRp0_0 : Rd (Kd.int .u8) sb A0_0p c0_0p p0_0) (hH : Hp sb s F0 s [Ck.ov bp0 [.slice A0_0p p0_0.length c0_0p, .int .i64 p0_1, .int .u64 p0_2] 113]) (r : (List (Int)) × Int × Int) (H : spec_l1Cur_small.f p0_0 p0_1 p0_2 p1 = some r) : GCall Try.prog 103 #[.pointer (some ⟨bp0, 0, none⟩), .int .i64 p1] s (spec_l1Cur_small.post sb s F0 bp0 A0_0p c0_0p p0_0 r) := by
  refine GCall_ofk [.tmp 4] [.pointer (some ⟨bp0, 0, none⟩), .int .i64 p1, undef, undef, undef, undef, undef, undef, undef, undef, undef, undef, undef, undef, undef, undef, undef, undef, undef, undef, undef, undef] Try.func103 rfl rfl rfl ?_
  intro w Q hQr hQn hQp
  replace H := topE H
  unfold spec_l1Cur_small.f at H
  refine HT_seq_k ?_
  intro K1 hK1
  refine HT_region ?_
  refine HL_cons rfl ?_
  refine o_assign ?_
  try dsimp only [putL, setL, evL, getL]
  refine HL_nil ?_
  refine hK1 _ _ ?_
  refine HT_seq_k ?_
  intro K2 hK2
  refine HT_region ?_
  refine HL_cons rfl ?_
  refine o_assign ?_
  try dsimp only [putL, setL, evL, getL]
  refine HL_nil ?_
  refine hK2 _ _ ?_
  refine HT_seq_k ?_
  intro K3 hK3
  refine HT_seq_k ?_
  intro K4 hK4
  refine HT_region ?_
  refine HL_cons rfl ?_
  refine o_move ?_
  try dsimp only [putL, setL, evL, getL]
  refine HL_cons rfl ?_
  refine o_move ?_
  try dsimp only [putL, setL, evL, getL]
  refine HL_cons rfl ?_
  refine o_bin rfl rfl rfl ?_
  try dsimp only [putL, setL, evL, getL]
  replace H := headE H
  obtain ⟨u5, hu5, H⟩ := H
  obtain ⟨F1, hA, hB⟩ := hH.take [0] (by decide)
  dsimp only [addC, setC, rmC, selC, getC] at hA
  refine HL_cons rfl ?_
  refine o_call (args := #[.pointer (some ⟨bp0, 0, none⟩), .int .i64 (IntKind.i64.wrap (p1 + 1))]) Try.func112 rfl rfl rfl (spec_l1Cur_pick.ok sb s F1 bp0 A0_0p c0_0p p0_0 p0_1 p0_2 (IntKind.i64.wrap (p1 + 1)) HRp0_0 hA _ hu5) ?_
  rintro _ s5 ⟨rfl, hD⟩
  replace hH := hB _ _ _ (Up.refl _ _ _) hD
  clear hD hA hB
  dsimp only [addC, setC, rmC, selC, getC] at hH
  try dsimp only [putL, setL, evL, getL]
  refine HL_cons rfl ?_
  refine o_assign ?_
  try dsimp only [putL, setL, evL, getL]
  refine HL_nil ?_
  refine hK4 _ _ ?_
  refine joinH H fun G6 hG6 H => ?_
  refine HT_toK (fun l' s' => ∃ (x41 : List (Int)) (A41 : Option Addr) (c41 : Nat) (x42 : Int) (x43 : Int), G6 (x41, x42, x43) = some r ∧ l' = [.pointer (some ⟨bp0, 0, none⟩), .int .i64 p1, undef, undef, .slice none 0 0, .slice A41 x41.length c41, getL l' 6, .pointer (some ⟨bp0, 0, none⟩), .int .i64 p1, .int .i64 (IntKind.i64.wrap (p1 + 1)), .int .i64 u5.1, getL l' 11, getL l' 12, getL l' 13, getL l' 14, getL l' 15, getL l' 16, getL l' 17, getL l' 18, getL l' 19, getL l' 20, undef] ∧ Hp sb s F0 s' [Ck.ol OI 3 A41 c41 x41, Ck.ov bp0 [.slice A0_0p p0_0.length c0_0p, .int .i64 x42, .int .u64 x43] 113]) ?_ ?_
  · intro K6 hK6
    refine HT_block ?_
    refine HT_loopK (fun kf l' s' => ∃ (x53 : List (Int)) (A53 : Option Addr) (c53 : Nat) (x54 : Int) (x55 : Int) (x56 : Int), (spec_l1Cur_small.l1 p0_0 kf x53 x54 x55 x56).bind G6 = some r ∧ l' = [.pointer (some ⟨bp0, 0, none⟩), .int .i64 p1, undef, undef, .slice none 0 0, .slice A53 x53.length c53, .int .i64 x54, .pointer (some ⟨bp0, 0, none⟩), .int .i64 p1, .int .i64 (IntKind.i64.wrap (p1 + 1)), .int .i64 u5.1, getL l' 11, getL l' 12, getL l' 13, getL l' 14, getL l' 15, getL l' 16, getL l' 17, getL l' 18, getL l' 19, getL l' 20, undef] ∧ Hp sb s F0 s' [Ck.ol OI 3 A53 c53 x53, Ck.ov bp0 [.slice A0_0p p0_0.length c0_0p, .int .i64 x55, .int .u64 x56] 113]) (((u5.1) - (0)).toNat + 2) ⟨[], none, 0, u5.1, u5.2.1, u5.2.2, H, rfl, (hH.nil (K := KI) OI 3).sel [2, 1] (by decide)⟩ ?_
    rintro kf l' s69 ⟨x53, A53, c53, x54, x55, x56, H, hl, hH⟩ K69 hK69
    generalize getL l' 11 = j11, getL l' 12 = j12, getL l' 13 = j13, getL l' 14 = j14, getL l' 15 = j15, getL l' 16 = j16, getL l' 17 = j17, getL l' 18 = j18, getL l' 19 = j19, getL l' 20 = j20 at hl
    subst hl
    cases kf with
    | zero => simp [spec_l1Cur_small.l1] at H
    | succ kf =>
      rw [spec_l1Cur_small.l1] at H
      refine HT_seq_k ?_
      intro K70 hK70
      refine HT_seq_k ?_
      intro K71 hK71
      refine HT_region ?_
      refine HL_cons rfl ?_
      refine o_move ?_
      try dsimp only [putL, setL, evL, getL]
      refine HL_cons rfl ?_
      refine o_bin rfl rfl rfl ?_
      try dsimp only [putL, setL, evL, getL]
      refine HL_nil ?_
      refine hK71 _ _ ?_
      rcases Bool.eq_false_or_eq_true (decide (x54 > 0)) with hb72 | hb72
      · replace H := iteT hb72 H
        refine HT_true (congrArg Value.bool hb72) ?_
        refine HT_skip ?_
        refine hK70 _ _ ?_
        refine HT_seq_k ?_
        intro K73 hK73
        refine HT_block ?_
        refine HT_region ?_
        refine HL_cons rfl ?_
        refine o_move ?_
        try dsimp only [putL, setL, evL, getL]
        refine HL_cons rfl ?_
        refine o_move ?_
        try dsimp only [putL, setL, evL, getL]
        refine HL_cons rfl ?_
        refine o_litF (K := KI) (O := OI) (ca := #[.int .i64 97, .int .i64 98, .int .i64 97, .int .i64 98, .int .i64 99, .int .i64 12354]) [[.int .i64 97], [.int .i64 98], [.int .i64 97], [.int .i64 98], [.int .i64 99], [.int .i64 12354]] [97, 98, 97, 98, 99, 12354] hH Try.underlying24 tI3 rfl (by decide) rfl rfl (by kernel_rfl) rfl ⟨rfl, Ent.own (Ent.flat rfl), rfl, Ent.own (Ent.flat rfl), rfl, Ent.own (Ent.flat rfl), rfl, Ent.own (Ent.flat rfl), rfl, Ent.own (Ent.flat rfl), rfl, Ent.own (Ent.flat rfl), trivial⟩ ?_
        intro A74 s74 hH' hG
        replace hH : Hp sb s F0 s74 [Ck.ol OI 3 A53 c53 x53, Ck.ov bp0 [.slice A0_0p p0_0.length c0_0p, .int .i64 x55, .int .u64 x56] 113, Ck.ol OI 3 A74 6 [97, 98, 97, 98, 99, 12354]] := hH'
        clear hH' hG
        try dsimp only [putL, setL, evL, getL]
        replace H := headE H
        obtain ⟨u75, hu75, H⟩ := H
        obtain ⟨F1, sx, hx, hC, hA, hB⟩ := hH.takeT [1] (by decide)
        dsimp only [addC, setC, rmC, selC, getC] at hA
        refine HL_cons rfl ?_
        refine o_call (args := #[.pointer (some ⟨bp0, 0, none⟩), .slice A74 [97, 98, 97, 98, 99, 12354].length 6]) Try.func104 rfl rfl rfl (spec_l1Cur_among.ok sx s74 F1 bp0 A0_0p c0_0p p0_0 x55 x56 A74 6 [97, 98, 97, 98, 99, 12354] (HRp0_0.mono hx.mono) (Ck.rdT hx (hC 2 (by decide)) rfl) hA _ hu75) ?_
        rintro _ s75 ⟨rfl, hD⟩
        replace hH := hB _ _ _ inferInstance hD
        clear hD hA hB hx hC
        dsimp only [addC, setC, rmC, selC, getC] at hH
        try dsimp only [putL, setL, evL, getL]
        refine HL_cons rfl ?_
        refine o_litF (K := KI) (O := OI) (ca := #[.int .i64 u75.1]) [[.int .i64 u75.1]] [u75.1] hH Try.underlying24 tI3 rfl (by decide) rfl rfl (by kernel_rfl) rfl ⟨rfl, Ent.own (Ent.flat rfl), trivial⟩ ?_
        intro A76 s76 hH' hG
        replace hH : Hp sb s F0 s76 [Ck.ol OI 3 A53 c53 x53, Ck.emp, Ck.ol OI 3 A74 6 [97, 98, 97, 98, 99, 12354], Ck.ov bp0 [.slice A0_0p p0_0.length c0_0p, .int .i64 u75.2.1, .int .u64 u75.2.2] 113, Ck.ol OI 3 A76 1 [u75.1]] := hH'
        clear hH' hG
        try dsimp only [putL, setL, evL, getL]
        replace H := headE H
        obtain ⟨x77, hx77, H⟩ := H
        refine HL_cons rfl ?_
        refine o_appF (K := KI) (n := 17592186044416) (A := A53) (c := c53) (xs := x53) (ys := [u75.1]) (B := A76) (c2 := 1) hH 0 rfl rfl rfl rfl Try.underlying24 tI3 rfl (by decide) (by decide) (by decide) (Src.flat (hH.rd 4 rfl)) hx77 ?_
        intro A77 c77 s77 hH'
        replace hH : Hp sb s F0 s77 [Ck.ol OI 3 A77 c77 x77, Ck.emp, Ck.ol OI 3 A74 6 [97, 98, 97, 98, 99, 12354], Ck.ov bp0 [.slice A0_0p p0_0.length c0_0p, .int .i64 u75.2.1, .int .u64 u75.2.2] 113, Ck.ol OI 3 A76 1 [u75.1]] := hH'
        clear hH'
        try dsimp only [putL, setL, evL, getL]
        refine HL_cons rfl ?_
        refine o_assign ?_
        try dsimp only [putL, setL, evL, getL]
        refine HL_nil ?_
        refine hK73 _ _ ?_
        refine HT_region ?_
        refine HL_cons rfl ?_
        refine o_move ?_
        try dsimp only [putL, setL, evL, getL]
        refine HL_cons rfl ?_
        refine o_bin rfl rfl rfl ?_
        try dsimp only [putL, setL, evL, getL]
        refine HL_cons rfl ?_
        refine o_assign ?_
        try dsimp only [putL, setL, evL, getL]
        refine HL_nil ?_
        exact hK69 _ _ ⟨kf, Nat.lt_succ_self kf, x77, A77, c77, IntKind.i64.wrap (x54 - 1), u75.2.1, u75.2.2, H, rfl, hH.sel [0, 3] (by decide)⟩
      · replace H := iteF hb72 H
        refine HT_false (congrArg Value.bool hb72) ?_
        refine HT_exit ?_
        exact hK6 _ _ ⟨x53, A53, c53, x55, x56, H, rfl, hH⟩
  · rintro l' s78 ⟨x41, A41, c41, x42, x43, H, hl, hH⟩
    generalize getL l' 6 = j6, getL l' 11 = j11, getL l' 12 = j12, getL l' 13 = j13, getL l' 14 = j14, getL l' 15 = j15, getL l' 16 = j16, getL l' 17 = j17, getL l' 18 = j18, getL l' 19 = j19, getL l' 20 = j20 at hl
    subst hl
    replace H := hG6 _ H
    try dsimp only at H
    refine hK3 _ _ ?_
    refine HT_seq_k ?_
    intro K79 hK79
    refine HT_region ?_
    refine HL_cons rfl ?_
    refine o_move ?_
    try dsimp only [putL, setL, evL, getL]
    refine HL_cons rfl ?_
    refine o_assign ?_
    try dsimp only [putL, setL, evL, getL]
    refine HL_nil ?_
    refine hK79 _ _ ?_
    refine HT_ret ?_
    exact hQr _ _ [.slice A41 x41.length c41] ⟨rfl, trivial⟩ (retH (fun r => spec_l1Cur_small.post sb s F0 bp0 A0_0p c0_0p p0_0 r _ _) (show some _ = some r from H) ⟨A41, c41, rfl, hH⟩)
def spec_l1Own.f (p0 : List (Int)) : Option (List (Int)) := (app? 17592186044416 ([] : List (Int)) p0).bind fun x4 => some x4
def spec_l1Own.post (sb s : St) (F0 : Fp) (r : (List (Int))) : Value → St → Prop := fun v s' => ∃ (A0 : Option Addr) (c0 : Nat), v = .slice A0 r.length c0 ∧ Hp sb s F0 s' [Ck.ol OI 3 A0 c0 r]
set_option maxRecDepth 100000 in
set_option maxHeartbeats 4000000 in
theorem spec_l1Own.ok (sb s : St) (F0 : Fp) (A0p : Option Addr) (c0p : Nat) (p0 : List (Int)) (HRp0 : Rd KI sb A0p c0p p0) (hH : Hp sb s F0 s []) (r : (List (Int))) (H : spec_l1Own.f p0 = some r) : GCall Try.prog 144 #[.slice A0p p0.length c0p] s (spec_l1Own.post sb s F0 r) := by
  refine GCall_ofk [.tmp 2] [.slice A0p p0.length c0p, undef, undef, undef, undef, undef] Try.func144 rfl rfl rfl ?_
  intro w Q hQr hQn hQp
  replace H := topE H
  unfold spec_l1Own.f at H
  refine HT_seq_k ?_
  intro K1 hK1
  refine HT_region ?_
  refine HL_cons rfl ?_
  refine o_assign ?_
  try dsimp only [putL, setL, evL, getL]
  refine HL_nil ?_
  refine hK1 _ _ ?_
  refine HT_seq_k ?_
  intro K2 hK2
  refine HT_region ?_
  refine HL_cons rfl ?_
  refine o_lit0H (α := Int) (K := KI) (O := OI) hH Try.underlying24 tI3 ?_
  intro A3 s3 hH' hG
  replace hH : Hp sb s F0 s3 [Ck.ol OI 3 A3 0 ([] : List (Int))] := hH'
  clear hH' hG
  try dsimp only [putL, setL, evL, getL]
  refine HL_cons rfl ?_
  refine o_move ?_
  try dsimp only [putL, setL, evL, getL]
  replace H := headE H
  obtain ⟨x4, hx4, H⟩ := H
  refine HL_cons rfl ?_
  refine o_appF (K := KI) (n := 17592186044416) (A := A3) (c := 0) (xs := ([] : List (Int))) (ys := p0) (B := A0p) (c2 := c0p) hH 0 rfl rfl rfl rfl Try.underlying24 tI3 rfl (by decide) (by decide) (by decide) (Src.flat (HRp0.mono hH.bs.mono)) hx4 ?_
  intro A4 c4 s4 hH'
  replace hH : Hp sb s F0 s4 [Ck.ol OI 3 A4 c4 x4] := hH'
  clear hH'
  try dsimp only [putL, setL, evL, getL]
  refine HL_cons rfl ?_
  refine o_assign ?_
  try dsimp only [putL, setL, evL, getL]
  refine HL_nil ?_
  refine hK2 _ _ ?_
  refine HT_ret ?_
  exact hQr _ _ [.slice A4 x4.length c4] ⟨rfl, trivial⟩ (retH (fun r => spec_l1Own.post sb s F0 r _ _) (show some _ = some r from H) ⟨A4, c4, rfl, hH⟩)
def spec_l1Cur_one.f (p0_0 : List (Int)) (p0_1 : Int) (p0_2 : Int) (p1 : Int) : Option (Bool × Int × Int) := (spec_l1Cur_pick.f p0_0 p0_1 p0_2 p1).bind fun u3 => some ((u3.1 == 0), u3.2.1, u3.2.2)
def spec_l1Cur_one.post (sb s : St) (F0 : Fp) (bp0 : Nat) (A0_0p : Option Addr) (c0_0p : Nat) (p0_0 : List (Int)) (r : Bool × Int × Int) : Value → St → Prop := fun v s' => v = .bool r.1 ∧ Hp sb s F0 s' [Ck.ov bp0 [.slice A0_0p p0_0.length c0_0p, .int .i64 r.2.1, .int .u64 r.2.2] 113]
set_option maxRecDepth 100000 in
set_option maxHeartbeats 4000000 in
theorem spec_l1Cur_one.ok (sb s : St) (F0 : Fp) (bp0 : Nat) (A0_0p : Option Addr) (c0_0p : Nat) (p0_0 : List (Int)) (p0_1 : Int) (p0_2 : Int) (p1 : Int) (HRp0_0 : Rd (Kd.int .u8) sb A0_0p c0_0p p0_0) (hH : Hp sb s F0 s [Ck.ov bp0 [.slice A0_0p p0_0.length c0_0p, .int .i64 p0_1, .int .u64 p0_2] 113]) (r : Bool × Int × Int) (H : spec_l1Cur_one.f p0_0 p0_1 p0_2 p1 = some r) : GCall Try.prog 113 #[.pointer (some ⟨bp0, 0, none⟩), .int .i64 p1] s (spec_l1Cur_one.post sb s F0 bp0 A0_0p c0_0p p0_0 r) := by
  refine GCall_ofk [.tmp 4] [.pointer (some ⟨bp0, 0, none⟩), .int .i64 p1, undef, undef, undef, undef, undef, undef, undef] Try.func113 rfl rfl rfl ?_
  intro w Q hQr hQn hQp
  replace H := topE H
  unfold spec_l1Cur_one.f at H
  refine HT_seq_k ?_
  intro K1 hK1
  refine HT_region ?_
  refine HL_cons rfl ?_
  refine o_assign ?_
  try dsimp only [putL, setL, evL, getL]
  refine HL_nil ?_
  refine hK1 _ _ ?_
  refine HT_seq_k ?_
  intro K2 hK2
  refine HT_region ?_
  refine HL_cons rfl ?_
  refine o_move ?_
  try dsimp only [putL, setL, evL, getL]
  refine HL_cons rfl ?_
  refine o_move ?_
  try dsimp only [putL, setL, evL, getL]
  replace H := headE H
  obtain ⟨u3, hu3, H⟩ := H
  obtain ⟨F1, hA, hB⟩ := hH.take [0] (by decide)
  dsimp only [addC, setC, rmC, selC, getC] at hA
  refine HL_cons rfl ?_
  refine o_call (args := #[.pointer (some ⟨bp0, 0, none⟩), .int .i64 p1]) Try.func112 rfl rfl rfl (spec_l1Cur_pick.ok sb s F1 bp0 A0_0p c0_0p p0_0 p0_1 p0_2 p1 HRp0_0 hA _ hu3) ?_
  rintro _ s3 ⟨rfl, hD⟩
  replace hH := hB _ _ _ (Up.refl _ _ _) hD
  clear hD hA hB
  dsimp only [addC, setC, rmC, selC, getC] at hH
  try dsimp only [putL, setL, evL, getL]
  refine HL_cons rfl ?_
  refine o_bin rfl rfl rfl ?_
  try dsimp only [putL, setL, evL, getL]
  refine HL_cons rfl ?_
  refine o_assign ?_
  try dsimp only [putL, setL, evL, getL]
  refine HL_nil ?_
  refine hK2 _ _ ?_
  refine HT_ret ?_
  exact hQr _ _ [.bool (u3.1 == 0)] ⟨rfl, trivial⟩ (retH (fun r => spec_l1Cur_one.post sb s F0 bp0 A0_0p c0_0p p0_0 r _ _) (show some _ = some r from H) ⟨rfl, hH.sel [1] (by decide)⟩)
def spec_l1Cur_near.l1 (p0_0 : List (Int)) : Nat → (List (Int)) → Int → Int → Int → Option ((List (Int)) × Int × Int)
  | 0, _, _, _, _ => none
  | kf + 1, x500, x501, x502, x503 => if (decide (x501 > 0)) = true then ((spec_l1Cur_pick.f p0_0 x502 x503 (IntKind.i64.wrap ((x500.length : Int) + 1))).bind fun u691 => (cut? x500 u691.1 (x500.length : Int)).bind fun x693 => (spec_l1Own.f x693).bind fun u694 => ((if (decide ((u694.length : Int) > 0)) = true then ((spec_l1Cur_one.f p0_0 u691.2.1 u691.2.2 2).bind fun u718 => some (u718.1, u718.2.1, u718.2.2)) else (some (false, u691.2.1, u691.2.2))).bind fun (o : Bool × Int × Int) => match o with | (x714, x715, x716) => (if x714 = true then ((cut? u694 1 (u694.length : Int)).bind fun x721 => some (x721, x715, x716)) else (some (u694, x715, x716)))).bind fun (o : (List (Int)) × Int × Int) => match o with | (x708, x709, x710) => ((cut? x500 0 u691.1).bind fun x724 => (spec_l1Own.f x724).bind fun u725 => ((spec_l1Cur_one.f p0_0 x709 x710 2).bind fun u739 => if u739.1 = true then ((spec_l1Cur_among.f p0_0 u739.2.1 u739.2.2 [97, 98, 120]).bind fun u742 => (app? 17592186044416 u725 [u742.1]).bind fun x744 => some (x744, u742.2.1, u742.2.2)) else (some (u725, u739.2.1, u739.2.2))).bind fun (o : (List (Int)) × Int × Int) => match o with | (x735, x736, x737) => ((app? 17592186044416 x735 x708).bind fun x746 => spec_l1Cur_near.l1 p0_0 kf x746 (IntKind.i64.wrap (x501 - 1)) x736 x737))) else (some (x500, x502, x503))
def spec_l1Cur_near.f (p0_0 : List (Int)) (p0_1 : Int) (p0_2 : Int) : Option ((List (Int)) × (List (Int)) × Int × Int) := (spec_l1Cur_small.f p0_0 p0_1 p0_2 10).bind fun u3 => (spec_l1Own.f u3.1).bind fun u6 => (spec_l1Cur_pick.f p0_0 u3.2.1 u3.2.2 4).bind fun u10 => (spec_l1Cur_near.l1 p0_0 (((u10.1) - (0)).toNat + 2) u6 u10.1 u10.2.1 u10.2.2).bind fun (o : (List (Int)) × Int × Int) => match o with | (x378, x379, x380) => (((spec_l1Cur_one.f p0_0 x379 x380 30).bind fun u758 => if u758.1 = true then ((app? 17592186044416 x378 [-1]).bind fun x761 => some (x761, u758.2.1, u758.2.2)) else (some (x378, u758.2.1, u758.2.2))).bind fun (o : (List (Int)) × Int × Int) => match o with | (x754, x755, x756) => (some (u3.1, x754, x755, x756)))
def spec_l1Cur_near.post (sb s : St) (F0 : Fp) (bp0 : Nat) (A0_0p : Option Addr) (c0_0p : Nat) (p0_0 : List (Int)) (r : (List (Int)) × (List (Int)) × Int × Int) : Value → St → Prop := fun v s' => ∃ (A0 : Option Addr) (c0 : Nat) (A1 : Option Addr) (c1 : Nat), v = .tuple #[.slice A0 r.1.length c0, .slice A1 r.2.1.length c1] ∧ Hp sb s F0 s' [Ck.ol OI 3 A0 c0 r.1, Ck.ol OI 3 A1 c1 r.2.1, Ck.ov bp0 [.slice A0_0p p0_0.length c0_0p, .int .i64 r.2.2.1, .int .u64 r.2.2.2] 113]
set_option maxRecDepth 100000 in
set_option maxHeartbeats 4000000 in
theorem spec_l1Cur_near.ok (sb s : St) (F0 : Fp) (bp0 : Nat) (A0_0p : Option Addr) (c0_0p : Nat) (p0_0 : List (Int)) (p0_1 : Int) (p0_2 : Int) (HRp0_0 : Rd (Kd.int .u8) sb A0_0p c0_0p p0_0) (hH : Hp sb s F0 s [Ck.ov bp0 [.slice A0_0p p0_0.length c0_0p, .int .i64 p0_1, .int .u64 p0_2] 113]) (r : (List (Int)) × (List (Int)) × Int × Int) (H : spec_l1Cur_near.f p0_0 p0_1 p0_2 = some r) : GCall Try.prog 98 #[.pointer (some ⟨bp0, 0, none⟩)] s (spec_l1Cur_near.post sb s F0 bp0 A0_0p c0_0p p0_0 r) := by
  refine GCall_ofk [.tmp 2, .tmp 3] [.pointer (some ⟨bp0, 0, none⟩), undef, undef, undef, undef, undef, undef, undef, undef, undef, undef, undef, undef, undef, undef, undef, undef, undef, undef, undef, undef, undef, undef, undef, undef, undef, undef, undef, undef, undef, undef, undef, undef, undef, undef, undef, undef, undef, undef, undef, undef, undef, undef, undef, undef, undef, undef, undef, undef, undef, undef, undef, undef, undef, undef, undef, undef, undef, undef] Try.func98 rfl rfl rfl ?_
  intro w Q hQr hQn hQp
  replace H := topE H
  unfold spec_l1Cur_near.f at H
  refine HT_seq_k ?_
  intro K1 hK1
  refine HT_region ?_
  refine HL_cons rfl ?_
  refine o_assign ?_
  try dsimp only [putL, setL, evL, getL]
  refine HL_cons rfl ?_
  refine o_assign ?_
  try dsimp only [putL, setL, evL, getL]
  refine HL_nil ?_
  refine hK1 _ _ ?_
  refine HT_seq_k ?_
  intro K2 hK2
  refine HT_region ?_
  refine HL_cons rfl ?_
  refine o_move ?_
  try dsimp only [putL, setL, evL, getL]
  replace H := headE H
  obtain ⟨u3, hu3, H⟩ := H
  obtain ⟨F1, hA, hB⟩ := hH.take [0] (by decide)
  dsimp only [addC, setC, rmC, selC, getC] at hA
  refine HL_cons rfl ?_
  refine o_call (args := #[.pointer (some ⟨bp0, 0, none⟩), .int .i64 10]) Try.func103 rfl rfl rfl (spec_l1Cur_small.ok sb s F1 bp0 A0_0p c0_0p p0_0 p0_1 p0_2 10 HRp0_0 hA _ hu3) ?_
  rintro _ s3 ⟨A4, c4, rfl, hD⟩
  replace hH := hB _ _ _ (Up.refl _ _ _) hD
  clear hD hA hB
  dsimp only [addC, setC, rmC, selC, getC] at hH
  try dsimp only [putL, setL, evL, getL]
  refine HL_cons rfl ?_
  refine o_assign ?_
  try dsimp only [putL, setL, evL, getL]
  refine HL_nil ?_
  refine hK2 _ _ ?_
  refine HT_seq_k ?_
  intro K5 hK5
  refine HT_region ?_
  refine HL_cons rfl ?_
  refine o_move ?_
  try dsimp only [putL, setL, evL, getL]
  replace H := headE H
  obtain ⟨u6, hu6, H⟩ := H
  refine HL_cons rfl ?_
  refine o_call (args := #[.slice A4 u3.1.length c4]) Try.func144 rfl rfl rfl (spec_l1Own.ok s3 s3 no A4 c4 u3.1 (hH.rd 1 rfl) (Hp.own (Bs.refl s3)) _ hu6) ?_
  rintro _ s6 ⟨A7, c7, rfl, hD⟩
  replace hH := hH.back0T hD
  clear hD
  dsimp only [addC, setC, rmC, selC, getC] at hH
  try dsimp only [putL, setL, evL, getL]
  refine HL_cons rfl ?_
  refine o_assign ?_
  try dsimp only [putL, setL, evL, getL]
  refine HL_nil ?_
  refine hK5 _ _ ?_
  refine HT_seq_k ?_
  intro K8 hK8
  refine HT_seq_k ?_
  intro K9 hK9
  refine HT_region ?_
  refine HL_cons rfl ?_
  refine o_move ?_
  try dsimp only [putL, setL, evL, getL]
  replace H := headE H
  obtain ⟨u10, hu10, H⟩ := H
  obtain ⟨F1, hA, hB⟩ := hH.take [2] (by decide)
  dsimp only [addC, setC, rmC, selC, getC] at hA
  refine HL_cons rfl ?_
  refine o_call (args := #[.pointer (some ⟨bp0, 0, none⟩), .int .i64 4]) Try.func112 rfl rfl rfl (spec_l1Cur_pick.ok sb s6 F1 bp0 A0_0p c0_0p p0_0 u3.2.1 u3.2.2 4 HRp0_0 hA _ hu10) ?_
  rintro _ s10 ⟨rfl, hD⟩
  replace hH := hB _ _ _ (Up.refl _ _ _) hD
  clear hD hA hB
  dsimp only [addC, setC, rmC, selC, getC] at hH
  try dsimp only [putL, setL, evL, getL]
  refine HL_cons rfl ?_
  refine o_assign ?_
  try dsimp only [putL, setL, evL, getL]
  refine HL_nil ?_
  refine hK9 _ _ ?_
  refine joinH H fun G11 hG11 H => ?_
  refine HT_toK (fun l' s' => ∃ (x378 : List (Int)) (A378 : Option Addr) (c378 : Nat) (x379 : Int) (x380 : Int), G11 (x378, x379, x380) = some r ∧ l' = [.pointer (some ⟨bp0, 0, none⟩), undef, .slice none 0 0, .slice none 0 0, .slice A4 u3.1.length c4, .slice A378 x378.length c378, getL l' 6, getL l' 7, getL l' 8, .pointer (some ⟨bp0, 0, none⟩), .slice A4 u3.1.length c4, .slice A4 u3.1.length c4, .slice A7 u6.length c7, .pointer (some ⟨bp0, 0, none⟩), .int .i64 u10.1, getL l' 15, getL l' 16, getL l' 17, getL l' 18, getL l' 19, getL l' 20, getL l' 21, getL l' 22, getL l' 23, getL l' 24, getL l' 25, getL l' 26, getL l' 27, getL l' 28, getL l' 29, getL l' 30, getL l' 31, getL l' 32, getL l' 33, getL l' 34, getL l' 35, getL l' 36, getL l' 37, getL l' 38, getL l' 39, getL l' 40, getL l' 41, getL l' 42, getL l' 43, getL l' 44, getL l' 45, getL l' 46, getL l' 47, getL l' 48, getL l' 49, getL l' 50, getL l' 51, undef, undef, undef, undef, undef, undef, undef] ∧ Hp sb s F0 s' [Ck.ol OI 3 A378 c378 x378, Ck.ol OI 3 A4 c4 u3.1, Ck.ov bp0 [.slice A0_0p p0_0.length c0_0p, .int .i64 x379, .int .u64 x380] 113]) ?_ ?_
  · intro K11 hK11
    refine HT_block ?_
    refine HT_loopK (fun kf l' s' => ∃ (x500 : List (Int)) (A500 : Option Addr) (c500 : Nat) (x501 : Int) (x502 : Int) (x503 : Int), (spec_l1Cur_near.l1 p0_0 kf x500 x501 x502 x503).bind G11 = some r ∧ l' = [.pointer (some ⟨bp0, 0, none⟩), undef, .slice none 0 0, .slice none 0 0, .slice A4 u3.1.length c4, .slice A500 x500.length c500, .int .i64 x501, getL l' 7, getL l' 8, .pointer (some ⟨bp0, 0, none⟩), .slice A4 u3.1.length c4, .slice A4 u3.1.length c4, .slice A7 u6.length c7, .pointer (some ⟨bp0, 0, none⟩), .int .i64 u10.1, getL l' 15, getL l' 16, getL l' 17, getL l' 18, getL l' 19, getL l' 20, getL l' 21, getL l' 22, getL l' 23, getL l' 24, getL l' 25, getL l' 26, getL l' 27, getL l' 28, getL l' 29, getL l' 30, getL l' 31, getL l' 32, getL l' 33, getL l' 34, getL l' 35, getL l' 36, getL l' 37, getL l' 38, getL l' 39, getL l' 40, getL l' 41, getL l' 42, getL l' 43, getL l' 44, getL l' 45, getL l' 46, getL l' 47, getL l' 48, getL l' 49, getL l' 50, getL l' 51, undef, undef, undef, undef, undef, undef, undef] ∧ Hp sb s F0 s' [Ck.ol OI 3 A500 c500 x500, Ck.ol OI 3 A4 c4 u3.1, Ck.ov bp0 [.slice A0_0p p0_0.length c0_0p, .int .i64 x502, .int .u64 x503] 113]) (((u10.1) - (0)).toNat + 2) ⟨u6, A7, c7, u10.1, u10.2.1, u10.2.2, H, rfl, hH.sel [3, 1, 4] (by decide)⟩ ?_
    rintro kf l' s627 ⟨x500, A500, c500, x501, x502, x503, H, hl, hH⟩ K627 hK627
    generalize getL l' 7 = j7, getL l' 8 = j8, getL l' 15 = j15, getL l' 16 = j16, getL l' 17 = j17, getL l' 18 = j18, getL l' 19 = j19, getL l' 20 = j20, getL l' 21 = j21, getL l' 22 = j22, getL l' 23 = j23, getL l' 24 = j24, getL l' 25 = j25, getL l' 26 = j26, getL l' 27 = j27, getL l' 28 = j28, getL l' 29 = j29, getL l' 30 = j30, getL l' 31 = j31, getL l' 32 = j32, getL l' 33 = j33, getL l' 34 = j34, getL l' 35 = j35, getL l' 36 = j36, getL l' 37 = j37, getL l' 38 = j38, getL l' 39 = j39, getL l' 40 = j40, getL l' 41 = j41, getL l' 42 = j42, getL l' 43 = j43, getL l' 44 = j44, getL l' 45 = j45, getL l' 46 = j46, getL l' 47 = j47, getL l' 48 = j48, getL l' 49 = j49, getL l' 50 = j50, getL l' 51 = j51 at hl
    subst hl
    cases kf with
    | zero => simp [spec_l1Cur_near.l1] at H
    | succ kf =>
      rw [spec_l1Cur_near.l1] at H
      refine HT_seq_k ?_
      intro K628 hK628
      refine HT_seq_k ?_
      intro K629 hK629
      refine HT_region ?_
      refine HL_cons rfl ?_
      refine o_move ?_
      try dsimp only [putL, setL, evL, getL]
      refine HL_cons rfl ?_
      refine o_bin rfl rfl rfl ?_
      try dsimp only [putL, setL, evL, getL]
      refine HL_nil ?_
      refine hK629 _ _ ?_
      rcases Bool.eq_false_or_eq_true (decide (x501 > 0)) with hb630 | hb630
      · replace H := iteT hb630 H
        refine HT_true (congrArg Value.bool hb630) ?_
        refine HT_skip ?_
        refine hK628 _ _ ?_
        refine HT_seq_k ?_
        intro K689 hK689
        refine HT_block ?_
        refine HT_seq_k ?_
        intro K690 hK690
        refine HT_region ?_
        refine HL_cons rfl ?_
        refine o_move ?_
        try dsimp only [putL, setL, evL, getL]
        refine HL_cons rfl ?_
        refine o_move ?_
        try dsimp only [putL, setL, evL, getL]
        refine HL_cons rfl ?_
        refine o_len rfl Try.underlying24 ?_
        try dsimp only [putL, setL, evL, getL]
        refine HL_cons rfl ?_
        refine o_bin rfl rfl rfl ?_
        try dsimp only [putL, setL, evL, getL]
        replace H := headE H
        obtain ⟨u691, hu691, H⟩ := H
        obtain ⟨F1, hA, hB⟩ := hH.take [2] (by decide)
        dsimp only [addC, setC, rmC, selC, getC] at hA
        refine HL_cons rfl ?_
        refine o_call (args := #[.pointer (some ⟨bp0, 0, none⟩), .int .i64 (IntKind.i64.wrap ((x500.length : Int) + 1))]) Try.func112 rfl rfl rfl (spec_l1Cur_pick.ok sb s627 F1 bp0 A0_0p c0_0p p0_0 x502 x503 (IntKind.i64.wrap ((x500.length : Int) + 1)) HRp0_0 hA _ hu691) ?_
        rintro _ s691 ⟨rfl, hD⟩
        replace hH := hB _ _ _ (Up.refl _ _ _) hD
        clear hD hA hB
        dsimp only [addC, setC, rmC, selC, getC] at hH
        try dsimp only [putL, setL, evL, getL]
        refine HL_cons rfl ?_
        refine o_assign ?_
        try dsimp only [putL, setL, evL, getL]
        refine HL_nil ?_
        refine hK690 _ _ ?_
        refine HT_seq_k ?_
        intro K692 hK692
        refine HT_region ?_
        refine HL_cons rfl ?_
        refine o_move ?_
        try dsimp only [putL, setL, evL, getL]
        refine HL_cons rfl ?_
        refine o_move ?_
        try dsimp only [putL, setL, evL, getL]
        replace H := headE H
        obtain ⟨x693, hx693, H⟩ := H
        refine HL_cons rfl ?_
        refine o_cutA (xs := x500) (kl := .i64) (kh := .i64) (L := u691.1) (H := (x500.length : Int)) rfl rfl rfl Try.underlying24 tI3 (hH.rd 0 rfl).1 hx693 ?_
        have D693 := @Der.cut _ _ OI 3 A500 c500 _ _ _ _ hx693
        try dsimp only [putL, setL, evL, getL]
        replace H := headE H
        obtain ⟨u694, hu694, H⟩ := H
        refine HL_cons rfl ?_
        refine o_call (args := #[.slice (cutA A500 c500 (Int.toNat u691.1) (Kd.sz KI)) x693.length (c500 - Int.toNat u691.1)]) Try.func144 rfl rfl rfl (spec_l1Own.ok s691 s691 no (cutA A500 c500 (Int.toNat u691.1) (Kd.sz KI)) (c500 - Int.toNat u691.1) x693 (D693 _ _ hH.bs (hH.ckP 0)) (Hp.own (Bs.refl s691)) _ hu694) ?_
        rintro _ s694 ⟨A695, c695, rfl, hD⟩
        replace hH := hH.back0T hD
        clear hD
        dsimp only [addC, setC, rmC, selC, getC] at hH
        try dsimp only [putL, setL, evL, getL]
        refine HL_cons rfl ?_
        refine o_assign ?_
        try dsimp only [putL, setL, evL, getL]
        refine HL_nil ?_
        refine hK692 _ _ ?_
        refine joinH H fun G696 hG696 H => ?_
        refine HT_joinK (fun l' s' => ∃ (x708 : List (Int)) (A708 : Option Addr) (c708 : Nat) (x709 : Int) (x710 : Int), G696 (x708, x709, x710) = some r ∧ l' = [.pointer (some ⟨bp0, 0, none⟩), undef, .slice none 0 0, .slice none 0 0, .slice A4 u3.1.length c4, .slice A500 x500.length c500, .int .i64 x501, .int .i64 u691.1, .slice A708 x708.length c708, .pointer (some ⟨bp0, 0, none⟩), .slice A4 u3.1.length c4, .slice A4 u3.1.length c4, .slice A7 u6.length c7, .pointer (some ⟨bp0, 0, none⟩), .int .i64 u10.1, .int .i64 x501, .bool (decide (x501 > 0)), j17, j18, .pointer (some ⟨bp0, 0, none⟩), .slice A500 x500.length c500, .int .i64 (x500.length : Int), .int .i64 (IntKind.i64.wrap ((x500.length : Int) + 1)), .int .i64 u691.1, .slice A500 x500.length c500, .int .i64 u691.1, .slice (cutA A500 c500 (Int.toNat u691.1) (Kd.sz KI)) x693.length (c500 - Int.toNat u691.1), .slice A695 u694.length c695, getL l' 28, getL l' 29, getL l' 30, getL l' 31, getL l' 32, getL l' 33, getL l' 34, getL l' 35, getL l' 36, j37, j38, j39, j40, j41, j42, j43, j44, j45, j46, j47, j48, j49, j50, j51, undef, undef, undef, undef, undef, undef, undef] ∧ Hp sb s F0 s' [Ck.ol OI 3 A708 c708 x708, Ck.ol OI 3 A4 c4 u3.1, Ck.ol OI 3 A500 c500 x500, Ck.ov bp0 [.slice A0_0p p0_0.length c0_0p, .int .i64 x709, .int .u64 x710] 113]) ?_ ?_
        · intro K696 hK696
          refine joinH H fun G711 hG711 H => ?_
          refine HT_joinK (fun l' s' => ∃ (x714 : Bool) (x715 : Int) (x716 : Int), G711 (x714, x715, x716) = some r ∧ l' = [.pointer (some ⟨bp0, 0, none⟩), undef, .slice none 0 0, .slice none 0 0, .slice A4 u3.1.length c4, .slice A500 x500.length c500, .int .i64 x501, .int .i64 u691.1, .slice A695 u694.length c695, .pointer (some ⟨bp0, 0, none⟩), .slice A4 u3.1.length c4, .slice A4 u3.1.length c4, .slice A7 u6.length c7, .pointer (some ⟨bp0, 0, none⟩), .int .i64 u10.1, .int .i64 x501, .bool (decide (x501 > 0)), j17, j18, .pointer (some ⟨bp0, 0, none⟩), .slice A500 x500.length c500, .int .i64 (x500.length : Int), .int .i64 (IntKind.i64.wrap ((x500.length : Int) + 1)), .int .i64 u691.1, .slice A500 x500.length c500, .int .i64 u691.1, .slice (cutA A500 c500 (Int.toNat u691.1) (Kd.sz KI)) x693.length (c500 - Int.toNat u691.1), .slice A695 u694.length c695, getL l' 28, getL l' 29, getL l' 30, getL l' 31, getL l' 32, getL l' 33, .bool x714, j35, j36, j37, j38, j39, j40, j41, j42, j43, j44, j45, j46, j47, j48, j49, j50, j51, undef, undef, undef, undef, undef, undef, undef] ∧ Hp sb s F0 s' [Ck.ol OI 3 A4 c4 u3.1, Ck.ol OI 3 A500 c500 x500, Ck.ol OI 3 A695 c695 u694, Ck.ov bp0 [.slice A0_0p p0_0.length c0_0p, .int .i64 x715, .int .u64 x716] 113]) ?_ ?_
          · intro K711 hK711
            refine HT_region ?_
            refine HL_cons rfl ?_
            refine o_move ?_
            try dsimp only [putL, setL, evL, getL]
            refine HL_cons rfl ?_
            refine o_len rfl Try.underlying24 ?_
            try dsimp only [putL, setL, evL, getL]
            refine HL_cons rfl ?_
            refine o_bin rfl rfl rfl ?_
            try dsimp only [putL, setL, evL, getL]
            refine HL_cons rfl ?_
            refine o_move ?_
            try dsimp only [putL, setL, evL, getL]
            rcases Bool.eq_false_or_eq_true (decide ((u694.length : Int) > 0)) with hb717 | hb717
            · replace H := iteT hb717 H
              refine HL_want ?_ ?_
              · exact wantT (j := 3) (b := true) (t := 31) (c := decide ((u694.length : Int) > 0)) rfl rfl rfl rfl hb717
              refine o_move ?_
              try dsimp only [putL, setL, evL, getL]
              replace H := headE H
              obtain ⟨u718, hu718, H⟩ := H
              obtain ⟨F1, hA, hB⟩ := hH.take [3] (by decide)
              dsimp only [addC, setC, rmC, selC, getC] at hA
              refine HL_want ?_ ?_
              · exact wantT (j := 3) (b := true) (t := 31) (c := decide ((u694.length : Int) > 0)) rfl rfl rfl rfl hb717
              refine o_call (args := #[.pointer (some ⟨bp0, 0, none⟩), .int .i64 2]) Try.func113 rfl rfl rfl (spec_l1Cur_one.ok sb s694 F1 bp0 A0_0p c0_0p p0_0 u691.2.1 u691.2.2 2 HRp0_0 hA _ hu718) ?_
              rintro _ s718 ⟨rfl, hD⟩
              replace hH := hB _ _ _ (Up.refl _ _ _) hD
              clear hD hA hB
              dsimp only [addC, setC, rmC, selC, getC] at hH
              try dsimp only [putL, setL, evL, getL]
              refine HL_cons rfl ?_
              refine o_pickT rfl hb717 ?_
              try dsimp only [putL, setL, evL, getL]
              refine HL_nil ?_
              exact hK711 _ _ ⟨u718.1, u718.2.1, u718.2.2, H, rfl, hH.sel [1, 0, 4, 5] (by decide)⟩
            · replace H := iteF hb717 H
              refine HL_skip ?_ ?_
              · exact wantF (j := 3) (b := true) (t := 31) (c := decide ((u694.length : Int) > 0)) rfl rfl rfl rfl hb717
              try dsimp only [putL, setL, evL, getL]
              refine HL_skip ?_ ?_
              · exact wantF (j := 3) (b := true) (t := 31) (c := decide ((u694.length : Int) > 0)) rfl rfl rfl rfl hb717
              try dsimp only [putL, setL, evL, getL]
              refine HL_cons rfl ?_
              refine o_pickF rfl hb717 ?_
              try dsimp only [putL, setL, evL, getL]
              refine HL_nil ?_
              exact hK711 _ _ ⟨false, u691.2.1, u691.2.2, H, rfl, hH.sel [1, 0, 4, 3] (by decide)⟩
          · rintro l' s719 ⟨x714, x715, x716, H, hl, hH⟩
            generalize getL l' 28 = j28, getL l' 29 = j29, getL l' 30 = j30, getL l' 31 = j31, getL l' 32 = j32, getL l' 33 = j33 at hl
            subst hl
            replace H := hG711 _ H
            try dsimp only at H
            rcases Bool.eq_false_or_eq_true x714 with hb720 | hb720
            · replace H := iteT hb720 H
              refine HT_true (congrArg Value.bool hb720) ?_
              refine HT_region ?_
              refine HL_cons rfl ?_
              refine o_move ?_
              try dsimp only [putL, setL, evL, getL]
              replace H := headE H
              obtain ⟨x721, hx721, H⟩ := H
              refine HL_cons rfl ?_
              refine o_cutA (xs := u694) (kl := .i64) (kh := .i64) (L := 1) (H := (u694.length : Int)) rfl rfl rfl Try.underlying24 tI3 (hH.rd 2 rfl).1 hx721 ?_
              have D721 := @Der.cut _ _ OI 3 A695 c695 _ _ _ _ hx721
              try dsimp only [putL, setL, evL, getL]
              refine HL_cons rfl ?_
              refine o_assign ?_
              try dsimp only [putL, setL, evL, getL]
              refine HL_nil ?_
              exact hK696 _ _ ⟨x721, (cutA A695 c695 (Int.toNat 1) (Kd.sz KI)), c695 - Int.toNat 1, x715, x716, H, rfl, (hH.cut 2 rfl rfl hx721).sel [2, 0, 1, 3] (by decide)⟩
            · replace H := iteF hb720 H
              refine HT_false (congrArg Value.bool hb720) ?_
              refine HT_skip ?_
              exact hK696 _ _ ⟨u694, A695, c695, x715, x716, H, rfl, hH.sel [2, 0, 1, 3] (by decide)⟩
        · rintro l' s722 ⟨x708, A708, c708, x709, x710, H, hl, hH⟩
          generalize getL l' 28 = j28, getL l' 29 = j29, getL l' 30 = j30, getL l' 31 = j31, getL l' 32 = j32, getL l' 33 = j33, getL l' 34 = j34, getL l' 35 = j35, getL l' 36 = j36 at hl
          subst hl
          replace H := hG696 _ H
          try dsimp only at H
          refine HT_seq_k ?_
          intro K723 hK723
          refine HT_region ?_
          refine HL_cons rfl ?_
          refine o_move ?_
          try dsimp only [putL, setL, evL, getL]
          refine HL_cons rfl ?_
          refine o_move ?_
          try dsimp only [putL, setL, evL, getL]
          replace H := headE H
          obtain ⟨x724, hx724, H⟩ := H
          refine HL_cons rfl ?_
          refine o_cutA (xs := x500) (kl := .i64) (kh := .i64) (L := 0) (H := u691.1) rfl rfl rfl Try.underlying24 tI3 (hH.rd 2 rfl).1 hx724 ?_
          have D724 := @Der.cut _ _ OI 3 A500 c500 _ _ _ _ hx724
          try dsimp only [putL, setL, evL, getL]
          replace H := headE H
          obtain ⟨u725, hu725, H⟩ := H
          refine HL_cons rfl ?_
          refine o_call (args := #[.slice (cutA A500 c500 (Int.toNat 0) (Kd.sz KI)) x724.length (c500 - Int.toNat 0)]) Try.func144 rfl rfl rfl (spec_l1Own.ok s722 s722 no (cutA A500 c500 (Int.toNat 0) (Kd.sz KI)) (c500 - Int.toNat 0) x724 (D724 _ _ hH.bs (hH.ckP 2)) (Hp.own (Bs.refl s722)) _ hu725) ?_
          rintro _ s725 ⟨A726, c726, rfl, hD⟩
          replace hH := hH.back0T hD
          clear hD
          dsimp only [addC, setC, rmC, selC, getC] at hH
          try dsimp only [putL, setL, evL, getL]
          refine HL_cons rfl ?_
          refine o_assign ?_
          try dsimp only [putL, setL, evL, getL]
          refine HL_nil ?_
          refine hK723 _ _ ?_
          refine joinH H fun G727 hG727 H => ?_
          refine HT_joinK (fun l' s' => ∃ (x735 : List (Int)) (A735 : Option Addr) (c735 : Nat) (x736 : Int) (x737 : Int), G727 (x735, x736, x737) = some r ∧ l' = [.pointer (some ⟨bp0, 0, none⟩), undef, .slice none 0 0, .slice none 0 0, .slice A4 u3.1.length c4, .slice A735 x735.length c735, .int .i64 x501, .int .i64 u691.1, .slice A708 x708.length c708, .pointer (some ⟨bp0, 0, none⟩), .slice A4 u3.1.length c4, .slice A4 u3.1.length c4, .slice A7 u6.length c7, .pointer (some ⟨bp0, 0, none⟩), .int .i64 u10.1, .int .i64 x501, .bool (decide (x501 > 0)), j17, j18, .pointer (some ⟨bp0, 0, none⟩), .slice A500 x500.length c500, .int .i64 (x500.length : Int), .int .i64 (IntKind.i64.wrap ((x500.length : Int) + 1)), .int .i64 u691.1, .slice A500 x500.length c500, .int .i64 u691.1, .slice (cutA A500 c500 (Int.toNat u691.1) (Kd.sz KI)) x693.length (c500 - Int.toNat u691.1), .slice A695 u694.length c695, j28, j29, j30, j31, j32, j33, j34, j35, j36, .slice A500 x500.length c500, .int .i64 u691.1, .slice (cutA A500 c500 (Int.toNat 0) (Kd.sz KI)) x724.length (c500 - Int.toNat 0), .slice A726 u725.length c726, getL l' 41, getL l' 42, getL l' 43, getL l' 44, getL l' 45, getL l' 46, getL l' 47, getL l' 48, j49, j50, j51, undef, undef, undef, undef, undef, undef, undef] ∧ Hp sb s F0 s' [Ck.ol OI 3 A735 c735 x735, Ck.ol OI 3 A4 c4 u3.1, Ck.ol OI 3 A708 c708 x708, Ck.ov bp0 [.slice A0_0p p0_0.length c0_0p, .int .i64 x736, .int .u64 x737] 113]) ?_ ?_
          · intro K727 hK727
            refine HT_seq_k ?_
            intro K738 hK738
            refine HT_region ?_
            refine HL_cons rfl ?_
            refine o_move ?_
            try dsimp only [putL, setL, evL, getL]
            replace H := headE H
            obtain ⟨u739, hu739, H⟩ := H
            obtain ⟨F1, hA, hB⟩ := hH.take [3] (by decide)
            dsimp only [addC, setC, rmC, selC, getC] at hA
            refine HL_cons rfl ?_
            refine o_call (args := #[.pointer (some ⟨bp0, 0, none⟩), .int .i64 2]) Try.func113 rfl rfl rfl (spec_l1Cur_one.ok sb s725 F1 bp0 A0_0p c0_0p p0_0 x709 x710 2 HRp0_0 hA _ hu739) ?_
            rintro _ s739 ⟨rfl, hD⟩
            replace hH := hB _ _ _ (Up.refl _ _ _) hD
            clear hD hA hB
            dsimp only [addC, setC, rmC, selC, getC] at hH
            try dsimp only [putL, setL, evL, getL]
            refine HL_nil ?_
            refine hK738 _ _ ?_
            rcases Bool.eq_false_or_eq_true u739.1 with hb740 | hb740
            · replace H := iteT hb740 H
              refine HT_true (congrArg Value.bool hb740) ?_
              refine HT_region ?_
              refine HL_cons rfl ?_
              refine o_move ?_
              try dsimp only [putL, setL, evL, getL]
              refine HL_cons rfl ?_
              refine o_move ?_
              try dsimp only [putL, setL, evL, getL]
              refine HL_cons rfl ?_
              refine o_litF (K := KI) (O := OI) (ca := #[.int .i64 97, .int .i64 98, .int .i64 120]) [[.int .i64 97], [.int .i64 98], [.int .i64 120]] [97, 98, 120] hH Try.underlying24 tI3 rfl (by decide) rfl rfl (by kernel_rfl) rfl ⟨rfl, Ent.own (Ent.flat rfl), rfl, Ent.own (Ent.flat rfl), rfl, Ent.own (Ent.flat rfl), trivial⟩ ?_
              intro A741 s741 hH' hG
              replace hH : Hp sb s F0 s741 [Ck.ol OI 3 A708 c708 x708, Ck.ol OI 3 A4 c4 u3.1, Ck.ol OI 3 A500 c500 x500, Ck.emp, Ck.ol OI 3 A726 c726 u725, Ck.ov bp0 [.slice A0_0p p0_0.length c0_0p, .int .i64 u739.2.1, .int .u64 u739.2.2] 113, Ck.ol OI 3 A741 3 [97, 98, 120]] := hH'
              clear hH' hG
              try dsimp only [putL, setL, evL, getL]
              replace H := headE H
              obtain ⟨u742, hu742, H⟩ := H
              obtain ⟨F1, sx, hx, hC, hA, hB⟩ := hH.takeT [5] (by decide)
              dsimp only [addC, setC, rmC, selC, getC] at hA
              refine HL_cons rfl ?_
              refine o_call (args := #[.pointer (some ⟨bp0, 0, none⟩), .slice A741 [97, 98, 120].length 3]) Try.func104 rfl rfl rfl (spec_l1Cur_among.ok sx s741 F1 bp0 A0_0p c0_0p p0_0 u739.2.1 u739.2.2 A741 3 [97, 98, 120] (HRp0_0.mono hx.mono) (Ck.rdT hx (hC 6 (by decide)) rfl) hA _ hu742) ?_
              rintro _ s742 ⟨rfl, hD⟩
              replace hH := hB _ _ _ inferInstance hD
              clear hD hA hB hx hC
              dsimp only [addC, setC, rmC, selC, getC] at hH
              try dsimp only [putL, setL, evL, getL]
              refine HL_cons rfl ?_
              refine o_litF (K := KI) (O := OI) (ca := #[.int .i64 u742.1]) [[.int .i64 u742.1]] [u742.1] hH Try.underlying24 tI3 rfl (by decide) rfl rfl (by kernel_rfl) rfl ⟨rfl, Ent.own (Ent.flat rfl), trivial⟩ ?_
              intro A743 s743 hH' hG
              replace hH : Hp sb s F0 s743 [Ck.ol OI 3 A708 c708 x708, Ck.ol OI 3 A4 c4 u3.1, Ck.ol OI 3 A500 c500 x500, Ck.emp, Ck.ol OI 3 A726 c726 u725, Ck.emp, Ck.ol OI 3 A741 3 [97, 98, 120], Ck.ov bp0 [.slice A0_0p p0_0.length c0_0p, .int .i64 u742.2.1, .int .u64 u742.2.2] 113, Ck.ol OI 3 A743 1 [u742.1]] := hH'
              clear hH' hG
              try dsimp only [putL, setL, evL, getL]
              replace H := headE H
              obtain ⟨x744, hx744, H⟩ := H
              refine HL_cons rfl ?_
              refine o_appF (K := KI) (n := 17592186044416) (A := A726) (c := c726) (xs := u725) (ys := [u742.1]) (B := A743) (c2 := 1) hH 4 rfl rfl rfl rfl Try.underlying24 tI3 rfl (by decide) (by decide) (by decide) (Src.flat (hH.rd 8 rfl)) hx744 ?_
              intro A744 c744 s744 hH'
              replace hH : Hp sb s F0 s744 [Ck.ol OI 3 A708 c708 x708, Ck.ol OI 3 A4 c4 u3.1, Ck.ol OI 3 A500 c500 x500, Ck.emp, Ck.ol OI 3 A744 c744 x744, Ck.emp, Ck.ol OI 3 A741 3 [97, 98, 120], Ck.ov bp0 [.slice A0_0p p0_0.length c0_0p, .int .i64 u742.2.1, .int .u64 u742.2.2] 113, Ck.ol OI 3 A743 1 [u742.1]] := hH'
              clear hH'
              try dsimp only [putL, setL, evL, getL]
              refine HL_cons rfl ?_
              refine o_assign ?_
              try dsimp only [putL, setL, evL, getL]
              refine HL_nil ?_
              exact hK727 _ _ ⟨x744, A744, c744, u742.2.1, u742.2.2, H, rfl, hH.sel [4, 1, 0, 7] (by decide)⟩
            · replace H := iteF hb740 H
              refine HT_false (congrArg Value.bool hb740) ?_
              refine HT_skip ?_
              exact hK727 _ _ ⟨u725, A726, c726, u739.2.1, u739.2.2, H, rfl, hH.sel [4, 1, 0, 5] (by decide)⟩
          · rintro l' s745 ⟨x735, A735, c735, x736, x737, H, hl, hH⟩
            generalize getL l' 41 = j41, getL l' 42 = j42, getL l' 43 = j43, getL l' 44 = j44, getL l' 45 = j45, getL l' 46 = j46, getL l' 47 = j47, getL l' 48 = j48 at hl
            subst hl
            replace H := hG727 _ H
            try dsimp only at H
            refine HT_region ?_
            refine HL_cons rfl ?_
            refine o_move ?_
            try dsimp only [putL, setL, evL, getL]
            refine HL_cons rfl ?_
            refine o_move ?_
            try dsimp only [putL, setL, evL, getL]
            replace H := headE H
            obtain ⟨x746, hx746, H⟩ := H
            refine HL_cons rfl ?_
            refine o_appF (K := KI) (n := 17592186044416) (A := A735) (c := c735) (xs := x735) (ys := x708) (B := A708) (c2 := c708) hH 0 rfl rfl rfl rfl Try.underlying24 tI3 rfl (by decide) (by decide) (by decide) (Src.flat (hH.rd 2 rfl)) hx746 ?_
            intro A746 c746 s746 hH'
            replace hH : Hp sb s F0 s746 [Ck.ol OI 3 A746 c746 x746, Ck.ol OI 3 A4 c4 u3.1, Ck.ol OI 3 A708 c708 x708, Ck.ov bp0 [.slice A0_0p p0_0.length c0_0p, .int .i64 x736, .int .u64 x737] 113] := hH'
            clear hH'
            try dsimp only [putL, setL, evL, getL]
            refine HL_cons rfl ?_
            refine o_assign ?_
            try dsimp only [putL, setL, evL, getL]
            refine HL_nil ?_
            refine hK689 _ _ ?_
            refine HT_region ?_
            refine HL_cons rfl ?_
            refine o_move ?_
            try dsimp only [putL, setL, evL, getL]
            refine HL_cons rfl ?_
            refine o_bin rfl rfl rfl ?_
            try dsimp only [putL, setL, evL, getL]
            refine HL_cons rfl ?_
            refine o_assign ?_
            try dsimp only [putL, setL, evL, getL]
            refine HL_nil ?_
            exact hK627 _ _ ⟨kf, Nat.lt_succ_self kf, x746, A746, c746, IntKind.i64.wrap (x501 - 1), x736, x737, H, rfl, hH.sel [0, 1, 3] (by decide)⟩
      · replace H := iteF hb630 H
        refine HT_false (congrArg Value.bool hb630) ?_
        refine HT_exit ?_
        exact hK11 _ _ ⟨x500, A500, c500, x502, x503, H, rfl, hH⟩
  · rintro l' s747 ⟨x378, A378, c378, x379, x380, H, hl, hH⟩
    generalize getL l' 6 = j6, getL l' 7 = j7, getL l' 8 = j8, getL l' 15 = j15, getL l' 16 = j16, getL l' 17 = j17, getL l' 18 = j18, getL l' 19 = j19, getL l' 20 = j20, getL l' 21 = j21, getL l' 22 = j22, getL l' 23 = j23, getL l' 24 = j24, getL l' 25 = j25, getL l' 26 = j26, getL l' 27 = j27, getL l' 28 = j28, getL l' 29 = j29, getL l' 30 = j30, getL l' 31 = j31, getL l' 32 = j32, getL l' 33 = j33, getL l' 34 = j34, getL l' 35 = j35, getL l' 36 = j36, getL l' 37 = j37, getL l' 38 = j38, getL l' 39 = j39, getL l' 40 = j40, getL l' 41 = j41, getL l' 42 = j42, getL l' 43 = j43, getL l' 44 = j44, getL l' 45 = j45, getL l' 46 = j46, getL l' 47 = j47, getL l' 48 = j48, getL l' 49 = j49, getL l' 50 = j50, getL l' 51 = j51 at hl
    subst hl
    replace H := hG11 _ H
    try dsimp only at H
    refine hK8 _ _ ?_
    refine joinH H fun G748 hG748 H => ?_
    refine HT_joinK (fun l' s' => ∃ (x754 : List (Int)) (A754 : Option Addr) (c754 : Nat) (x755 : Int) (x756 : Int), G748 (x754, x755, x756) = some r ∧ l' = [.pointer (some ⟨bp0, 0, none⟩), undef, .slice none 0 0, .slice none 0 0, .slice A4 u3.1.length c4, .slice A754 x754.length c754, j6, j7, j8, .pointer (some ⟨bp0, 0, none⟩), .slice A4 u3.1.length c4, .slice A4 u3.1.length c4, .slice A7 u6.length c7, .pointer (some ⟨bp0, 0, none⟩), .int .i64 u10.1, j15, j16, j17, j18, j19, j20, j21, j22, j23, j24, j25, j26, j27, j28, j29, j30, j31, j32, j33, j34, j35, j36, j37, j38, j39, j40, j41, j42, j43, j44, j45, j46, j47, j48, j49, j50, j51, getL l' 52, getL l' 53, getL l' 54, getL l' 55, getL l' 56, undef, undef] ∧ Hp sb s F0 s' [Ck.ol OI 3 A754 c754 x754, Ck.ol OI 3 A4 c4 u3.1, Ck.ov bp0 [.slice A0_0p p0_0.length c0_0p, .int .i64 x755, .int .u64 x756] 113]) ?_ ?_
    · intro K748 hK748
      refine HT_seq_k ?_
      intro K757 hK757
      refine HT_region ?_
      refine HL_cons rfl ?_
      refine o_move ?_
      try dsimp only [putL, setL, evL, getL]
      replace H := headE H
      obtain ⟨u758, hu758, H⟩ := H
      obtain ⟨F1, hA, hB⟩ := hH.take [2] (by decide)
      dsimp only [addC, setC, rmC, selC, getC] at hA
      refine HL_cons rfl ?_
      refine o_call (args := #[.pointer (some ⟨bp0, 0, none⟩), .int .i64 30]) Try.func113 rfl rfl rfl (spec_l1Cur_one.ok sb s747 F1 bp0 A0_0p c0_0p p0_0 x379 x380 30 HRp0_0 hA _ hu758) ?_
      rintro _ s758 ⟨rfl, hD⟩
      replace hH := hB _ _ _ (Up.refl _ _ _) hD
      clear hD hA hB
      dsimp only [addC, setC, rmC, selC, getC] at hH
      try dsimp only [putL, setL, evL, getL]
      refine HL_nil ?_
      refine hK757 _ _ ?_
      rcases Bool.eq_false_or_eq_true u758.1 with hb759 | hb759
      · replace H := iteT hb759 H
        refine HT_true (congrArg Value.bool hb759) ?_
        refine HT_region ?_
        refine HL_cons rfl ?_
        refine o_move ?_
        try dsimp only [putL, setL, evL, getL]
        refine HL_cons rfl ?_
        refine o_litF (K := KI) (O := OI) (ca := #[.int .i64 (-1)]) [[.int .i64 (-1)]] [-1] hH Try.underlying24 tI3 rfl (by decide) rfl rfl (by kernel_rfl) rfl ⟨rfl, Ent.own (Ent.flat rfl), trivial⟩ ?_
        intro A760 s760 hH' hG
        replace hH : Hp sb s F0 s760 [Ck.ol OI 3 A378 c378 x378, Ck.ol OI 3 A4 c4 u3.1, Ck.emp, Ck.ov bp0 [.slice A0_0p p0_0.length c0_0p, .int .i64 u758.2.1, .int .u64 u758.2.2] 113, Ck.ol OI 3 A760 1 [-1]] := hH'
        clear hH' hG
        try dsimp only [putL, setL, evL, getL]
        replace H := headE H
        obtain ⟨x761, hx761, H⟩ := H
        refine HL_cons rfl ?_
        refine o_appF (K := KI) (n := 17592186044416) (A := A378) (c := c378) (xs := x378) (ys := [-1]) (B := A760) (c2 := 1) hH 0 rfl rfl rfl rfl Try.underlying24 tI3 rfl (by decide) (by decide) (by decide) (Src.flat (hH.rd 4 rfl)) hx761 ?_
        intro A761 c761 s761 hH'
        replace hH : Hp sb s F0 s761 [Ck.ol OI 3 A761 c761 x761, Ck.ol OI 3 A4 c4 u3.1, Ck.emp, Ck.ov bp0 [.slice A0_0p p0_0.length c0_0p, .int .i64 u758.2.1, .int .u64 u758.2.2] 113, Ck.ol OI 3 A760 1 [-1]] := hH'
        clear hH'
        try dsimp only [putL, setL, evL, getL]
        refine HL_cons rfl ?_
        refine o_assign ?_
        try dsimp only [putL, setL, evL, getL]
        refine HL_nil ?_
        exact hK748 _ _ ⟨x761, A761, c761, u758.2.1, u758.2.2, H, rfl, hH.sel [0, 1, 3] (by decide)⟩
      · replace H := iteF hb759 H
        refine HT_false (congrArg Value.bool hb759) ?_
        refine HT_skip ?_
        exact hK748 _ _ ⟨x378, A378, c378, u758.2.1, u758.2.2, H, rfl, hH.sel [0, 1, 3] (by decide)⟩
    · rintro l' s762 ⟨x754, A754, c754, x755, x756, H, hl, hH⟩
      generalize getL l' 52 = j52, getL l' 53 = j53, getL l' 54 = j54, getL l' 55 = j55, getL l' 56 = j56 at hl
      subst hl
      replace H := hG748 _ H
      try dsimp only at H
      refine HT_seq_k ?_
      intro K763 hK763
      refine HT_region ?_
      refine HL_cons rfl ?_
      refine o_move ?_
      try dsimp only [putL, setL, evL, getL]
      refine HL_cons rfl ?_
      refine o_move ?_
      try dsimp only [putL, setL, evL, getL]
      refine HL_cons rfl ?_
      refine o_assign ?_
      try dsimp only [putL, setL, evL, getL]
      refine HL_cons rfl ?_
      refine o_assign ?_
      try dsimp only [putL, setL, evL, getL]
      refine HL_nil ?_
      refine hK763 _ _ ?_
      refine HT_ret ?_
      exact hQr _ _ [.slice A4 u3.1.length c4, .slice A754 x754.length c754] ⟨rfl, rfl, trivial⟩ (retH (fun r => spec_l1Cur_near.post sb s F0 bp0 A0_0p c0_0p p0_0 r _ _) (show some _ = some r from H) ⟨A4, c4, A754, c754, rfl, hH.sel [1, 0, 2] (by decide)⟩)
def spec_DrawDistanceOf.f (p0 : List (Int)) : Option ((List (Int)) × (List (Int))) := (spec_l1Cur_near.f p0 0 0).bind fun u5 => some (u5.1, u5.2.1)
def spec_DrawDistanceOf.post (sb s : St) (F0 : Fp) (r : (List (Int)) × (List (Int))) : Value → St → Prop := fun v s' => ∃ (A0 : Option Addr) (c0 : Nat) (A1 : Option Addr) (c1 : Nat), v = .tuple #[.slice A0 r.1.length c0, .slice A1 r.2.length c1] ∧ Hp sb s F0 s' [Ck.ol OI 3 A0 c0 r.1, Ck.ol OI 3 A1 c1 r.2]
set_option maxRecDepth 100000 in
set_option maxHeartbeats 4000000 in
theorem spec_DrawDistanceOf.ok (sb s : St) (F0 : Fp) (A0p : Option Addr) (c0p : Nat) (p0 : List (Int)) (HRp0 : Rd (Kd.int .u8) sb A0p c0p p0) (hH : Hp sb s F0 s []) (r : (List (Int)) × (List (Int))) (H : spec_DrawDistanceOf.f p0 = some r) : GCall Try.prog 15 #[.slice A0p p0.length c0p] s (spec_DrawDistanceOf.post sb s F0 r) := by
  refine GCall_ofk [.tmp 2, .tmp 3] [.slice A0p p0.length c0p, undef, undef, undef, undef, undef, undef, undef, undef, undef, undef, undef] Try.func15 rfl rfl rfl ?_
  intro w Q hQr hQn hQp
  replace H := topE H
  unfold spec_DrawDistanceOf.f at H
  refine HT_seq_k ?_
  intro K1 hK1
  refine HT_region ?_
  refine HL_cons rfl ?_
  refine o_assign ?_
  try dsimp only [putL, setL, evL, getL]
  refine HL_cons rfl ?_
  refine o_assign ?_
  try dsimp only [putL, setL, evL, getL]
  refine HL_nil ?_
  refine hK1 _ _ ?_
  refine HT_seq_k ?_
  intro K2 hK2
  refine HT_region ?_
  refine HL_cons rfl ?_
  refine o_move ?_
  try dsimp only [putL, setL, evL, getL]
  refine HL_cons rfl ?_
  refine o_build (pl := [(0, 1), (1, 1), (2, 1)]) (cs := #[.slice A0p p0.length c0p, .int .i64 0, .int .u64 0]) Try.underlying113 tI113 (by kernel_rfl) (by kernel_rfl) rfl ?_
  try dsimp only [putL, setL, evL, getL]
  refine HL_cons rfl ?_
  refine o_boxH hH rfl ?_
  intro b3 s3 hH' hG
  replace hH : Hp sb s F0 s3 [Ck.ov b3 [.slice A0p p0.length c0p, .int .i64 0, .int .u64 0] 113] := hH'
  clear hH' hG
  try dsimp only [putL, setL, evL, getL]
  refine HL_cons rfl ?_
  refine o_assign ?_
  try dsimp only [putL, setL, evL, getL]
  refine HL_nil ?_
  refine hK2 _ _ ?_
  refine HT_seq_k ?_
  intro K4 hK4
  refine HT_region ?_
  refine HL_cons rfl ?_
  refine o_move ?_
  try dsimp only [putL, setL, evL, getL]
  replace H := headE H
  obtain ⟨u5, hu5, H⟩ := H
  obtain ⟨F1, hA, hB⟩ := hH.take [0] (by decide)
  dsimp only [addC, setC, rmC, selC, getC] at hA
  refine HL_cons rfl ?_
  refine o_call (args := #[.pointer (some ⟨b3, 0, none⟩)]) Try.func98 rfl rfl rfl (spec_l1Cur_near.ok sb s3 F1 b3 A0p c0p p0 0 0 HRp0 hA _ hu5) ?_
  rintro _ s5 ⟨A6, c6, A7, c7, rfl, hD⟩
  replace hH := hB _ _ _ (Up.refl _ _ _) hD
  clear hD hA hB
  dsimp only [addC, setC, rmC, selC, getC] at hH
  try dsimp only [putL, setL, evL, getL]
  refine HL_cons rfl ?_
  refine o_extract rfl rfl ?_
  try dsimp only [putL, setL, evL, getL]
  refine HL_cons rfl ?_
  refine o_extract rfl rfl ?_
  try dsimp only [putL, setL, evL, getL]
  refine HL_cons rfl ?_
  refine o_assign ?_
  try dsimp only [putL, setL, evL, getL]
  refine HL_cons rfl ?_
  refine o_assign ?_
  try dsimp only [putL, setL, evL, getL]
  refine HL_nil ?_
  refine hK4 _ _ ?_
  refine HT_ret ?_
  exact hQr _ _ [.slice A6 u5.1.length c6, .slice A7 u5.2.1.length c7] ⟨rfl, rfl, trivial⟩ (retH (fun r => spec_DrawDistanceOf.post sb s F0 r _ _) (show some _ = some r from H) ⟨A6, c6, A7, c7, rfl, hH.sel [1, 2] (by decide)⟩)
def spec_DrawDiffOf.f (p0 : List (Int)) : Option ((List (Int)) × (List (Int))) := (spec_DrawDistanceOf.f p0).bind fun u3 => some (u3.1, u3.2)
def spec_DrawDiffOf.post (sb s : St) (F0 : Fp) (r : (List (Int)) × (List (Int))) : Value → St → Prop := fun v s' => ∃ (A0 : Option Addr) (c0 : Nat) (A1 : Option Addr) (c1 : Nat), v = .tuple #[.slice A0 r.1.length c0, .slice A1 r.2.length c1] ∧ Hp sb s F0 s' [Ck.ol OI 3 A0 c0 r.1, Ck.ol OI 3 A1 c1 r.2]
set_option maxRecDepth 100000 in
set_option maxHeartbeats 4000000 in
theorem spec_DrawDiffOf.ok (sb s : St) (F0 : Fp) (A0p : Option Addr) (c0p : Nat) (p0 : List (Int)) (HRp0 : Rd (Kd.int .u8) sb A0p c0p p0) (hH : Hp sb s F0 s []) (r : (List (Int)) × (List (Int))) (H : spec_DrawDiffOf.f p0 = some r) : GCall Try.prog 66 #[.slice A0p p0.length c0p] s (spec_DrawDiffOf.post sb s F0 r) := by
  refine GCall_ofk [.tmp 2, .tmp 3] [.slice A0p p0.length c0p, undef, undef, undef, undef, undef, undef, undef] Try.func66 rfl rfl rfl ?_
  intro w Q hQr hQn hQp
  replace H := topE H
  unfold spec_DrawDiffOf.f at H
  refine HT_seq_k ?_
  intro K1 hK1
  refine HT_region ?_
  refine HL_cons rfl ?_
  refine o_assign ?_
  try dsimp only [putL, setL, evL, getL]
  refine HL_cons rfl ?_
  refine o_assign ?_
  try dsimp only [putL, setL, evL, getL]
  refine HL_nil ?_
  refine hK1 _ _ ?_
  refine HT_seq_k ?_
  intro K2 hK2
  refine HT_region ?_
  refine HL_cons rfl ?_
  refine o_move ?_
  try dsimp only [putL, setL, evL, getL]
  replace H := headE H
  obtain ⟨u3, hu3, H⟩ := H
  refine HL_cons rfl ?_
  refine o_call (args := #[.slice A0p p0.length c0p]) Try.func15 rfl rfl rfl (spec_DrawDistanceOf.ok sb s no A0p c0p p0 HRp0 (Hp.own hH.bs) _ hu3) ?_
  rintro _ s3 ⟨A4, c4, A5, c5, rfl, hD⟩
  replace hH := hH.back0 hD (Up.refl _ _ _)
  clear hD
  dsimp only [addC, setC, rmC, selC, getC] at hH
  try dsimp only [putL, setL, evL, getL]
  refine HL_cons rfl ?_
  refine o_extract rfl rfl ?_
  try dsimp only [putL, setL, evL, getL]
  refine HL_cons rfl ?_
  refine o_extract rfl rfl ?_
  try dsimp only [putL, setL, evL, getL]
  refine HL_cons rfl ?_
  refine o_assign ?_
  try dsimp only [putL, setL, evL, getL]
  refine HL_cons rfl ?_
  refine o_assign ?_
  try dsimp only [putL, setL, evL, getL]
  refine HL_nil ?_
  refine hK2 _ _ ?_
  refine HT_ret ?_
  exact hQr _ _ [.slice A4 u3.1.length c4, .slice A5 u3.2.length c5] ⟨rfl, rfl, trivial⟩ (retH (fun r => spec_DrawDiffOf.post sb s F0 r _ _) (show some _ = some r from H) ⟨A4, c4, A5, c5, rfl, hH⟩)
def impl_inRange.f (p0 : Int) (p1 : Int) (p2 : Int) : Option Bool := if (decide (p1 ≤ p0)) = true then (some (decide (p0 ≤ p2))) else (some false)
def impl_inRange.post (sb s : St) (F0 : Fp) (r : Bool) : Value → St → Prop := fun v s' => v = .bool r ∧ Hp sb s F0 s' []
set_option maxRecDepth 100000 in
set_option maxHeartbeats 4000000 in
theorem impl_inRange.ok (sb s : St) (F0 : Fp) (p0 : Int) (p1 : Int) (p2 : Int) (hH : Hp sb s F0 s []) (r : Bool) (H : impl_inRange.f p0 p1 p2 = some r) : GCall Try.prog 105 #[.int .i64 p0, .int .i64 p1, .int .i64 p2] s (impl_inRange.post sb s F0 r) := by
  refine GCall_ofk [.tmp 6] [.int .i64 p0, .int .i64 p1, .int .i64 p2, undef, undef, undef, undef, undef, undef, undef, undef, undef, undef, undef, undef] Try.func105 rfl rfl rfl ?_
  intro w Q hQr hQn hQp
  replace H := topE H
  unfold impl_inRange.f at H
  refine HT_seq_k ?_
  intro K1 hK1
  refine HT_region ?_
  refine HL_cons rfl ?_
  refine o_assign ?_
  try dsimp only [putL, setL, evL, getL]
  refine HL_nil ?_
  refine hK1 _ _ ?_
  refine HT_seq_k ?_
  intro K2 hK2
  refine HT_region ?_
  refine HL_cons rfl ?_
  refine o_move ?_
  try dsimp only [putL, setL, evL, getL]
  refine HL_cons rfl ?_
  refine o_move ?_
  try dsimp only [putL, setL, evL, getL]
  refine HL_cons rfl ?_
  refine o_bin rfl rfl rfl ?_
  try dsimp only [putL, setL, evL, getL]
  refine HL_cons rfl ?_
  refine o_move ?_
  try dsimp only [putL, setL, evL, getL]
  rcases Bool.eq_false_or_eq_true (decide (p1 ≤ p0)) with hb3 | hb3
  · replace H := iteT hb3 H
    refine HL_want ?_ ?_
    · exact wantT (j := 3) (b := true) (t := 10) (c := decide (p1 ≤ p0)) rfl rfl rfl rfl hb3
    refine o_move ?_
    try dsimp only [putL, setL, evL, getL]
    refine HL_want ?_ ?_
    · exact wantT (j := 3) (b := true) (t := 10) (c := decide (p1 ≤ p0)) rfl rfl rfl rfl hb3
    refine o_move ?_
    try dsimp only [putL, setL, evL, getL]
    refine HL_want ?_ ?_
    · exact wantT (j := 3) (b := true) (t := 10) (c := decide (p1 ≤ p0)) rfl rfl rfl rfl hb3
    refine o_bin rfl rfl rfl ?_
    try dsimp only [putL, setL, evL, getL]
    refine HL_cons rfl ?_
    refine o_pickT rfl hb3 ?_
    try dsimp only [putL, setL, evL, getL]
    refine HL_cons rfl ?_
    refine o_assign ?_
    try dsimp only [putL, setL, evL, getL]
    refine HL_nil ?_
    refine hK2 _ _ ?_
    refine HT_ret ?_
    exact hQr _ _ [.bool (decide (p0 ≤ p2))] ⟨rfl, trivial⟩ (retH (fun r => impl_inRange.post sb s F0 r _ _) (show some _ = some r from H) ⟨rfl, hH⟩)
  · replace H := iteF hb3 H
    refine HL_skip ?_ ?_
    · exact wantF (j := 3) (b := true) (t := 10) (c := decide (p1 ≤ p0)) rfl rfl rfl rfl hb3
    try dsimp only [putL, setL, evL, getL]
    refine HL_skip ?_ ?_
    · exact wantF (j := 3) (b := true) (t := 10) (c := decide (p1 ≤ p0)) rfl rfl rfl rfl hb3
    try dsimp only [putL, setL, evL, getL]
    refine HL_skip ?_ ?_
    · exact wantF (j := 3) (b := true) (t := 10) (c := decide (p1 ≤ p0)) rfl rfl rfl rfl hb3
    try dsimp only [putL, setL, evL, getL]
    refine HL_cons rfl ?_
    refine o_pickF rfl hb3 ?_
    try dsimp only [putL, setL, evL, getL]
    refine HL_cons rfl ?_
    refine o_assign ?_
    try dsimp only [putL, setL, evL, getL]
    refine HL_nil ?_
    refine hK2 _ _ ?_
    refine HT_ret ?_
    exact hQr _ _ [.bool false] ⟨rfl, trivial⟩ (retH (fun r => impl_inRange.post sb s F0 r _ _) (show some _ = some r from H) ⟨rfl, hH⟩)
def impl_GoodRune.f (p0 : Int) : Option Bool := (impl_inRange.f p0 0 1114111).bind fun u3 => if u3 = true then ((impl_inRange.f p0 55296 57343).bind fun u5 => some (!u5)) else (some false)
def impl_GoodRune.post (sb s : St) (F0 : Fp) (r : Bool) : Value → St → Prop := fun v s' => v = .bool r ∧ Hp sb s F0 s' []
set_option maxRecDepth 100000 in
set_option maxHeartbeats 4000000 in
theorem impl_GoodRune.ok (sb s : St) (F0 : Fp) (p0 : Int) (hH : Hp sb s F0 s []) (r : Bool) (H : impl_GoodRune.f p0 = some r) : GCall Try.prog 146 #[.int .i64 p0] s (impl_GoodRune.post sb s F0 r) := by
  refine GCall_ofk [.tmp 2] [.int .i64 p0, undef, undef, undef, undef, undef, undef, undef, undef, undef] Try.func146 rfl rfl rfl ?_
  intro w Q hQr hQn hQp
  replace H := topE H
  unfold impl_GoodRune.f at H
  refine HT_seq_k ?_
  intro K1 hK1
  refine HT_region ?_
  refine HL_cons rfl ?_
  refine o_assign ?_
  try dsimp only [putL, setL, evL, getL]
  refine HL_nil ?_
  refine hK1 _ _ ?_
  refine HT_seq_k ?_
  intro K2 hK2
  refine HT_region ?_
  refine HL_cons rfl ?_
  refine o_move ?_
  try dsimp only [putL, setL, evL, getL]
  replace H := headE H
  obtain ⟨u3, hu3, H⟩ := H
  refine HL_cons rfl ?_
  refine o_call (args := #[.int .i64 p0, .int .i64 0, .int .i64 1114111]) Try.func105 rfl rfl rfl (impl_inRange.ok sb s no p0 0 1114111 (Hp.own hH.bs) _ hu3) ?_
  rintro _ s3 ⟨rfl, hD⟩
  replace hH := hH.back0 hD (Up.refl _ _ _)
  clear hD
  dsimp only [addC, setC, rmC, selC, getC] at hH
  try dsimp only [putL, setL, evL, getL]
  refine HL_cons rfl ?_
  refine o_move ?_
  try dsimp only [putL, setL, evL, getL]
  rcases Bool.eq_false_or_eq_true u3 with hb4 | hb4
  · replace H := iteT hb4 H
    refine HL_want ?_ ?_
    · exact wantT (j := 2) (b := true) (t := 5) (c := u3) rfl rfl rfl rfl hb4
    refine o_move ?_
    try dsimp only [putL, setL, evL, getL]
    replace H := headE H
    obtain ⟨u5, hu5, H⟩ := H
    refine HL_want ?_ ?_
    · exact wantT (j := 2) (b := true) (t := 5) (c := u3) rfl rfl rfl rfl hb4
    refine o_call (args := #[.int .i64 p0, .int .i64 55296, .int .i64 57343]) Try.func105 rfl rfl rfl (impl_inRange.ok sb s3 no p0 55296 57343 (Hp.own hH.bs) _ hu5) ?_
    rintro _ s5 ⟨rfl, hD⟩
    replace hH := hH.back0 hD (Up.refl _ _ _)
    clear hD
    dsimp only [addC, setC, rmC, selC, getC] at hH
    try dsimp only [putL, setL, evL, getL]
    refine HL_want ?_ ?_
    · exact wantT (j := 2) (b := true) (t := 5) (c := u3) rfl rfl rfl rfl hb4
    refine o_not rfl ?_
    try dsimp only [putL, setL, evL, getL]
    refine HL_cons rfl ?_
    refine o_pickT rfl hb4 ?_
    try dsimp only [putL, setL, evL, getL]
    refine HL_cons rfl ?_
    refine o_assign ?_
    try dsimp only [putL, setL, evL, getL]
    refine HL_nil ?_
    refine hK2 _ _ ?_
    refine HT_ret ?_
    exact hQr _ _ [.bool (!u5)] ⟨rfl, trivial⟩ (retH (fun r => impl_GoodRune.post sb s F0 r _ _) (show some _ = some r from H) ⟨rfl, hH⟩)
  · replace H := iteF hb4 H
    refine HL_skip ?_ ?_
    · exact wantF (j := 2) (b := true) (t := 5) (c := u3) rfl rfl rfl rfl hb4
    try dsimp only [putL, setL, evL, getL]
    refine HL_skip ?_ ?_
    · exact wantF (j := 2) (b := true) (t := 5) (c := u3) rfl rfl rfl rfl hb4
    try dsimp only [putL, setL, evL, getL]
    refine HL_skip ?_ ?_
    · exact wantF (j := 2) (b := true) (t := 5) (c := u3) rfl rfl rfl rfl hb4
    try dsimp only [putL, setL, evL, getL]
    refine HL_cons rfl ?_
    refine o_pickF rfl hb4 ?_
    try dsimp only [putL, setL, evL, getL]
    refine HL_cons rfl ?_
    refine o_assign ?_
    try dsimp only [putL, setL, evL, getL]
    refine HL_nil ?_
    refine hK2 _ _ ?_
    refine HT_ret ?_
    exact hQr _ _ [.bool false] ⟨rfl, trivial⟩ (retH (fun r => impl_GoodRune.post sb s F0 r _ _) (show some _ = some r from H) ⟨rfl, hH⟩)
def impl_areRunes_1.f (p0 : Int) : Option Bool := (impl_GoodRune.f p0).bind fun u3 => some (!u3)
def impl_areRunes_1.post (sb s : St) (F0 : Fp) (r : Bool) : Value → St → Prop := fun v s' => v = .bool r ∧ Hp sb s F0 s' []
set_option maxRecDepth 100000 in
set_option maxHeartbeats 4000000 in
theorem impl_areRunes_1.ok (sb s : St) (F0 : Fp) (p0 : Int) (hH : Hp sb s F0 s []) (r : Bool) (H : impl_areRunes_1.f p0 = some r) : GCall Try.prog 186 #[.int .i64 p0] s (impl_areRunes_1.post sb s F0 r) := by
  refine GCall_ofk [.tmp 2] [.int .i64 p0, undef, undef, undef, undef, undef] Try.func186 rfl rfl rfl ?_
  intro w Q hQr hQn hQp
  replace H := topE H
  unfold impl_areRunes_1.f at H
  refine HT_seq_k ?_
  intro K1 hK1
  refine HT_region ?_
  refine HL_cons rfl ?_
  refine o_assign ?_
  try dsimp only [putL, setL, evL, getL]
  refine HL_nil ?_
  refine hK1 _ _ ?_
  refine HT_seq_k ?_
  intro K2 hK2
  refine HT_region ?_
  refine HL_cons rfl ?_
  refine o_move ?_
  try dsimp only [putL, setL, evL, getL]
  replace H := headE H
  obtain ⟨u3, hu3, H⟩ := H
  refine HL_cons rfl ?_
  refine o_call (args := #[.int .i64 p0]) Try.func146 rfl rfl rfl (impl_GoodRune.ok sb s no p0 (Hp.own hH.bs) _ hu3) ?_
  rintro _ s3 ⟨rfl, hD⟩
  replace hH := hH.back0 hD (Up.refl _ _ _)
  clear hD
  dsimp only [addC, setC, rmC, selC, getC] at hH
  try dsimp only [putL, setL, evL, getL]
  refine HL_cons rfl ?_
  refine o_not rfl ?_
  try dsimp only [putL, setL, evL, getL]
  refine HL_cons rfl ?_
  refine o_assign ?_
  try dsimp only [putL, setL, evL, getL]
  refine HL_nil ?_
  refine hK2 _ _ ?_
  refine HT_ret ?_
  exact hQr _ _ [.bool (!u3)] ⟨rfl, trivial⟩ (retH (fun r => impl_areRunes_1.post sb s F0 r _ _) (show some _ = some r from H) ⟨rfl, hH⟩)
def slices_IndexFunc_int_int_impl_areRunes_1.l1 (p0 : List (Int)) : Nat → Int → Option (Lo Unit Int)
  | 0, _ => none
  | kf + 1, x48 => if (decide (x48 < (p0.length : Int))) = true then ((rd? p0 x48).bind fun u67 => (impl_areRunes_1.f u67).bind fun u68 => if u68 = true then ((some x48).bind fun z => some (Lo.ret z)) else (slices_IndexFunc_int_int_impl_areRunes_1.l1 p0 kf (IntKind.i64.wrap (x48 + 1)))) else (some (Lo.go ()))
def slices_IndexFunc_int_int_impl_areRunes_1.f (p0 : List (Int)) : Option Int := (slices_IndexFunc_int_int_impl_areRunes_1.l1 p0 ((((p0.length : Int)) - (0)).toNat + 2) 0).bind fun (o : Lo Unit Int) => match o with | .go () => (some (-1)) | .ret z => some z
def slices_IndexFunc_int_int_impl_areRunes_1.post (sb s : St) (F0 : Fp) (r : Int) : Value → St → Prop := fun v s' => v = .int .i64 r ∧ Hp sb s F0 s' []
set_option maxRecDepth 100000 in
set_option maxHeartbeats 4000000 in
theorem slices_IndexFunc_int_int_impl_areRunes_1.ok (sb s : St) (F0 : Fp) (A0p : Option Addr) (c0p : Nat) (p0 : List (Int)) (HRp0 : Rd KI sb A0p c0p p0) (hH : Hp sb s F0 s []) (r : Int) (H : slices_IndexFunc_int_int_impl_areRunes_1.f p0 = some r) : GCall Try.prog 184 #[.slice A0p p0.length c0p, .func (.func 186) #[] #[]] s (slices_IndexFunc_int_int_impl_areRunes_1.post sb s F0 r) := by
  refine GCall_ofk [.tmp 4] [.slice A0p p0.length c0p, .func (.func 186) #[] #[], undef, undef, undef, undef, undef, undef, undef, undef, undef, undef, undef, undef, undef, undef, undef, undef, undef] Try.func184 rfl rfl rfl ?_
  intro w Q hQr hQn hQp
  replace H := topE H
  unfold slices_IndexFunc_int_int_impl_areRunes_1.f at H
  refine HT_seq_k ?_
  intro K1 hK1
  refine HT_region ?_
  refine HL_cons rfl ?_
  refine o_assign ?_
  try dsimp only [putL, setL, evL, getL]
  refine HL_nil ?_
  refine hK1 _ _ ?_
  refine HT_seq_k ?_
  intro K2 hK2
  refine HT_seq_k ?_
  intro K3 hK3
  refine HT_region ?_
  refine HL_cons rfl ?_
  refine o_move ?_
  try dsimp only [putL, setL, evL, getL]
  refine HL_cons rfl ?_
  refine o_len rfl Try.underlying24 ?_
  try dsimp only [putL, setL, evL, getL]
  refine HL_cons rfl ?_
  refine o_move ?_
  try dsimp only [putL, setL, evL, getL]
  refine HL_nil ?_
  refine hK3 _ _ ?_
  refine joinH H fun G4 hG4 H => ?_
  refine HT_toK (fun l' s' => G4 (.go ()) = some r ∧ l' = [.slice A0p p0.length c0p, .func (.func 186) #[] #[], undef, undef, getL l' 4, getL l' 5, .slice A0p p0.length c0p, .int .i64 (p0.length : Int), getL l' 8, getL l' 9, getL l' 10, getL l' 11, getL l' 12, getL l' 13, getL l' 14, getL l' 15, getL l' 16, getL l' 17, getL l' 18] ∧ Hp sb s F0 s' []) ?_ ?_
  · intro K4 hK4
    refine HT_block ?_
    refine HT_loopK (fun kf l' s' => ∃ (x48 : Int), (slices_IndexFunc_int_int_impl_areRunes_1.l1 p0 kf x48).bind G4 = some r ∧ l' = [.slice A0p p0.length c0p, .func (.func 186) #[] #[], undef, undef, getL l' 4, getL l' 5, .slice A0p p0.length c0p, .int .i64 (p0.length : Int), .int .i64 x48, getL l' 9, getL l' 10, getL l' 11, getL l' 12, getL l' 13, getL l' 14, getL l' 15, getL l' 16, getL l' 17, getL l' 18] ∧ Hp sb s F0 s' []) ((((p0.length : Int)) - (0)).toNat + 2) ⟨0, H, rfl, hH⟩ ?_
    rintro kf l' s60 ⟨x48, H, hl, hH⟩ K60 hK60
    generalize getL l' 4 = j4, getL l' 5 = j5, getL l' 9 = j9, getL l' 10 = j10, getL l' 11 = j11, getL l' 12 = j12, getL l' 13 = j13, getL l' 14 = j14, getL l' 15 = j15, getL l' 16 = j16, getL l' 17 = j17, getL l' 18 = j18 at hl
    subst hl
    cases kf with
    | zero => simp [slices_IndexFunc_int_int_impl_areRunes_1.l1] at H
    | succ kf =>
      rw [slices_IndexFunc_int_int_impl_areRunes_1.l1] at H
      refine HT_seq_k ?_
      intro K61 hK61
      refine HT_region ?_
      refine HL_cons rfl ?_
      refine o_bin rfl rfl rfl ?_
      try dsimp only [putL, setL, evL, getL]
      refine HL_nil ?_
      refine hK61 _ _ ?_
      refine HT_seq_k ?_
      intro K62 hK62
      rcases Bool.eq_false_or_eq_true (decide (x48 < (p0.length : Int))) with hb63 | hb63
      · replace H := iteT hb63 H
        refine HT_true (congrArg Value.bool hb63) ?_
        refine HT_skip ?_
        refine hK62 _ _ ?_
        refine HT_seq_k ?_
        intro K64 hK64
        refine HT_block ?_
        refine HT_seq_k ?_
        intro K65 hK65
        refine HT_region ?_
        refine HL_cons rfl ?_
        refine o_move ?_
        try dsimp only [putL, setL, evL, getL]
        refine HL_cons rfl ?_
        refine o_assign ?_
        try dsimp only [putL, setL, evL, getL]
        refine HL_nil ?_
        refine hK65 _ _ ?_
        refine HT_seq_k ?_
        intro K66 hK66
        refine HT_region ?_
        refine HL_cons rfl ?_
        refine o_move ?_
        try dsimp only [putL, setL, evL, getL]
        refine HL_cons rfl ?_
        refine o_move ?_
        try dsimp only [putL, setL, evL, getL]
        refine HL_cons rfl ?_
        refine o_move ?_
        try dsimp only [putL, setL, evL, getL]
        replace H := headE H
        obtain ⟨u67, hu67, H⟩ := H
        obtain ⟨b67, o67, cs67, hr67, hh67, hel67⟩ := Rd.elb HRp0 hu67
        obtain rfl := hr67
        refine HL_cons rfl ?_
        refine hel67 s60 rfl rfl Try.underlying24 tI3 ?_
        try dsimp only [putL, setL, evL, getL]
        refine HL_cons rfl ?_
        refine o_load' rfl Try.underlying3 rfl ((hh67 hH.bs.mono) 0 _ rfl) ?_
        try dsimp only [putL, setL, evL, getL]
        replace H := headE H
        obtain ⟨u68, hu68, H⟩ := H
        refine HL_cons rfl ?_
        refine o_callv (first := #[]) (cap := #[]) (args := #[.int .i64 u67]) rfl Try.func186 rfl rfl [.int .i64 u67] rfl (by simp) (impl_areRunes_1.ok sb s60 no u67 (Hp.own hH.bs) _ hu68) ?_
        rintro _ s68 ⟨rfl, hD⟩
        replace hH := hH.back0 hD (Up.refl _ _ _)
        clear hD
        dsimp only [addC, setC, rmC, selC, getC] at hH
        try dsimp only [putL, setL, evL, getL]
        refine HL_nil ?_
        refine hK66 _ _ ?_
        rcases Bool.eq_false_or_eq_true u68 with hb69 | hb69
        · replace H := iteT hb69 H
          refine HT_true (congrArg Value.bool hb69) ?_
          refine HT_seq_k ?_
          intro K70 hK70
          refine HT_region ?_
          refine HL_cons rfl ?_
          refine o_move ?_
          try dsimp only [putL, setL, evL, getL]
          refine HL_cons rfl ?_
          refine o_assign ?_
          try dsimp only [putL, setL, evL, getL]
          refine HL_nil ?_
          refine hK70 _ _ ?_
          refine HT_ret ?_
          replace H := escH (fun z hz => hG4 _ hz) H
          exact hQr _ _ [.int .i64 x48] ⟨rfl, trivial⟩ (retH (fun r => slices_IndexFunc_int_int_impl_areRunes_1.post sb s F0 r _ _) (show some _ = some r from H) ⟨rfl, hH⟩)
        · replace H := iteF hb69 H
          refine HT_false (congrArg Value.bool hb69) ?_
          refine HT_skip ?_
          refine hK64 _ _ ?_
          refine HT_region ?_
          refine HL_cons rfl ?_
          refine o_bin rfl rfl rfl ?_
          try dsimp only [putL, setL, evL, getL]
          refine HL_cons rfl ?_
          refine o_move ?_
          try dsimp only [putL, setL, evL, getL]
          refine HL_nil ?_
          exact hK60 _ _ ⟨kf, Nat.lt_succ_self kf, IntKind.i64.wrap (x48 + 1), H, rfl, hH⟩
      · replace H := iteF hb63 H
        refine HT_false (congrArg Value.bool hb63) ?_
        refine HT_exit ?_
        exact hK4 _ _ ⟨H, rfl, hH⟩
  · rintro l' s71 ⟨H, hl, hH⟩
    generalize getL l' 4 = j4, getL l' 5 = j5, getL l' 8 = j8, getL l' 9 = j9, getL l' 10 = j10, getL l' 11 = j11, getL l' 12 = j12, getL l' 13 = j13, getL l' 14 = j14, getL l' 15 = j15, getL l' 16 = j16, getL l' 17 = j17, getL l' 18 = j18 at hl
    subst hl
    replace H := hG4 _ H
    try dsimp only at H
    refine hK2 _ _ ?_
    refine HT_seq_k ?_
    intro K72 hK72
    refine HT_region ?_
    refine HL_cons rfl ?_
    refine o_assign ?_
    try dsimp only [putL, setL, evL, getL]
    refine HL_nil ?_
    refine hK72 _ _ ?_
    refine HT_ret ?_
    exact hQr _ _ [.int .i64 (-1)] ⟨rfl, trivial⟩ (retH (fun r => slices_IndexFunc_int_int_impl_areRunes_1.post sb s F0 r _ _) (show some _ = some r from H) ⟨rfl, hH⟩)
def slices_ContainsFunc_int_int_impl_areRunes_1.f (p0 : List (Int)) : Option Bool := (slices_IndexFunc_int_int_impl_areRunes_1.f p0).bind fun u3 => some (decide (u3 ≥ 0))
def slices_ContainsFunc_int_int_impl_areRunes_1.post (sb s : St) (F0 : Fp) (r : Bool) : Value → St → Prop := fun v s' => v = .bool r ∧ Hp sb s F0 s' []
set_option maxRecDepth 100000 in
set_option maxHeartbeats 4000000 in
theorem slices_ContainsFunc_int_int_impl_areRunes_1.ok (sb s : St) (F0 : Fp) (A0p : Option Addr) (c0p : Nat) (p0 : List (Int)) (HRp0 : Rd KI sb A0p c0p p0) (hH : Hp sb s F0 s []) (r : Bool) (H : slices_ContainsFunc_int_int_impl_areRunes_1.f p0 = some r) : GCall Try.prog 114 #[.slice A0p p0.length c0p, .func (.func 186) #[] #[]] s (slices_ContainsFunc_int_int_impl_areRunes_1.post sb s F0 r) := by
  refine GCall_ofk [.tmp 4] [.slice A0p p0.length c0p, .func (.func 186) #[] #[], undef, undef, undef, undef, undef, undef, undef] Try.func114 rfl rfl rfl ?_
  intro w Q hQr hQn hQp
  replace H := topE H
  unfold slices_ContainsFunc_int_int_impl_areRunes_1.f at H
  refine HT_seq_k ?_
  intro K1 hK1
  refine HT_region ?_
  refine HL_cons rfl ?_
  refine o_assign ?_
  try dsimp only [putL, setL, evL, getL]
  refine HL_nil ?_
  refine hK1 _ _ ?_
  refine HT_seq_k ?_
  intro K2 hK2
  refine HT_region ?_
  refine HL_cons rfl ?_
  refine o_move ?_
  try dsimp only [putL, setL, evL, getL]
  refine HL_cons rfl ?_
  refine o_move ?_
  try dsimp only [putL, setL, evL, getL]
  replace H := headE H
  obtain ⟨u3, hu3, H⟩ := H
  refine HL_cons rfl ?_
  refine o_call (args := #[.slice A0p p0.length c0p, .func (.func 186) #[] #[]]) Try.func184 rfl rfl rfl (slices_IndexFunc_int_int_impl_areRunes_1.ok sb s no A0p c0p p0 HRp0 (Hp.own hH.bs) _ hu3) ?_
  rintro _ s3 ⟨rfl, hD⟩
  replace hH := hH.back0 hD (Up.refl _ _ _)
  clear hD
  dsimp only [addC, setC, rmC, selC, getC] at hH
  try dsimp only [putL, setL, evL, getL]
  refine HL_cons rfl ?_
  refine o_bin rfl rfl rfl ?_
  try dsimp only [putL, setL, evL, getL]
  refine HL_cons rfl ?_
  refine o_assign ?_
  try dsimp only [putL, setL, evL, getL]
  refine HL_nil ?_
  refine hK2 _ _ ?_
  refine HT_ret ?_
  exact hQr _ _ [.bool (decide (u3 ≥ 0))] ⟨rfl, trivial⟩ (retH (fun r => slices_ContainsFunc_int_int_impl_areRunes_1.post sb s F0 r _ _) (show some _ = some r from H) ⟨rfl, hH⟩)
def impl_areRunes.f (p0 : List (Int)) (p1 : Int) : Option Bool := if (decide ((p0.length : Int) ≤ p1)) = true then ((slices_ContainsFunc_int_int_impl_areRunes_1.f p0).bind fun u4 => some (!u4)) else (some false)
def impl_areRunes.post (sb s : St) (F0 : Fp) (r : Bool) : Value → St → Prop := fun v s' => v = .bool r ∧ Hp sb s F0 s' []
set_option maxRecDepth 100000 in
set_option maxHeartbeats 4000000 in
theorem impl_areRunes.ok (sb s : St) (F0 : Fp) (A0p : Option Addr) (c0p : Nat) (p0 : List (Int)) (p1 : Int) (HRp0 : Rd KI sb A0p c0p p0) (hH : Hp sb s F0 s []) (r : Bool) (H : impl_areRunes.f p0 p1 = some r) : GCall Try.prog 118 #[.slice A0p p0.length c0p, .int .i64 p1] s (impl_areRunes.post sb s F0 r) := by
  refine GCall_ofk [.tmp 4] [.slice A0p p0.length c0p, .int .i64 p1, undef, undef, undef, undef, undef, undef, undef, undef, undef, undef, undef, undef] Try.func118 rfl rfl rfl ?_
  intro w Q hQr hQn hQp
  replace H := topE H
  unfold impl_areRunes.f at H
  refine HT_seq_k ?_
  intro K1 hK1
  refine HT_region ?_
  refine HL_cons rfl ?_
  refine o_assign ?_
  try dsimp only [putL, setL, evL, getL]
  refine HL_nil ?_
  refine hK1 _ _ ?_
  refine HT_seq_k ?_
  intro K2 hK2
  refine HT_region ?_
  refine HL_cons rfl ?_
  refine o_move ?_
  try dsimp only [putL, setL, evL, getL]
  refine HL_cons rfl ?_
  refine o_len rfl Try.underlying24 ?_
  try dsimp only [putL, setL, evL, getL]
  refine HL_cons rfl ?_
  refine o_move ?_
  try dsimp only [putL, setL, evL, getL]
  refine HL_cons rfl ?_
  refine o_bin rfl rfl rfl ?_
  try dsimp only [putL, setL, evL, getL]
  refine HL_cons rfl ?_
  refine o_move ?_
  try dsimp only [putL, setL, evL, getL]
  rcases Bool.eq_false_or_eq_true (decide ((p0.length : Int) ≤ p1)) with hb3 | hb3
  · replace H := iteT hb3 H
    refine HL_want ?_ ?_
    · exact wantT (j := 4) (b := true) (t := 9) (c := decide ((p0.length : Int) ≤ p1)) rfl rfl rfl rfl hb3
    refine o_move ?_
    try dsimp only [putL, setL, evL, getL]
    replace H := headE H
    obtain ⟨u4, hu4, H⟩ := H
    refine HL_want ?_ ?_
    · exact wantT (j := 4) (b := true) (t := 9) (c := decide ((p0.length : Int) ≤ p1)) rfl rfl rfl rfl hb3
    refine o_call (args := #[.slice A0p p0.length c0p, .func (.func 186) #[] #[]]) Try.func114 rfl rfl rfl (slices_ContainsFunc_int_int_impl_areRunes_1.ok sb s no A0p c0p p0 HRp0 (Hp.own hH.bs) _ hu4) ?_
    rintro _ s4 ⟨rfl, hD⟩
    replace hH := hH.back0 hD (Up.refl _ _ _)
    clear hD
    dsimp only [addC, setC, rmC, selC, getC] at hH
    try dsimp only [putL, setL, evL, getL]
    refine HL_want ?_ ?_
    · exact wantT (j := 4) (b := true) (t := 9) (c := decide ((p0.length : Int) ≤ p1)) rfl rfl rfl rfl hb3
    refine o_not rfl ?_
    try dsimp only [putL, setL, evL, getL]
    refine HL_cons rfl ?_
    refine o_pickT rfl hb3 ?_
    try dsimp only [putL, setL, evL, getL]
    refine HL_cons rfl ?_
    refine o_assign ?_
    try dsimp only [putL, setL, evL, getL]
    refine HL_nil ?_
    refine hK2 _ _ ?_
    refine HT_ret ?_
    exact hQr _ _ [.bool (!u4)] ⟨rfl, trivial⟩ (retH (fun r => impl_areRunes.post sb s F0 r _ _) (show some _ = some r from H) ⟨rfl, hH⟩)
  · replace H := iteF hb3 H
    refine HL_skip ?_ ?_
    · exact wantF (j := 4) (b := true) (t := 9) (c := decide ((p0.length : Int) ≤ p1)) rfl rfl rfl rfl hb3
    try dsimp only [putL, setL, evL, getL]
    refine HL_skip ?_ ?_
    · exact wantF (j := 4) (b := true) (t := 9) (c := decide ((p0.length : Int) ≤ p1)) rfl rfl rfl rfl hb3
    try dsimp only [putL, setL, evL, getL]
    refine HL_skip ?_ ?_
    · exact wantF (j := 4) (b := true) (t := 9) (c := decide ((p0.length : Int) ≤ p1)) rfl rfl rfl rfl hb3
    try dsimp only [putL, setL, evL, getL]
    refine HL_cons rfl ?_
    refine o_pickF rfl hb3 ?_
    try dsimp only [putL, setL, evL, getL]
    refine HL_cons rfl ?_
    refine o_assign ?_
    try dsimp only [putL, setL, evL, getL]
    refine HL_nil ?_
    refine hK2 _ _ ?_
    refine HT_ret ?_
    exact hQr _ _ [.bool false] ⟨rfl, trivial⟩ (retH (fun r => impl_areRunes.post sb s F0 r _ _) (show some _ = some r from H) ⟨rfl, hH⟩)
def impl_areShort_1.f (p0 : List (Int)) : Option Bool := (impl_areRunes.f p0 60).bind fun u3 => some (!u3)
def impl_areShort_1.post (sb s : St) (F0 : Fp) (r : Bool) : Value → St → Prop := fun v s' => v = .bool r ∧ Hp sb s F0 s' []
set_option maxRecDepth 100000 in
set_option maxHeartbeats 4000000 in
theorem impl_areShort_1.ok (sb s : St) (F0 : Fp) (A0p : Option Addr) (c0p : Nat) (p0 : List (Int)) (HRp0 : Rd KI sb A0p c0p p0) (hH : Hp sb s F0 s []) (r : Bool) (H : impl_areShort_1.f p0 = some r) : GCall Try.prog 181 #[.slice A0p p0.length c0p] s (impl_areShort_1.post sb s F0 r) := by
  refine GCall_ofk [.tmp 2] [.slice A0p p0.length c0p, undef, undef, undef, undef, undef] Try.func181 rfl rfl rfl ?_
  intro w Q hQr hQn hQp
  replace H := topE H
  unfold impl_areShort_1.f at H
  refine HT_seq_k ?_
  intro K1 hK1
  refine HT_region ?_
  refine HL_cons rfl ?_
  refine o_assign ?_
  try dsimp only [putL, setL, evL, getL]
  refine HL_nil ?_
  refine hK1 _ _ ?_
  refine HT_seq_k ?_
  intro K2 hK2
  refine HT_region ?_
  refine HL_cons rfl ?_
  refine o_move ?_
  try dsimp only [putL, setL, evL, getL]
  replace H := headE H
  obtain ⟨u3, hu3, H⟩ := H
  refine HL_cons rfl ?_
  refine o_call (args := #[.slice A0p p0.length c0p, .int .i64 60]) Try.func118 rfl rfl rfl (impl_areRunes.ok sb s no A0p c0p p0 60 HRp0 (Hp.own hH.bs) _ hu3) ?_
  rintro _ s3 ⟨rfl, hD⟩
  replace hH := hH.back0 hD (Up.refl _ _ _)
  clear hD
  dsimp only [addC, setC, rmC, selC, getC] at hH
  try dsimp only [putL, setL, evL, getL]
  refine HL_cons rfl ?_
  refine o_not rfl ?_
  try dsimp only [putL, setL, evL, getL]
  refine HL_cons rfl ?_
  refine o_assign ?_
  try dsimp only [putL, setL, evL, getL]
  refine HL_nil ?_
  refine hK2 _ _ ?_
  refine HT_ret ?_
  exact hQr _ _ [.bool (!u3)] ⟨rfl, trivial⟩ (retH (fun r => impl_areShort_1.post sb s F0 r _ _) (show some _ = some r from H) ⟨rfl, hH⟩)
def slices_IndexFunc_int_int_impl_areShort_1.l1 (p0 : List (List (Int))) : Nat → Int → Option (Lo Unit Int)
  | 0, _ => none
  | kf + 1, x52 => if (decide (x52 < (p0.length : Int))) = true then ((rd? p0 x52).bind fun u72 => (impl_areShort_1.f u72).bind fun u74 => if u74 = true then ((some x52).bind fun z => some (Lo.ret z)) else (slices_IndexFunc_int_int_impl_areShort_1.l1 p0 kf (IntKind.i64.wrap (x52 + 1)))) else (some (Lo.go ()))
def slices_IndexFunc_int_int_impl_areShort_1.f (p0 : List (List (Int))) : Option Int := (slices_IndexFunc_int_int_impl_areShort_1.l1 p0 ((((p0.length : Int)) - (0)).toNat + 2) 0).bind fun (o : Lo Unit Int) => match o with | .go () => (some (-1)) | .ret z => some z
def slices_IndexFunc_int_int_impl_areShort_1.post (sb s : St) (F0 : Fp) (r : Int) : Value → St → Prop := fun v s' => v = .int .i64 r ∧ Hp sb s F0 s' []
set_option maxRecDepth 100000 in
set_option maxHeartbeats 4000000 in
theorem slices_IndexFunc_int_int_impl_areShort_1.ok (sb s : St) (F0 : Fp) (A0p : Option Addr) (c0p : Nat) (p0 : List (List (Int))) (HRp0 : Rd (Kd.sl KI) sb A0p c0p p0) (hH : Hp sb s F0 s []) (r : Int) (H : slices_IndexFunc_int_int_impl_areShort_1.f p0 = some r) : GCall Try.prog 218 #[.slice A0p p0.length c0p, .func (.func 181) #[] #[]] s (slices_IndexFunc_int_int_impl_areShort_1.post sb s F0 r) := by
  refine GCall_ofk [.tmp 4] [.slice A0p p0.length c0p, .func (.func 181) #[] #[], undef, undef, undef, undef, undef, undef, undef, undef, undef, undef, undef, undef, undef, undef, undef, undef, undef] Try.func218 rfl rfl rfl ?_
  intro w Q hQr hQn hQp
  replace H := topE H
  unfold slices_IndexFunc_int_int_impl_areShort_1.f at H
  refine HT_seq_k ?_
  intro K1 hK1
  refine HT_region ?_
  refine HL_cons rfl ?_
  refine o_assign ?_
  try dsimp only [putL, setL, evL, getL]
  refine HL_nil ?_
  refine hK1 _ _ ?_
  refine HT_seq_k ?_
  intro K2 hK2
  refine HT_seq_k ?_
  intro K3 hK3
  refine HT_region ?_
  refine HL_cons rfl ?_
  refine o_move ?_
  try dsimp only [putL, setL, evL, getL]
  refine HL_cons rfl ?_
  refine o_len rfl Try.underlying105 ?_
  try dsimp only [putL, setL, evL, getL]
  refine HL_cons rfl ?_
  refine o_move ?_
  try dsimp only [putL, setL, evL, getL]
  refine HL_nil ?_
  refine hK3 _ _ ?_
  refine joinH H fun G4 hG4 H => ?_
  refine HT_toK (fun l' s' => G4 (.go ()) = some r ∧ l' = [.slice A0p p0.length c0p, .func (.func 181) #[] #[], undef, undef, getL l' 4, getL l' 5, .slice A0p p0.length c0p, .int .i64 (p0.length : Int), getL l' 8, getL l' 9, getL l' 10, getL l' 11, getL l' 12, getL l' 13, getL l' 14, getL l' 15, getL l' 16, getL l' 17, getL l' 18] ∧ Hp sb s F0 s' []) ?_ ?_
  · intro K4 hK4
    refine HT_block ?_
    refine HT_loopK (fun kf l' s' => ∃ (x52 : Int), (slices_IndexFunc_int_int_impl_areShort_1.l1 p0 kf x52).bind G4 = some r ∧ l' = [.slice A0p p0.length c0p, .func (.func 181) #[] #[], undef, undef, getL l' 4, getL l' 5, .slice A0p p0.length c0p, .int .i64 (p0.length : Int), .int .i64 x52, getL l' 9, getL l' 10, getL l' 11, getL l' 12, getL l' 13, getL l' 14, getL l' 15, getL l' 16, getL l' 17, getL l' 18] ∧ Hp sb s F0 s' []) ((((p0.length : Int)) - (0)).toNat + 2) ⟨0, H, rfl, hH⟩ ?_
    rintro kf l' s65 ⟨x52, H, hl, hH⟩ K65 hK65
    generalize getL l' 4 = j4, getL l' 5 = j5, getL l' 9 = j9, getL l' 10 = j10, getL l' 11 = j11, getL l' 12 = j12, getL l' 13 = j13, getL l' 14 = j14, getL l' 15 = j15, getL l' 16 = j16, getL l' 17 = j17, getL l' 18 = j18 at hl
    subst hl
    cases kf with
    | zero => simp [slices_IndexFunc_int_int_impl_areShort_1.l1] at H
    | succ kf =>
      rw [slices_IndexFunc_int_int_impl_areShort_1.l1] at H
      refine HT_seq_k ?_
      intro K66 hK66
      refine HT_region ?_
      refine HL_cons rfl ?_
      refine o_bin rfl rfl rfl ?_
      try dsimp only [putL, setL, evL, getL]
      refine HL_nil ?_
      refine hK66 _ _ ?_
      refine HT_seq_k ?_
      intro K67 hK67
      rcases Bool.eq_false_or_eq_true (decide (x52 < (p0.length : Int))) with hb68 | hb68
      · replace H := iteT hb68 H
        refine HT_true (congrArg Value.bool hb68) ?_
        refine HT_skip ?_
        refine hK67 _ _ ?_
        refine HT_seq_k ?_
        intro K69 hK69
        refine HT_block ?_
        refine HT_seq_k ?_
        intro K70 hK70
        refine HT_region ?_
        refine HL_cons rfl ?_
        refine o_move ?_
        try dsimp only [putL, setL, evL, getL]
        refine HL_cons rfl ?_
        refine o_assign ?_
        try dsimp only [putL, setL, evL, getL]
        refine HL_nil ?_
        refine hK70 _ _ ?_
        refine HT_seq_k ?_
        intro K71 hK71
        refine HT_region ?_
        refine HL_cons rfl ?_
        refine o_move ?_
        try dsimp only [putL, setL, evL, getL]
        refine HL_cons rfl ?_
        refine o_move ?_
        try dsimp only [putL, setL, evL, getL]
        refine HL_cons rfl ?_
        refine o_move ?_
        try dsimp only [putL, setL, evL, getL]
        replace H := headE H
        obtain ⟨u72, hu72, H⟩ := H
        obtain ⟨b72, o72, cs72, hr72, hh72, hel72⟩ := Rd.elb HRp0 hu72
        obtain ⟨A73, c73, rfl, D73⟩ := hr72
        refine HL_cons rfl ?_
        refine hel72 s65 rfl rfl Try.underlying105 tI24 ?_
        try dsimp only [putL, setL, evL, getL]
        refine HL_cons rfl ?_
        refine o_load' rfl Try.underlying24 rfl ((hh72 hH.bs.mono) 0 _ rfl) ?_
        try dsimp only [putL, setL, evL, getL]
        replace H := headE H
        obtain ⟨u74, hu74, H⟩ := H
        refine HL_cons rfl ?_
        refine o_callv (first := #[]) (cap := #[]) (args := #[.slice A73 u72.length c73]) rfl Try.func181 rfl rfl [.slice A73 u72.length c73] rfl (by simp) (impl_areShort_1.ok sb s65 no A73 c73 u72 D73 (Hp.own hH.bs) _ hu74) ?_
        rintro _ s74 ⟨rfl, hD⟩
        replace hH := hH.back0 hD (Up.refl _ _ _)
        clear hD
        dsimp only [addC, setC, rmC, selC, getC] at hH
        try dsimp only [putL, setL, evL, getL]
        refine HL_nil ?_
        refine hK71 _ _ ?_
        rcases Bool.eq_false_or_eq_true u74 with hb75 | hb75
        · replace H := iteT hb75 H
          refine HT_true (congrArg Value.bool hb75) ?_
          refine HT_seq_k ?_
          intro K76 hK76
          refine HT_region ?_
          refine HL_cons rfl ?_
          refine o_move ?_
          try dsimp only [putL, setL, evL, getL]
          refine HL_cons rfl ?_
          refine o_assign ?_
          try dsimp only [putL, setL, evL, getL]
          refine HL_nil ?_
          refine hK76 _ _ ?_
          refine HT_ret ?_
          replace H := escH (fun z hz => hG4 _ hz) H
          exact hQr _ _ [.int .i64 x52] ⟨rfl, trivial⟩ (retH (fun r => slices_IndexFunc_int_int_impl_areShort_1.post sb s F0 r _ _) (show some _ = some r from H) ⟨rfl, hH⟩)
        · replace H := iteF hb75 H
          refine HT_false (congrArg Value.bool hb75) ?_
          refine HT_skip ?_
          refine hK69 _ _ ?_
          refine HT_region ?_
          refine HL_cons rfl ?_
          refine o_bin rfl rfl rfl ?_
          try dsimp only [putL, setL, evL, getL]
          refine HL_cons rfl ?_
          refine o_move ?_
          try dsimp only [putL, setL, evL, getL]
          refine HL_nil ?_
          exact hK65 _ _ ⟨kf, Nat.lt_succ_self kf, IntKind.i64.wrap (x52 + 1), H, rfl, hH⟩
      · replace H := iteF hb68 H
        refine HT_false (congrArg Value.bool hb68) ?_
        refine HT_exit ?_
        exact hK4 _ _ ⟨H, rfl, hH⟩
  · rintro l' s77 ⟨H, hl, hH⟩
    generalize getL l' 4 = j4, getL l' 5 = j5, getL l' 8 = j8, getL l' 9 = j9, getL l' 10 = j10, getL l' 11 = j11, getL l' 12 = j12, getL l' 13 = j13, getL l' 14 = j14, getL l' 15 = j15, getL l' 16 = j16, getL l' 17 = j17, getL l' 18 = j18 at hl
    subst hl
    replace H := hG4 _ H
    try dsimp only at H
    refine hK2 _ _ ?_
    refine HT_seq_k ?_
    intro K78 hK78
    refine HT_region ?_
    refine HL_cons rfl ?_
    refine o_assign ?_
    try dsimp only [putL, setL, evL, getL]
    refine HL_nil ?_
    refine hK78 _ _ ?_
    refine HT_ret ?_
    exact hQr _ _ [.int .i64 (-1)] ⟨rfl, trivial⟩ (retH (fun r => slices_IndexFunc_int_int_impl_areShort_1.post sb s F0 r _ _) (show some _ = some r from H) ⟨rfl, hH⟩)
def slices_ContainsFunc_int_int_impl_areShort_1.f (p0 : List (List (Int))) : Option Bool := (slices_IndexFunc_int_int_impl_areShort_1.f p0).bind fun u3 => some (decide (u3 ≥ 0))
def slices_ContainsFunc_int_int_impl_areShort_1.post (sb s : St) (F0 : Fp) (r : Bool) : Value → St → Prop := fun v s' => v = .bool r ∧ Hp sb s F0 s' []
set_option maxRecDepth 100000 in
set_option maxHeartbeats 4000000 in
theorem slices_ContainsFunc_int_int_impl_areShort_1.ok (sb s : St) (F0 : Fp) (A0p : Option Addr) (c0p : Nat) (p0 : List (List (Int))) (HRp0 : Rd (Kd.sl KI) sb A0p c0p p0) (hH : Hp sb s F0 s []) (r : Bool) (H : slices_ContainsFunc_int_int_impl_areShort_1.f p0 = some r) : GCall Try.prog 180 #[.slice A0p p0.length c0p, .func (.func 181) #[] #[]] s (slices_ContainsFunc_int_int_impl_areShort_1.post sb s F0 r) := by
  refine GCall_ofk [.tmp 4] [.slice A0p p0.length c0p, .func (.func 181) #[] #[], undef, undef, undef, undef, undef, undef, undef] Try.func180 rfl rfl rfl ?_
  intro w Q hQr hQn hQp
  replace H := topE H
  unfold slices_ContainsFunc_int_int_impl_areShort_1.f at H
  refine HT_seq_k ?_
  intro K1 hK1
  refine HT_region ?_
  refine HL_cons rfl ?_
  refine o_assign ?_
  try dsimp only [putL, setL, evL, getL]
  refine HL_nil ?_
  refine hK1 _ _ ?_
  refine HT_seq_k ?_
  intro K2 hK2
  refine HT_region ?_
  refine HL_cons rfl ?_
  refine o_move ?_
  try dsimp only [putL, setL, evL, getL]
  refine HL_cons rfl ?_
  refine o_move ?_
  try dsimp only [putL, setL, evL, getL]
  replace H := headE H
  obtain ⟨u3, hu3, H⟩ := H
  refine HL_cons rfl ?_
  refine o_call (args := #[.slice A0p p0.length c0p, .func (.func 181) #[] #[]]) Try.func218 rfl rfl rfl (slices_IndexFunc_int_int_impl_areShort_1.ok sb s no A0p c0p p0 HRp0 (Hp.own hH.bs) _ hu3) ?_
  rintro _ s3 ⟨rfl, hD⟩
  replace hH := hH.back0 hD (Up.refl _ _ _)
  clear hD
  dsimp only [addC, setC, rmC, selC, getC] at hH
  try dsimp only [putL, setL, evL, getL]
  refine HL_cons rfl ?_
  refine o_bin rfl rfl rfl ?_
  try dsimp only [putL, setL, evL, getL]
  refine HL_cons rfl ?_
  refine o_assign ?_
  try dsimp only [putL, setL, evL, getL]
  refine HL_nil ?_
  refine hK2 _ _ ?_
  refine HT_ret ?_
  exact hQr _ _ [.bool (decide (u3 ≥ 0))] ⟨rfl, trivial⟩ (retH (fun r => slices_ContainsFunc_int_int_impl_areShort_1.post sb s F0 r _ _) (show some _ = some r from H) ⟨rfl, hH⟩)
def impl_areShort.f (p0 : List (List (Int))) : Option Bool := (slices_ContainsFunc_int_int_impl_areShort_1.f p0).bind fun u3 => some (!u3)
def impl_areShort.post (sb s : St) (F0 : Fp) (r : Bool) : Value → St → Prop := fun v s' => v = .bool r ∧ Hp sb s F0 s' []
set_option maxRecDepth 100000 in
set_option maxHeartbeats 4000000 in
theorem impl_areShort.ok (sb s : St) (F0 : Fp) (A0p : Option Addr) (c0p : Nat) (p0 : List (List (Int))) (HRp0 : Rd (Kd.sl KI) sb A0p c0p p0) (hH : Hp sb s F0 s []) (r : Bool) (H : impl_areShort.f p0 = some r) : GCall Try.prog 99 #[.slice A0p p0.length c0p] s (impl_areShort.post sb s F0 r) := by
  refine GCall_ofk [.tmp 2] [.slice A0p p0.length c0p, undef, undef, undef, undef, undef] Try.func99 rfl rfl rfl ?_
  intro w Q hQr hQn hQp
  replace H := topE H
  unfold impl_areShort.f at H
  refine HT_seq_k ?_
  intro K1 hK1
  refine HT_region ?_
  refine HL_cons rfl ?_
  refine o_assign ?_
  try dsimp only [putL, setL, evL, getL]
  refine HL_nil ?_
  refine hK1 _ _ ?_
  refine HT_seq_k ?_
  intro K2 hK2
  refine HT_region ?_
  refine HL_cons rfl ?_
  refine o_move ?_
  try dsimp only [putL, setL, evL, getL]
  replace H := headE H
  obtain ⟨u3, hu3, H⟩ := H
  refine HL_cons rfl ?_
  refine o_call (args := #[.slice A0p p0.length c0p, .func (.func 181) #[] #[]]) Try.func180 rfl rfl rfl (slices_ContainsFunc_int_int_impl_areShort_1.ok sb s no A0p c0p p0 HRp0 (Hp.own hH.bs) _ hu3) ?_
  rintro _ s3 ⟨rfl, hD⟩
  replace hH := hH.back0 hD (Up.refl _ _ _)
  clear hD
  dsimp only [addC, setC, rmC, selC, getC] at hH
  try dsimp only [putL, setL, evL, getL]
  refine HL_cons rfl ?_
  refine o_not rfl ?_
  try dsimp only [putL, setL, evL, getL]
  refine HL_cons rfl ?_
  refine o_assign ?_
  try dsimp only [putL, setL, evL, getL]
  refine HL_nil ?_
  refine hK2 _ _ ?_
  refine HT_ret ?_
  exact hQr _ _ [.bool (!u3)] ⟨rfl, trivial⟩ (retH (fun r => impl_areShort.post sb s F0 r _ _) (show some _ = some r from H) ⟨rfl, hH⟩)
def impl_commons.l2 (p0 : List (Int)) (p1 : List (Int)) (x3214 : Int) : Nat → (List (List (Int))) → Int → Option (List (List (Int)))
  | 0, _, _ => none
  | kf + 1, x4685, x4686 => (if (decide (x4686 ≥ 0)) = true then (some (decide (x3214 < (p0.length : Int)))) else (some false)).bind fun (o : Bool) => match o with | x4763 => (if x4763 = true then (((rd? p0 x3214).bind fun u4793 => (rd? p1 x4686).bind fun u4794 => if (u4793 == u4794) = true then ((rd? x4685 (IntKind.i64.wrap (x3214 + 1))).bind fun u4796 => (rd? u4796 (IntKind.i64.wrap (x4686 + 1))).bind fun u4798 => (rd? x4685 x3214).bind fun u4799 => (rd? u4799 x4686).bind fun u4801 => (st? u4799 x4686 (IntKind.i64.wrap (u4798 + 1))).bind fun x4802 => (st? x4685 x3214 x4802).bind fun x4803 => some x4803) else ((rd? x4685 (IntKind.i64.wrap (x3214 + 1))).bind fun u4804 => (rd? u4804 x4686).bind fun u4806 => (rd? x4685 x3214).bind fun u4807 => (rd? u4807 (IntKind.i64.wrap (x4686 + 1))).bind fun u4809 => (rd? x4685 x3214).bind fun u4810 => (rd? u4810 x4686).bind fun u4812 => (st? u4810 x4686 (max u4806 u4809)).bind fun x4813 => (st? x4685 x3214 x4813).bind fun x4814 => some x4814)).bind fun (o : (List (List (Int)))) => match o with | x4791 => (impl_commons.l2 p0 p1 x3214 kf x4791 (IntKind.i64.wrap (x4686 - 1)))) else (some x4685))
def impl_commons.l1 (p0 : List (Int)) (p1 : List (Int)) : Nat → (List (List (Int))) → Int → Option (List (List (Int)))
  | 0, _, _ => none
  | kf + 1, x3213, x3214 => if (decide (x3214 ≥ 0)) = true then (((mk? 17592186044416 0 (IntKind.i64.wrap ((p1.length : Int) + 1))).bind fun x4421 => (rd? x3213 x3214).bind fun u4422 => (st? x3213 x3214 x4421).bind fun x4424 => (impl_commons.l2 p0 p1 x3214 (((IntKind.i64.wrap ((p1.length : Int) - 1)) - (0)).toNat + 2) x4424 (IntKind.i64.wrap ((p1.length : Int) - 1))).bind fun (o : (List (List (Int)))) => match o with | x4621 => (some x4621)).bind fun (o : (List (List (Int)))) => match o with | x4419 => (impl_commons.l1 p0 p1 kf x4419 (IntKind.i64.wrap (x3214 - 1)))) else (some x3213)
def impl_commons.f (p0 : List (Int)) (p1 : List (Int)) : Option (List (List (Int))) := (mk? 5864062014805 [] (IntKind.i64.wrap ((p0.length : Int) + 1))).bind fun x3 => (impl_commons.l1 p0 p1 ((((p0.length : Int)) - (0)).toNat + 2) x3 (p0.length : Int)).bind fun (o : (List (List (Int)))) => match o with | x2412 => (some x2412)
def impl_commons.post (sb s : St) (F0 : Fp) (r : (List (List (Int)))) : Value → St → Prop := fun v s' => ∃ (A0 : Option Addr) (c0 : Nat), v = .slice A0 r.length c0 ∧ Hp sb s F0 s' [Ck.ol (Ow.sl OI 3) 24 A0 c0 r]
set_option maxRecDepth 100000 in
set_option maxHeartbeats 4000000 in
theorem impl_commons.ok (sb s : St) (F0 : Fp) (A0p : Option Addr) (c0p : Nat) (p0 : List (Int)) (A1p : Option Addr) (c1p : Nat) (p1 : List (Int)) (HRp0 : Rd KI sb A0p c0p p0) (HRp1 : Rd KI sb A1p c1p p1) (hH : Hp sb s F0 s []) (r : (List (List (Int)))) (H : impl_commons.f p0 p1 = some r) : GCall Try.prog 207 #[.slice A0p p0.length c0p, .slice A1p p1.length c1p] s (impl_commons.post sb s F0 r) := by
  refine GCall_ofk [.tmp 4] [.slice A0p p0.length c0p, .slice A1p p1.length c1p, undef, undef, undef, undef, undef, undef, undef, undef, undef, undef, undef, undef, undef, undef, undef, undef, undef, undef, undef, undef, undef, undef, undef, undef, undef, undef, undef, undef, undef, undef, undef, undef, undef, undef, undef, undef, undef, undef, undef, undef, undef, undef, undef, undef, undef, undef, undef, undef, undef, undef, undef, undef, undef, undef, undef, undef, undef, undef, undef, undef, undef, undef, undef, undef, undef, undef, undef, undef, undef, undef, undef, undef, undef, undef, undef, undef, undef, undef, undef, undef, undef, undef, undef, undef, undef] Try.func207 rfl rfl rfl ?_
  intro w Q hQr hQn hQp
  replace H := topE H
  unfold impl_commons.f at H
  refine HT_seq_k ?_
  intro K1 hK1
  refine HT_region ?_
  refine HL_cons rfl ?_
  refine o_assign ?_
  try dsimp only [putL, setL, evL, getL]
  refine HL_nil ?_
  refine hK1 _ _ ?_
  refine HT_seq_k ?_
  intro K2 hK2
  refine HT_region ?_
  refine HL_cons rfl ?_
  refine o_move ?_
  try dsimp only [putL, setL, evL, getL]
  refine HL_cons rfl ?_
  refine o_len rfl Try.underlying24 ?_
  try dsimp only [putL, setL, evL, getL]
  refine HL_cons rfl ?_
  refine o_bin rfl rfl rfl ?_
  try dsimp only [putL, setL, evL, getL]
  replace H := headE H
  obtain ⟨x3, hx3, H⟩ := H
  refine HL_cons rfl ?_
  refine o_makeH (K := (Kd.sl KI)) (O := (Ow.sl OI 3)) (x0 := []) hH rfl Try.underlying105 tI24 rfl (by decide) (by decide) (by decide) Own0.nil hx3 ?_
  intro A3 c3 s3 hH' hG
  replace hH : Hp sb s F0 s3 [Ck.ol (Ow.sl OI 3) 24 A3 c3 x3] := hH'
  clear hH' hG
  try dsimp only [putL, setL, evL, getL]
  refine HL_cons rfl ?_
  refine o_assign ?_
  try dsimp only [putL, setL, evL, getL]
  refine HL_nil ?_
  refine hK2 _ _ ?_
  refine HT_seq_k ?_
  intro K4 hK4
  refine HT_seq_k ?_
  intro K5 hK5
  refine HT_region ?_
  refine HL_cons rfl ?_
  refine o_move ?_
  try dsimp only [putL, setL, evL, getL]
  refine HL_cons rfl ?_
  refine o_len rfl Try.underlying24 ?_
  try dsimp only [putL, setL, evL, getL]
  refine HL_cons rfl ?_
  refine o_assign ?_
  try dsimp only [putL, setL, evL, getL]
  refine HL_nil ?_
  refine hK5 _ _ ?_
  refine joinH H fun G6 hG6 H => ?_
  refine HT_toK (fun l' s' => ∃ (x2412 : List (List (Int))), G6 x2412 = some r ∧ l' = [.slice A0p p0.length c0p, .slice A1p p1.length c1p, undef, undef, .slice none 0 0, .slice A3 x3.length c3, getL l' 6, getL l' 7, .slice A0p p0.length c0p, .int .i64 (p0.length : Int), .int .i64 (IntKind.i64.wrap ((p0.length : Int) + 1)), .slice A3 x3.length c3, .slice A0p p0.length c0p, .int .i64 (p0.length : Int), getL l' 14, getL l' 15, getL l' 16, getL l' 17, getL l' 18, getL l' 19, getL l' 20, getL l' 21, getL l' 22, getL l' 23, getL l' 24, getL l' 25, getL l' 26, getL l' 27, getL l' 28, getL l' 29, getL l' 30, getL l' 31, getL l' 32, getL l' 33, getL l' 34, getL l' 35, getL l' 36, getL l' 37, getL l' 38, getL l' 39, getL l' 40, getL l' 41, getL l' 42, getL l' 43, getL l' 44, getL l' 45, getL l' 46, getL l' 47, getL l' 48, getL l' 49, getL l' 50, getL l' 51, getL l' 52, getL l' 53, getL l' 54, getL l' 55, getL l' 56, getL l' 57, getL l' 58, getL l' 59, getL l' 60, getL l' 61, getL l' 62, getL l' 63, getL l' 64, getL l' 65, getL l' 66, getL l' 67, getL l' 68, getL l' 69, getL l' 70, getL l' 71, getL l' 72, getL l' 73, getL l' 74, getL l' 75, getL l' 76, getL l' 77, getL l' 78, getL l' 79, getL l' 80, getL l' 81, getL l' 82, getL l' 83, getL l' 84, getL l' 85, undef] ∧ Hp sb s F0 s' [Ck.ol (Ow.sl OI 3) 24 A3 c3 x2412] ∧ x2412.length = x3.length) ?_ ?_
  · intro K6 hK6
    refine HT_block ?_
    refine HT_loopK (fun kf l' s' => ∃ (x3213 : List (List (Int))) (x3214 : Int), (impl_commons.l1 p0 p1 kf x3213 x3214).bind G6 = some r ∧ l' = [.slice A0p p0.length c0p, .slice A1p p1.length c1p, undef, undef, .slice none 0 0, .slice A3 x3.length c3, .int .i64 x3214, getL l' 7, .slice A0p p0.length c0p, .int .i64 (p0.length : Int), .int .i64 (IntKind.i64.wrap ((p0.length : Int) + 1)), .slice A3 x3.length c3, .slice A0p p0.length c0p, .int .i64 (p0.length : Int), getL l' 14, getL l' 15, getL l' 16, getL l' 17, getL l' 18, getL l' 19, getL l' 20, getL l' 21, getL l' 22, getL l' 23, getL l' 24, getL l' 25, getL l' 26, getL l' 27, getL l' 28, getL l' 29, getL l' 30, getL l' 31, getL l' 32, getL l' 33, getL l' 34, getL l' 35, getL l' 36, getL l' 37, getL l' 38, getL l' 39, getL l' 40, getL l' 41, getL l' 42, getL l' 43, getL l' 44, getL l' 45, getL l' 46, getL l' 47, getL l' 48, getL l' 49, getL l' 50, getL l' 51, getL l' 52, getL l' 53, getL l' 54, getL l' 55, getL l' 56, getL l' 57, getL l' 58, getL l' 59, getL l' 60, getL l' 61, getL l' 62, getL l' 63, getL l' 64, getL l' 65, getL l' 66, getL l' 67, getL l' 68, getL l' 69, getL l' 70, getL l' 71, getL l' 72, getL l' 73, getL l' 74, getL l' 75, getL l' 76, getL l' 77, getL l' 78, getL l' 79, getL l' 80, getL l' 81, getL l' 82, getL l' 83, getL l' 84, getL l' 85, undef] ∧ Hp sb s F0 s' [Ck.ol (Ow.sl OI 3) 24 A3 c3 x3213] ∧ x3213.length = x3.length) ((((p0.length : Int)) - (0)).toNat + 2) ⟨x3, (p0.length : Int), H, rfl, hH, rfl⟩ ?_
    rintro kf l' s4017 ⟨x3213, x3214, H, hl, hH, hl3213⟩ K4017 hK4017
    generalize getL l' 7 = j7, getL l' 14 = j14, getL l' 15 = j15, getL l' 16 = j16, getL l' 17 = j17, getL l' 18 = j18, getL l' 19 = j19, getL l' 20 = j20, getL l' 21 = j21, getL l' 22 = j22, getL l' 23 = j23, getL l' 24 = j24, getL l' 25 = j25, getL l' 26 = j26, getL l' 27 = j27, getL l' 28 = j28, getL l' 29 = j29, getL l' 30 = j30, getL l' 31 = j31, getL l' 32 = j32, getL l' 33 = j33, getL l' 34 = j34, getL l' 35 = j35, getL l' 36 = j36, getL l' 37 = j37, getL l' 38 = j38, getL l' 39 = j39, getL l' 40 = j40, getL l' 41 = j41, getL l' 42 = j42, getL l' 43 = j43, getL l' 44 = j44, getL l' 45 = j45, getL l' 46 = j46, getL l' 47 = j47, getL l' 48 = j48, getL l' 49 = j49, getL l' 50 = j50, getL l' 51 = j51, getL l' 52 = j52, getL l' 53 = j53, getL l' 54 = j54, getL l' 55 = j55, getL l' 56 = j56, getL l' 57 = j57, getL l' 58 = j58, getL l' 59 = j59, getL l' 60 = j60, getL l' 61 = j61, getL l' 62 = j62, getL l' 63 = j63, getL l' 64 = j64, getL l' 65 = j65, getL l' 66 = j66, getL l' 67 = j67, getL l' 68 = j68, getL l' 69 = j69, getL l' 70 = j70, getL l' 71 = j71, getL l' 72 = j72, getL l' 73 = j73, getL l' 74 = j74, getL l' 75 = j75, getL l' 76 = j76, getL l' 77 = j77, getL l' 78 = j78, getL l' 79 = j79, getL l' 80 = j80, getL l' 81 = j81, getL l' 82 = j82, getL l' 83 = j83, getL l' 84 = j84, getL l' 85 = j85 at hl
    subst hl
    cases kf with
    | zero => simp [impl_commons.l1] at H
    | succ kf =>
      rw [impl_commons.l1] at H
      refine HT_seq_k ?_
      intro K4018 hK4018
      refine HT_seq_k ?_
      intro K4019 hK4019
      refine HT_region ?_
      refine HL_cons rfl ?_
      refine o_move ?_
      try dsimp only [putL, setL, evL, getL]
      refine HL_cons rfl ?_
      refine o_bin rfl rfl rfl ?_
      try dsimp only [putL, setL, evL, getL]
      refine HL_nil ?_
      refine hK4019 _ _ ?_
      rcases Bool.eq_false_or_eq_true (decide (x3214 ≥ 0)) with hb4020 | hb4020
      · replace H := iteT hb4020 H
        refine HT_true (congrArg Value.bool hb4020) ?_
        refine HT_skip ?_
        refine hK4018 _ _ ?_
        refine joinH H fun G4021 hG4021 H => ?_
        refine HT_joinK (fun l' s' => ∃ (x4419 : List (List (Int))), G4021 x4419 = some r ∧ l' = [.slice A0p p0.length c0p, .slice A1p p1.length c1p, undef, undef, .slice none 0 0, .slice A3 x3.length c3, .int .i64 x3214, getL l' 7, .slice A0p p0.length c0p, .int .i64 (p0.length : Int), .int .i64 (IntKind.i64.wrap ((p0.length : Int) + 1)), .slice A3 x3.length c3, .slice A0p p0.length c0p, .int .i64 (p0.length : Int), .int .i64 x3214, .bool (decide (x3214 ≥ 0)), j16, j17, getL l' 18, getL l' 19, getL l' 20, getL l' 21, getL l' 22, getL l' 23, getL l' 24, getL l' 25, getL l' 26, getL l' 27, getL l' 28, getL l' 29, getL l' 30, getL l' 31, getL l' 32, getL l' 33, getL l' 34, getL l' 35, getL l' 36, getL l' 37, getL l' 38, getL l' 39, getL l' 40, getL l' 41, getL l' 42, getL l' 43, getL l' 44, getL l' 45, getL l' 46, getL l' 47, getL l' 48, getL l' 49, getL l' 50, getL l' 51, getL l' 52, getL l' 53, getL l' 54, getL l' 55, getL l' 56, getL l' 57, getL l' 58, getL l' 59, getL l' 60, getL l' 61, getL l' 62, getL l' 63, getL l' 64, getL l' 65, getL l' 66, getL l' 67, getL l' 68, getL l' 69, getL l' 70, getL l' 71, getL l' 72, getL l' 73, getL l' 74, getL l' 75, getL l' 76, getL l' 77, getL l' 78, getL l' 79, getL l' 80, getL l' 81, getL l' 82, getL l' 83, getL l' 84, getL l' 85, undef] ∧ Hp sb s F0 s' [Ck.ol (Ow.sl OI 3) 24 A3 c3 x4419] ∧ x4419.length = x3.length) ?_ ?_
        · intro K4021 hK4021
          refine HT_block ?_
          refine HT_seq_k ?_
          intro K4420 hK4420
          refine HT_region ?_
          refine HL_cons rfl ?_
          refine o_move ?_
          try dsimp only [putL, setL, evL, getL]
          refine HL_cons rfl ?_
          refine o_move ?_
          try dsimp only [putL, setL, evL, getL]
          refine HL_cons rfl ?_
          refine o_move ?_
          try dsimp only [putL, setL, evL, getL]
          refine HL_cons rfl ?_
          refine o_len rfl Try.underlying24 ?_
          try dsimp only [putL, setL, evL, getL]
          refine HL_cons rfl ?_
          refine o_bin rfl rfl rfl ?_
          try dsimp only [putL, setL, evL, getL]
          replace H := headE H
          obtain ⟨x4421, hx4421, H⟩ := H
          refine HL_cons rfl ?_
          refine o_makeH (K := KI) (O := OI) (x0 := 0) hH rfl Try.underlying24 tI3 rfl (by decide) (by decide) (by decide) (Own0.fl fun _ => rfl) hx4421 ?_
          intro A4421 c4421 s4421 hH' hG
          replace hH : Hp sb s F0 s4421 [Ck.ol (Ow.sl OI 3) 24 A3 c3 x3213, Ck.ol OI 3 A4421 c4421 x4421] := hH'
          clear hH' hG
          try dsimp only [putL, setL, evL, getL]
          replace H := headE H
          obtain ⟨u4422, hu4422, H⟩ := H
          obtain ⟨b4422, o4422, cs4422, hA4422, hr4422, hh4422, hel4422⟩ := hH.elo 0 rfl hu4422
          obtain ⟨A4423, c4423, rfl, D4423⟩ := hr4422
          refine HL_cons rfl ?_
          refine hel4422 s4421 (sliceLen hl3213) rfl Try.underlying105 tI24 ?_
          try dsimp only [putL, setL, evL, getL]
          replace hH := hH.conv [1] (by decide) (d := Ck.el (Ow.sl OI 3) [.slice A4421 x4421.length c4421] x4421) Ent.sl
          dsimp only [addC, setC, rmC, selC, getC] at hH
          replace H := headE H
          obtain ⟨x4424, hx4424, H⟩ := H
          refine HL_cons rfl ?_
          refine o_setD (u := x4421) hH 0 2 (by decide) rfl rfl rfl rfl rfl rfl tI24 hA4422 hx4424 ?_
          intro s4424 hH'
          have hl4424 := (st?_len hx4424).trans hl3213
          replace hH : Hp sb s F0 s4424 [Ck.ol (Ow.sl OI 3) 24 A3 c3 x4424, Ck.emp, Ck.emp] := hH'
          clear hH'
          try dsimp only [putL, setL, evL, getL]
          refine HL_nil ?_
          refine hK4420 _ _ ?_
          refine HT_seq_k ?_
          intro K4425 hK4425
          refine HT_region ?_
          refine HL_cons rfl ?_
          refine o_move ?_
          try dsimp only [putL, setL, evL, getL]
          refine HL_cons rfl ?_
          refine o_len rfl Try.underlying24 ?_
          try dsimp only [putL, setL, evL, getL]
          refine HL_cons rfl ?_
          refine o_bin rfl rfl rfl ?_
          try dsimp only [putL, setL, evL, getL]
          refine HL_cons rfl ?_
          refine o_assign ?_
          try dsimp only [putL, setL, evL, getL]
          refine HL_nil ?_
          refine hK4425 _ _ ?_
          refine joinH H fun G4426 hG4426 H => ?_
          refine HT_toK (fun l' s' => ∃ (x4621 : List (List (Int))), G4426 x4621 = some r ∧ l' = [.slice A0p p0.length c0p, .slice A1p p1.length c1p, undef, undef, .slice none 0 0, .slice A3 x3.length c3, .int .i64 x3214, getL l' 7, .slice A0p p0.length c0p, .int .i64 (p0.length : Int), .int .i64 (IntKind.i64.wrap ((p0.length : Int) + 1)), .slice A3 x3.length c3, .slice A0p p0.length c0p, .int .i64 (p0.length : Int), .int .i64 x3214, .bool (decide (x3214 ≥ 0)), j16, j17, .slice A3 x3.length c3, .int .i64 x3214, .slice A1p p1.length c1p, .int .i64 (p1.length : Int), .int .i64 (IntKind.i64.wrap ((p1.length : Int) + 1)), .slice A4421 x4421.length c4421, .pointer (some ⟨b4422, o4422 + Int.toNat x3214 * Kd.sz (Kd.sl KI), none⟩), .slice A1p p1.length c1p, .int .i64 (p1.length : Int), .int .i64 (IntKind.i64.wrap ((p1.length : Int) - 1)), getL l' 28, getL l' 29, getL l' 30, getL l' 31, getL l' 32, getL l' 33, getL l' 34, getL l' 35, getL l' 36, getL l' 37, getL l' 38, getL l' 39, getL l' 40, getL l' 41, getL l' 42, getL l' 43, getL l' 44, getL l' 45, getL l' 46, getL l' 47, getL l' 48, getL l' 49, getL l' 50, getL l' 51, getL l' 52, getL l' 53, getL l' 54, getL l' 55, getL l' 56, getL l' 57, getL l' 58, getL l' 59, getL l' 60, getL l' 61, getL l' 62, getL l' 63, getL l' 64, getL l' 65, getL l' 66, getL l' 67, getL l' 68, getL l' 69, getL l' 70, getL l' 71, getL l' 72, getL l' 73, getL l' 74, getL l' 75, getL l' 76, getL l' 77, getL l' 78, getL l' 79, getL l' 80, getL l' 81, getL l' 82, getL l' 83, getL l' 84, getL l' 85, undef] ∧ Hp sb s F0 s' [Ck.ol (Ow.sl OI 3) 24 A3 c3 x4621] ∧ x4621.length = x3.length) ?_ ?_
          · intro K4426 hK4426
            refine HT_block ?_
            refine HT_loopK (fun kf l' s' => ∃ (x4685 : List (List (Int))) (x4686 : Int), (impl_commons.l2 p0 p1 x3214 kf x4685 x4686).bind G4426 = some r ∧ l' = [.slice A0p p0.length c0p, .slice A1p p1.length c1p, undef, undef, .slice none 0 0, .slice A3 x3.length c3, .int .i64 x3214, .int .i64 x4686, .slice A0p p0.length c0p, .int .i64 (p0.length : Int), .int .i64 (IntKind.i64.wrap ((p0.length : Int) + 1)), .slice A3 x3.length c3, .slice A0p p0.length c0p, .int .i64 (p0.length : Int), .int .i64 x3214, .bool (decide (x3214 ≥ 0)), j16, j17, .slice A3 x3.length c3, .int .i64 x3214, .slice A1p p1.length c1p, .int .i64 (p1.length : Int), .int .i64 (IntKind.i64.wrap ((p1.length : Int) + 1)), .slice A4421 x4421.length c4421, .pointer (some ⟨b4422, o4422 + Int.toNat x3214 * Kd.sz (Kd.sl KI), none⟩), .slice A1p p1.length c1p, .int .i64 (p1.length : Int), .int .i64 (IntKind.i64.wrap ((p1.length : Int) - 1)), getL l' 28, getL l' 29, getL l' 30, getL l' 31, getL l' 32, getL l' 33, getL l' 34, getL l' 35, getL l' 36, getL l' 37, getL l' 38, getL l' 39, getL l' 40, getL l' 41, getL l' 42, getL l' 43, getL l' 44, getL l' 45, getL l' 46, getL l' 47, getL l' 48, getL l' 49, getL l' 50, getL l' 51, getL l' 52, getL l' 53, getL l' 54, getL l' 55, getL l' 56, getL l' 57, getL l' 58, getL l' 59, getL l' 60, getL l' 61, getL l' 62, getL l' 63, getL l' 64, getL l' 65, getL l' 66, getL l' 67, getL l' 68, getL l' 69, getL l' 70, getL l' 71, getL l' 72, getL l' 73, getL l' 74, getL l' 75, getL l' 76, getL l' 77, getL l' 78, getL l' 79, getL l' 80, getL l' 81, getL l' 82, getL l' 83, getL l' 84, getL l' 85, undef] ∧ Hp sb s F0 s' [Ck.ol (Ow.sl OI 3) 24 A3 c3 x4685] ∧ x4685.length = x3.length) (((IntKind.i64.wrap ((p1.length : Int) - 1)) - (0)).toNat + 2) ⟨x4424, IntKind.i64.wrap ((p1.length : Int) - 1), H, rfl, hH.sel [0] (by decide), hl4424⟩ ?_
            rintro kf l' s4752 ⟨x4685, x4686, H, hl, hH, hl4685⟩ K4752 hK4752
            generalize getL l' 28 = j28, getL l' 29 = j29, getL l' 30 = j30, getL l' 31 = j31, getL l' 32 = j32, getL l' 33 = j33, getL l' 34 = j34, getL l' 35 = j35, getL l' 36 = j36, getL l' 37 = j37, getL l' 38 = j38, getL l' 39 = j39, getL l' 40 = j40, getL l' 41 = j41, getL l' 42 = j42, getL l' 43 = j43, getL l' 44 = j44, getL l' 45 = j45, getL l' 46 = j46, getL l' 47 = j47, getL l' 48 = j48, getL l' 49 = j49, getL l' 50 = j50, getL l' 51 = j51, getL l' 52 = j52, getL l' 53 = j53, getL l' 54 = j54, getL l' 55 = j55, getL l' 56 = j56, getL l' 57 = j57, getL l' 58 = j58, getL l' 59 = j59, getL l' 60 = j60, getL l' 61 = j61, getL l' 62 = j62, getL l' 63 = j63, getL l' 64 = j64, getL l' 65 = j65, getL l' 66 = j66, getL l' 67 = j67, getL l' 68 = j68, getL l' 69 = j69, getL l' 70 = j70, getL l' 71 = j71, getL l' 72 = j72, getL l' 73 = j73, getL l' 74 = j74, getL l' 75 = j75, getL l' 76 = j76, getL l' 77 = j77, getL l' 78 = j78, getL l' 79 = j79, getL l' 80 = j80, getL l' 81 = j81, getL l' 82 = j82, getL l' 83 = j83, getL l' 84 = j84, getL l' 85 = j85 at hl
            subst hl
            cases kf with
            | zero => simp [impl_commons.l2] at H
            | succ kf =>
              rw [impl_commons.l2] at H
              refine HT_seq_k ?_
              intro K4760 hK4760
              refine joinH H fun G4761 hG4761 H => ?_
              refine HT_joinK (fun l' s' => ∃ (x4763 : Bool), G4761 x4763 = some r ∧ l' = [.slice A0p p0.length c0p, .slice A1p p1.length c1p, undef, undef, .slice none 0 0, .slice A3 x3.length c3, .int .i64 x3214, .int .i64 x4686, .slice A0p p0.length c0p, .int .i64 (p0.length : Int), .int .i64 (IntKind.i64.wrap ((p0.length : Int) + 1)), .slice A3 x3.length c3, .slice A0p p0.length c0p, .int .i64 (p0.length : Int), .int .i64 x3214, .bool (decide (x3214 ≥ 0)), j16, j17, .slice A3 x3.length c3, .int .i64 x3214, .slice A1p p1.length c1p, .int .i64 (p1.length : Int), .int .i64 (IntKind.i64.wrap ((p1.length : Int) + 1)), .slice A4421 x4421.length c4421, .pointer (some ⟨b4422, o4422 + Int.toNat x3214 * Kd.sz (Kd.sl KI), none⟩), .slice A1p p1.length c1p, .int .i64 (p1.length : Int), .int .i64 (IntKind.i64.wrap ((p1.length : Int) - 1)), getL l' 28, getL l' 29, getL l' 30, getL l' 31, getL l' 32, getL l' 33, getL l' 34, .bool x4763, j36, j37, j38, j39, j40, j41, j42, j43, j44, j45, j46, j47, j48, j49, j50, j51, j52, j53, j54, j55, j56, j57, j58, j59, j60, j61, j62, j63, j64, j65, j66, j67, j68, j69, j70, j71, j72, j73, j74, j75, j76, j77, j78, j79, j80, j81, j82, j83, j84, j85, undef] ∧ Hp sb s F0 s' [Ck.ol (Ow.sl OI 3) 24 A3 c3 x4685]) ?_ ?_
              · intro K4761 hK4761
                refine HT_region ?_
                refine HL_cons rfl ?_
                refine o_move ?_
                try dsimp only [putL, setL, evL, getL]
                refine HL_cons rfl ?_
                refine o_bin rfl rfl rfl ?_
                try dsimp only [putL, setL, evL, getL]
                refine HL_cons rfl ?_
                refine o_move ?_
                try dsimp only [putL, setL, evL, getL]
                rcases Bool.eq_false_or_eq_true (decide (x4686 ≥ 0)) with hb4764 | hb4764
                · replace H := iteT hb4764 H
                  refine HL_want ?_ ?_
                  · exact wantT (j := 2) (b := true) (t := 30) (c := decide (x4686 ≥ 0)) rfl rfl rfl rfl hb4764
                  refine o_move ?_
                  try dsimp only [putL, setL, evL, getL]
                  refine HL_want ?_ ?_
                  · exact wantT (j := 2) (b := true) (t := 30) (c := decide (x4686 ≥ 0)) rfl rfl rfl rfl hb4764
                  refine o_move ?_
                  try dsimp only [putL, setL, evL, getL]
                  refine HL_want ?_ ?_
                  · exact wantT (j := 2) (b := true) (t := 30) (c := decide (x4686 ≥ 0)) rfl rfl rfl rfl hb4764
                  refine o_len rfl Try.underlying24 ?_
                  try dsimp only [putL, setL, evL, getL]
                  refine HL_want ?_ ?_
                  · exact wantT (j := 2) (b := true) (t := 30) (c := decide (x4686 ≥ 0)) rfl rfl rfl rfl hb4764
                  refine o_bin rfl rfl rfl ?_
                  try dsimp only [putL, setL, evL, getL]
                  refine HL_cons rfl ?_
                  refine o_pickT rfl hb4764 ?_
                  try dsimp only [putL, setL, evL, getL]
                  refine HL_nil ?_
                  exact hK4761 _ _ ⟨decide (x3214 < (p0.length : Int)), H, rfl, hH⟩
                · replace H := iteF hb4764 H
                  refine HL_skip ?_ ?_
                  · exact wantF (j := 2) (b := true) (t := 30) (c := decide (x4686 ≥ 0)) rfl rfl rfl rfl hb4764
                  try dsimp only [putL, setL, evL, getL]
                  refine HL_skip ?_ ?_
                  · exact wantF (j := 2) (b := true) (t := 30) (c := decide (x4686 ≥ 0)) rfl rfl rfl rfl hb4764
                  try dsimp only [putL, setL, evL, getL]
                  refine HL_skip ?_ ?_
                  · exact wantF (j := 2) (b := true) (t := 30) (c := decide (x4686 ≥ 0)) rfl rfl rfl rfl hb4764
                  try dsimp only [putL, setL, evL, getL]
                  refine HL_skip ?_ ?_
                  · exact wantF (j := 2) (b := true) (t := 30) (c := decide (x4686 ≥ 0)) rfl rfl rfl rfl hb4764
                  try dsimp only [putL, setL, evL, getL]
                  refine HL_cons rfl ?_
                  refine o_pickF rfl hb4764 ?_
                  try dsimp only [putL, setL, evL, getL]
                  refine HL_nil ?_
                  exact hK4761 _ _ ⟨false, H, rfl, hH⟩
              · rintro l' s4765 ⟨x4763, H, hl, hH⟩
                generalize getL l' 28 = j28, getL l' 29 = j29, getL l' 30 = j30, getL l' 31 = j31, getL l' 32 = j32, getL l' 33 = j33, getL l' 34 = j34 at hl
                subst hl
                replace H := hG4761 _ H
                try dsimp only at H
                rcases Bool.eq_false_or_eq_true x4763 with hb4766 | hb4766
                · replace H := iteT hb4766 H
                  refine HT_true (congrArg Value.bool hb4766) ?_
                  refine HT_skip ?_
                  refine hK4760 _ _ ?_
                  refine joinH H fun G4767 hG4767 H => ?_
                  refine HT_joinK (fun l' s' => ∃ (x4791 : List (List (Int))), G4767 x4791 = some r ∧ l' = [.slice A0p p0.length c0p, .slice A1p p1.length c1p, undef, undef, .slice none 0 0, .slice A3 x3.length c3, .int .i64 x3214, .int .i64 x4686, .slice A0p p0.length c0p, .int .i64 (p0.length : Int), .int .i64 (IntKind.i64.wrap ((p0.length : Int) + 1)), .slice A3 x3.length c3, .slice A0p p0.length c0p, .int .i64 (p0.length : Int), .int .i64 x3214, .bool (decide (x3214 ≥ 0)), j16, j17, .slice A3 x3.length c3, .int .i64 x3214, .slice A1p p1.length c1p, .int .i64 (p1.length : Int), .int .i64 (IntKind.i64.wrap ((p1.length : Int) + 1)), .slice A4421 x4421.length c4421, .pointer (some ⟨b4422, o4422 + Int.toNat x3214 * Kd.sz (Kd.sl KI), none⟩), .slice A1p p1.length c1p, .int .i64 (p1.length : Int), .int .i64 (IntKind.i64.wrap ((p1.length : Int) - 1)), j28, j29, j30, j31, j32, j33, j34, .bool x4763, j36, j37, getL l' 38, getL l' 39, getL l' 40, getL l' 41, getL l' 42, getL l' 43, getL l' 44, getL l' 45, getL l' 46, getL l' 47, getL l' 48, getL l' 49, getL l' 50, getL l' 51, getL l' 52, getL l' 53, getL l' 54, getL l' 55, getL l' 56, getL l' 57, getL l' 58, getL l' 59, getL l' 60, getL l' 61, getL l' 62, getL l' 63, getL l' 64, getL l' 65, getL l' 66, getL l' 67, getL l' 68, getL l' 69, getL l' 70, getL l' 71, getL l' 72, getL l' 73, getL l' 74, getL l' 75, getL l' 76, getL l' 77, getL l' 78, getL l' 79, getL l' 80, getL l' 81, getL l' 82, getL l' 83, getL l' 84, getL l' 85, undef] ∧ Hp sb s F0 s' [Ck.ol (Ow.sl OI 3) 24 A3 c3 x4791] ∧ x4791.length = x3.length) ?_ ?_
                  · intro K4767 hK4767
                    refine HT_block ?_
                    refine HT_seq_k ?_
                    intro K4792 hK4792
                    refine HX_draw hMix ?_
                    refine HX_lim (R := fun _ => True) (k := 0) (fun s' => Gro s4765 s') 10 ?_
                    have hR := Gro.refl s4765
                    have hH0 := hH
                    refine HK_readP 0 (v := .slice A0p p0.length c0p) rfl (by kernel_rfl) (fun c l s h => hQp c l s h) rfl (fun s' K hK => ?_) rfl rfl (fun _ => hR) ?_
                    · refine o_move ?_
                      exact hK
                    try dsimp only [putL, setL, evL, getL]
                    refine HK_readP 1 (v := .int .i64 x3214) rfl (by kernel_rfl) (fun c l s h => hQp c l s h) rfl (fun s' K hK => ?_) rfl rfl (fun _ => hR) ?_
                    · refine o_move ?_
                      exact hK
                    try dsimp only [putL, setL, evL, getL]
                    replace H := headE H
                    obtain ⟨u4793, hu4793, H⟩ := H
                    obtain ⟨b4793, o4793, cs4793, hr4793, hh4793, hel4793⟩ := Rd.elb HRp0 hu4793
                    obtain rfl := hr4793
                    refine HK_readP 2 (v := .pointer (some ⟨b4793, o4793, none⟩)) rfl (by kernel_rfl) (fun c l s h => hQp c l s h) rfl (fun s' K hK => ?_) rfl rfl (fun _ => hR) ?_
                    · refine hel4793 s' rfl rfl Try.underlying24 tI3 ?_
                      exact hK
                    try dsimp only [putL, setL, evL, getL]
                    refine HK_read 3 (v := .int .i64 u4793) rfl (by kernel_rfl) (fun c l s h => hQp c l s h) rfl (fun s' hR' K hK => ?_) rfl rfl hR ?_
                    · refine o_load' rfl Try.underlying3 rfl ((hh4793 (hH0.bs.mono.trans hR'.mono)) 0 _ rfl) ?_
                      exact hK
                    try dsimp only [putL, setL, evL, getL]
                    refine HK_readP 4 (v := .slice A1p p1.length c1p) rfl (by kernel_rfl) (fun c l s h => hQp c l s h) rfl (fun s' K hK => ?_) rfl rfl (fun _ => hR) ?_
                    · refine o_move ?_
                      exact hK
                    try dsimp only [putL, setL, evL, getL]
                    refine HK_readP 5 (v := .int .i64 x4686) rfl (by kernel_rfl) (fun c l s h => hQp c l s h) rfl (fun s' K hK => ?_) rfl rfl (fun _ => hR) ?_
                    · refine o_move ?_
                      exact hK
                    try dsimp only [putL, setL, evL, getL]
                    replace H := headE H
                    obtain ⟨u4794, hu4794, H⟩ := H
                    obtain ⟨b4794, o4794, cs4794, hr4794, hh4794, hel4794⟩ := Rd.elb HRp1 hu4794
                    obtain rfl := hr4794
                    refine HK_readP 6 (v := .pointer (some ⟨b4794, o4794, none⟩)) rfl (by kernel_rfl) (fun c l s h => hQp c l s h) rfl (fun s' K hK => ?_) rfl rfl (fun _ => hR) ?_
                    · refine hel4794 s' rfl rfl Try.underlying24 tI3 ?_
                      exact hK
                    try dsimp only [putL, setL, evL, getL]
                    refine HK_read 7 (v := .int .i64 u4794) rfl (by kernel_rfl) (fun c l s h => hQp c l s h) rfl (fun s' hR' K hK => ?_) rfl rfl hR ?_
                    · refine o_load' rfl Try.underlying3 rfl ((hh4794 (hH0.bs.mono.trans hR'.mono)) 0 _ rfl) ?_
                      exact hK
                    try dsimp only [putL, setL, evL, getL]
                    refine HK_readP 8 (v := .bool (u4793 == u4794)) rfl (by kernel_rfl) (fun c l s h => hQp c l s h) rfl (fun s' K hK => ?_) rfl rfl (fun _ => hR) ?_
                    · refine o_bin rfl rfl rfl ?_
                      exact hK
                    try dsimp only [putL, setL, evL, getL]
                    refine HK_done (fun _ => hR) (by kernel_rfl) ?_
                    refine hK4792 _ _ ?_
                    rcases Bool.eq_false_or_eq_true (u4793 == u4794) with hb4795 | hb4795
                    · replace H := iteT hb4795 H
                      refine HT_true (congrArg Value.bool hb4795) ?_
                      refine HX_draw hMix ?_
                      refine HX_lim (R := fun _ => True) (k := 0) (fun s' => Gro s4765 s') 16 ?_
                      have hR := Gro.refl s4765
                      have hH0 := hH
                      refine HK_readP 5 (v := .slice A3 x3.length c3) rfl (by kernel_rfl) (fun c l s h => hQp c l s h) rfl (fun s' K hK => ?_) rfl rfl (fun _ => hR) ?_
                      · refine o_move ?_
                        exact hK
                      try dsimp only [putL, setL, evL, getL]
                      refine HK_readP 6 (v := .int .i64 x3214) rfl (by kernel_rfl) (fun c l s h => hQp c l s h) rfl (fun s' K hK => ?_) rfl rfl (fun _ => hR) ?_
                      · refine o_move ?_
                        exact hK
                      try dsimp only [putL, setL, evL, getL]
                      refine HK_readP 7 (v := .int .i64 (IntKind.i64.wrap (x3214 + 1))) rfl (by kernel_rfl) (fun c l s h => hQp c l s h) rfl (fun s' K hK => ?_) rfl rfl (fun _ => hR) ?_
                      · refine o_bin rfl rfl rfl ?_
                        exact hK
                      try dsimp only [putL, setL, evL, getL]
                      replace H := headE H
                      obtain ⟨u4796, hu4796, H⟩ := H
                      obtain ⟨b4796, o4796, cs4796, hA4796, hr4796, hh4796, hel4796⟩ := hH0.elo 0 rfl hu4796
                      obtain ⟨A4797, c4797, rfl, D4797⟩ := hr4796
                      refine HK_readP 8 (v := .pointer (some ⟨b4796, o4796 + Int.toNat (IntKind.i64.wrap (x3214 + 1)) * Kd.sz (Kd.sl KI), none⟩)) rfl (by kernel_rfl) (fun c l s h => hQp c l s h) rfl (fun s' K hK => ?_) rfl rfl (fun _ => hR) ?_
                      · refine hel4796 s' (sliceLen hl4685) rfl Try.underlying105 tI24 ?_
                        exact hK
                      try dsimp only [putL, setL, evL, getL]
                      refine HK_read 9 (v := .slice A4797 u4796.length c4797) rfl (by kernel_rfl) (fun c l s h => hQp c l s h) rfl (fun s' hR' K hK => ?_) rfl rfl hR ?_
                      · refine o_load' rfl Try.underlying24 rfl (has_gro hR' (hh4796 0 _ rfl)) ?_
                        exact hK
                      try dsimp only [putL, setL, evL, getL]
                      refine HK_readP 10 (v := .int .i64 x4686) rfl (by kernel_rfl) (fun c l s h => hQp c l s h) rfl (fun s' K hK => ?_) rfl rfl (fun _ => hR) ?_
                      · refine o_move ?_
                        exact hK
                      try dsimp only [putL, setL, evL, getL]
                      refine HK_readP 11 (v := .int .i64 (IntKind.i64.wrap (x4686 + 1))) rfl (by kernel_rfl) (fun c l s h => hQp c l s h) rfl (fun s' K hK => ?_) rfl rfl (fun _ => hR) ?_
                      · refine o_bin rfl rfl rfl ?_
                        exact hK
                      try dsimp only [putL, setL, evL, getL]
                      replace H := headE H
                      obtain ⟨u4798, hu4798, H⟩ := H
                      obtain ⟨b4798, o4798, cs4798, hr4798, hh4798, hel4798⟩ := Rd.el D4797 hu4798
                      obtain rfl := hr4798
                      refine HK_readP 12 (v := .pointer (some ⟨b4798, o4798, none⟩)) rfl (by kernel_rfl) (fun c l s h => hQp c l s h) rfl (fun s' K hK => ?_) rfl rfl (fun _ => hR) ?_
                      · refine hel4798 s' rfl rfl Try.underlying24 tI3 ?_
                        exact hK
                      try dsimp only [putL, setL, evL, getL]
                      refine HK_read 13 (v := .int .i64 u4798) rfl (by kernel_rfl) (fun c l s h => hQp c l s h) rfl (fun s' hR' K hK => ?_) rfl rfl hR ?_
                      · refine o_load' rfl Try.underlying3 rfl (has_gro hR' (hh4798 0 _ rfl)) ?_
                        exact hK
                      try dsimp only [putL, setL, evL, getL]
                      refine HK_readP 14 (v := .int .i64 (IntKind.i64.wrap (u4798 + 1))) rfl (by kernel_rfl) (fun c l s h => hQp c l s h) rfl (fun s' K hK => ?_) rfl rfl (fun _ => hR) ?_
                      · refine o_bin rfl rfl rfl ?_
                        exact hK
                      try dsimp only [putL, setL, evL, getL]
                      refine HK_readP 0 (v := .slice A3 x3.length c3) rfl (by kernel_rfl) (fun c l s h => hQp c l s h) rfl (fun s' K hK => ?_) rfl rfl (fun _ => hR) ?_
                      · refine o_move ?_
                        exact hK
                      try dsimp only [putL, setL, evL, getL]
                      refine HK_readP 1 (v := .int .i64 x3214) rfl (by kernel_rfl) (fun c l s h => hQp c l s h) rfl (fun s' K hK => ?_) rfl rfl (fun _ => hR) ?_
                      · refine o_move ?_
                        exact hK
                      try dsimp only [putL, setL, evL, getL]
                      replace H := headE H
                      obtain ⟨u4799, hu4799, H⟩ := H
                      obtain ⟨b4799, o4799, vs4799, hA4799, -, hH⟩ := hH.open 0 rfl rfl hu4799
                      dsimp only [addC, setC, rmC, selC, getC] at hH
                      obtain ⟨A4800, c4800, rfl, hH⟩ := hH.el_sl 1 rfl rfl
                      dsimp only [addC, setC, rmC, selC, getC] at hH
                      replace hH : Hp sb s F0 s4765 [Ck.oh (Ow.sl OI 3) 24 A3 c3 x4685 (Int.toNat x3214) [.slice A4800 u4799.length c4800], Ck.ol OI 3 A4800 c4800 u4799] := hH
                      refine HK_readP 2 (v := .pointer (some ⟨b4799, o4799 + Int.toNat x3214 * Kd.sz (Kd.sl KI), none⟩)) rfl (by kernel_rfl) (fun c l s h => hQp c l s h) rfl (fun s' K hK => ?_) rfl rfl (fun _ => hR) ?_
                      · refine iaddr_of (K := (Kd.sl KI)) hA4799 hu4799 s' (sliceLen hl4685) rfl Try.underlying105 tI24 ?_
                        exact hK
                      try dsimp only [putL, setL, evL, getL]
                      refine HK_read 3 (v := .slice A4800 u4799.length c4800) rfl (by kernel_rfl) (fun c l s h => hQp c l s h) rfl (fun s' hR' K hK => ?_) rfl rfl hR ?_
                      · refine o_load' rfl Try.underlying24 rfl (has_gro hR' (hH.hasoh 0 rfl hA4799 0 _ rfl)) ?_
                        exact hK
                      try dsimp only [putL, setL, evL, getL]
                      refine HK_readP 4 (v := .int .i64 x4686) rfl (by kernel_rfl) (fun c l s h => hQp c l s h) rfl (fun s' K hK => ?_) rfl rfl (fun _ => hR) ?_
                      · refine o_move ?_
                        exact hK
                      try dsimp only [putL, setL, evL, getL]
                      replace H := headE H
                      obtain ⟨u4801, hu4801, H⟩ := H
                      obtain ⟨b4801, o4801, cs4801, hA4801, hr4801, hh4801, hel4801⟩ := hH.elo 1 rfl hu4801
                      obtain rfl := hr4801
                      refine HK_readP 15 (v := .pointer (some ⟨b4801, o4801 + Int.toNat x4686 * Kd.sz KI, none⟩)) rfl (by kernel_rfl) (fun c l s h => hQp c l s h) rfl (fun s' K hK => ?_) rfl rfl (fun _ => hR) ?_
                      · refine hel4801 s' rfl rfl Try.underlying24 tI3 ?_
                        exact hK
                      try dsimp only [putL, setL, evL, getL]
                      refine HK_more [16] (by kernel_rfl) rfl (fun _ => hR) ⟨⟨_, rfl, Or.inl ⟨rfl, ?_⟩⟩, trivial⟩
                      replace H := headE H
                      obtain ⟨x4802, hx4802, H⟩ := H
                      skip
                      refine o_setF (vs := [.int .i64 (IntKind.i64.wrap (u4798 + 1))]) (u := IntKind.i64.wrap (u4798 + 1)) hH 1 rfl rfl rfl rfl rfl tI3 hA4801 hx4802 (Ent.own (Ent.flat rfl)) ?_
                      intro s4802 hH'
                      have hl4802 := st?_len hx4802
                      replace hH : Hp sb s F0 s4802 [Ck.oh (Ow.sl OI 3) 24 A3 c3 x4685 (Int.toNat x3214) [.slice A4800 u4799.length c4800], Ck.ol OI 3 A4800 c4800 x4802] := hH'
                      clear hH'
                      try dsimp only [putL, setL, evL, getL]
                      refine HK_free (by kernel_rfl) ?_
                      refine HX_done (by kernel_rfl) ?_
                      replace hH := hH.conv [1] (by decide) (d := Ck.el (Ow.sl OI 3) [.slice A4800 u4799.length c4800] x4802) (Ent.slL hl4802)
                      dsimp only [addC, setC, rmC, selC, getC] at hH
                      replace H := headE H
                      obtain ⟨x4803, hx4803, H⟩ := H
                      replace hH := hH.close (i := x3214) 0 2 (by decide) rfl rfl rfl hx4803
                      dsimp only [addC, setC, rmC, selC, getC] at hH
                      have hl4803 := (st?_len hx4803).trans hl4685
                      replace hH : Hp sb s F0 s4802 [Ck.ol (Ow.sl OI 3) 24 A3 c3 x4803, Ck.emp, Ck.emp] := hH
                      exact hK4767 _ _ ⟨x4803, H, rfl, hH.sel [0] (by decide), hl4803⟩
                    · replace H := iteF hb4795 H
                      refine HT_false (congrArg Value.bool hb4795) ?_
                      refine HX_draw hMix ?_
                      refine HX_lim (R := fun _ => True) (k := 0) (fun s' => Gro s4765 s') 23 ?_
                      have hR := Gro.refl s4765
                      have hH0 := hH
                      refine HK_readP 5 (v := .slice A3 x3.length c3) rfl (by kernel_rfl) (fun c l s h => hQp c l s h) rfl (fun s' K hK => ?_) rfl rfl (fun _ => hR) ?_
                      · refine o_move ?_
                        exact hK
                      try dsimp only [putL, setL, evL, getL]
                      refine HK_readP 6 (v := .int .i64 x3214) rfl (by kernel_rfl) (fun c l s h => hQp c l s h) rfl (fun s' K hK => ?_) rfl rfl (fun _ => hR) ?_
                      · refine o_move ?_
                        exact hK
                      try dsimp only [putL, setL, evL, getL]
                      refine HK_readP 7 (v := .int .i64 (IntKind.i64.wrap (x3214 + 1))) rfl (by kernel_rfl) (fun c l s h => hQp c l s h) rfl (fun s' K hK => ?_) rfl rfl (fun _ => hR) ?_
                      · refine o_bin rfl rfl rfl ?_
                        exact hK
                      try dsimp only [putL, setL, evL, getL]
                      replace H := headE H
                      obtain ⟨u4804, hu4804, H⟩ := H
                      obtain ⟨b4804, o4804, cs4804, hA4804, hr4804, hh4804, hel4804⟩ := hH0.elo 0 rfl hu4804
                      obtain ⟨A4805, c4805, rfl, D4805⟩ := hr4804
                      refine HK_readP 8 (v := .pointer (some ⟨b4804, o4804 + Int.toNat (IntKind.i64.wrap (x3214 + 1)) * Kd.sz (Kd.sl KI), none⟩)) rfl (by kernel_rfl) (fun c l s h => hQp c l s h) rfl (fun s' K hK => ?_) rfl rfl (fun _ => hR) ?_
                      · refine hel4804 s' (sliceLen hl4685) rfl Try.underlying105 tI24 ?_
                        exact hK
                      try dsimp only [putL, setL, evL, getL]
                      refine HK_read 9 (v := .slice A4805 u4804.length c4805) rfl (by kernel_rfl) (fun c l s h => hQp c l s h) rfl (fun s' hR' K hK => ?_) rfl rfl hR ?_
                      · refine o_load' rfl Try.underlying24 rfl (has_gro hR' (hh4804 0 _ rfl)) ?_
                        exact hK
                      try dsimp only [putL, setL, evL, getL]
                      refine HK_readP 10 (v := .int .i64 x4686) rfl (by kernel_rfl) (fun c l s h => hQp c l s h) rfl (fun s' K hK => ?_) rfl rfl (fun _ => hR) ?_
                      · refine o_move ?_
                        exact hK
                      try dsimp only [putL, setL, evL, getL]
                      replace H := headE H
                      obtain ⟨u4806, hu4806, H⟩ := H
                      obtain ⟨b4806, o4806, cs4806, hr4806, hh4806, hel4806⟩ := Rd.el D4805 hu4806
                      obtain rfl := hr4806
                      refine HK_readP 11 (v := .pointer (some ⟨b4806, o4806, none⟩)) rfl (by kernel_rfl) (fun c l s h => hQp c l s h) rfl (fun s' K hK => ?_) rfl rfl (fun _ => hR) ?_
                      · refine hel4806 s' rfl rfl Try.underlying24 tI3 ?_
                        exact hK
                      try dsimp only [putL, setL, evL, getL]
                      refine HK_read 12 (v := .int .i64 u4806) rfl (by kernel_rfl) (fun c l s h => hQp c l s h) rfl (fun s' hR' K hK => ?_) rfl rfl hR ?_
                      · refine o_load' rfl Try.underlying3 rfl (has_gro hR' (hh4806 0 _ rfl)) ?_
                        exact hK
                      try dsimp only [putL, setL, evL, getL]
                      refine HK_readP 13 (v := .slice A3 x3.length c3) rfl (by kernel_rfl) (fun c l s h => hQp c l s h) rfl (fun s' K hK => ?_) rfl rfl (fun _ => hR) ?_
                      · refine o_move ?_
                        exact hK
                      try dsimp only [putL, setL, evL, getL]
                      refine HK_readP 14 (v := .int .i64 x3214) rfl (by kernel_rfl) (fun c l s h => hQp c l s h) rfl (fun s' K hK => ?_) rfl rfl (fun _ => hR) ?_
                      · refine o_move ?_
                        exact hK
                      try dsimp only [putL, setL, evL, getL]
                      replace H := headE H
                      obtain ⟨u4807, hu4807, H⟩ := H
                      obtain ⟨b4807, o4807, cs4807, hA4807, hr4807, hh4807, hel4807⟩ := hH0.elo 0 rfl hu4807
                      obtain ⟨A4808, c4808, rfl, D4808⟩ := hr4807
                      refine HK_readP 15 (v := .pointer (some ⟨b4807, o4807 + Int.toNat x3214 * Kd.sz (Kd.sl KI), none⟩)) rfl (by kernel_rfl) (fun c l s h => hQp c l s h) rfl (fun s' K hK => ?_) rfl rfl (fun _ => hR) ?_
                      · refine hel4807 s' (sliceLen hl4685) rfl Try.underlying105 tI24 ?_
                        exact hK
                      try dsimp only [putL, setL, evL, getL]
                      refine HK_read 16 (v := .slice A4808 u4807.length c4808) rfl (by kernel_rfl) (fun c l s h => hQp c l s h) rfl (fun s' hR' K hK => ?_) rfl rfl hR ?_
                      · refine o_load' rfl Try.underlying24 rfl (has_gro hR' (hh4807 0 _ rfl)) ?_
                        exact hK
                      try dsimp only [putL, setL, evL, getL]
                      refine HK_readP 17 (v := .int .i64 x4686) rfl (by kernel_rfl) (fun c l s h => hQp c l s h) rfl (fun s' K hK => ?_) rfl rfl (fun _ => hR) ?_
                      · refine o_move ?_
                        exact hK
                      try dsimp only [putL, setL, evL, getL]
                      refine HK_readP 18 (v := .int .i64 (IntKind.i64.wrap (x4686 + 1))) rfl (by kernel_rfl) (fun c l s h => hQp c l s h) rfl (fun s' K hK => ?_) rfl rfl (fun _ => hR) ?_
                      · refine o_bin rfl rfl rfl ?_
                        exact hK
                      try dsimp only [putL, setL, evL, getL]
                      replace H := headE H
                      obtain ⟨u4809, hu4809, H⟩ := H
                      obtain ⟨b4809, o4809, cs4809, hr4809, hh4809, hel4809⟩ := Rd.el D4808 hu4809
                      obtain rfl := hr4809
                      refine HK_readP 19 (v := .pointer (some ⟨b4809, o4809, none⟩)) rfl (by kernel_rfl) (fun c l s h => hQp c l s h) rfl (fun s' K hK => ?_) rfl rfl (fun _ => hR) ?_
                      · refine hel4809 s' rfl rfl Try.underlying24 tI3 ?_
                        exact hK
                      try dsimp only [putL, setL, evL, getL]
                      refine HK_read 20 (v := .int .i64 u4809) rfl (by kernel_rfl) (fun c l s h => hQp c l s h) rfl (fun s' hR' K hK => ?_) rfl rfl hR ?_
                      · refine o_load' rfl Try.underlying3 rfl (has_gro hR' (hh4809 0 _ rfl)) ?_
                        exact hK
                      try dsimp only [putL, setL, evL, getL]
                      refine HK_readP 21 (v := .int .i64 (max u4806 u4809)) rfl (by kernel_rfl) (fun c l s h => hQp c l s h) rfl (fun s' K hK => ?_) rfl rfl (fun _ => hR) ?_
                      · refine o_max2 rfl rfl ?_
                        exact hK
                      try dsimp only [putL, setL, evL, getL]
                      refine HK_readP 0 (v := .slice A3 x3.length c3) rfl (by kernel_rfl) (fun c l s h => hQp c l s h) rfl (fun s' K hK => ?_) rfl rfl (fun _ => hR) ?_
                      · refine o_move ?_
                        exact hK
                      try dsimp only [putL, setL, evL, getL]
                      refine HK_readP 1 (v := .int .i64 x3214) rfl (by kernel_rfl) (fun c l s h => hQp c l s h) rfl (fun s' K hK => ?_) rfl rfl (fun _ => hR) ?_
                      · refine o_move ?_
                        exact hK
                      try dsimp only [putL, setL, evL, getL]
                      replace H := headE H
                      obtain ⟨u4810, hu4810, H⟩ := H
                      obtain ⟨b4810, o4810, vs4810, hA4810, -, hH⟩ := hH.open 0 rfl rfl hu4810
                      dsimp only [addC, setC, rmC, selC, getC] at hH
                      obtain ⟨A4811, c4811, rfl, hH⟩ := hH.el_sl 1 rfl rfl
                      dsimp only [addC, setC, rmC, selC, getC] at hH
                      replace hH : Hp sb s F0 s4765 [Ck.oh (Ow.sl OI 3) 24 A3 c3 x4685 (Int.toNat x3214) [.slice A4811 u4810.length c4811], Ck.ol OI 3 A4811 c4811 u4810] := hH
                      refine HK_readP 2 (v := .pointer (some ⟨b4810, o4810 + Int.toNat x3214 * Kd.sz (Kd.sl KI), none⟩)) rfl (by kernel_rfl) (fun c l s h => hQp c l s h) rfl (fun s' K hK => ?_) rfl rfl (fun _ => hR) ?_
                      · refine iaddr_of (K := (Kd.sl KI)) hA4810 hu4810 s' (sliceLen hl4685) rfl Try.underlying105 tI24 ?_
                        exact hK
                      try dsimp only [putL, setL, evL, getL]
                      refine HK_read 3 (v := .slice A4811 u4810.length c4811) rfl (by kernel_rfl) (fun c l s h => hQp c l s h) rfl (fun s' hR' K hK => ?_) rfl rfl hR ?_
                      · refine o_load' rfl Try.underlying24 rfl (has_gro hR' (hH.hasoh 0 rfl hA4810 0 _ rfl)) ?_
                        exact hK
                      try dsimp only [putL, setL, evL, getL]
                      refine HK_readP 4 (v := .int .i64 x4686) rfl (by kernel_rfl) (fun c l s h => hQp c l s h) rfl (fun s' K hK => ?_) rfl rfl (fun _ => hR) ?_
                      · refine o_move ?_
                        exact hK
                      try dsimp only [putL, setL, evL, getL]
                      replace H := headE H
                      obtain ⟨u4812, hu4812, H⟩ := H
                      obtain ⟨b4812, o4812, cs4812, hA4812, hr4812, hh4812, hel4812⟩ := hH.elo 1 rfl hu4812
                      obtain rfl := hr4812
                      refine HK_readP 22 (v := .pointer (some ⟨b4812, o4812 + Int.toNat x4686 * Kd.sz KI, none⟩)) rfl (by kernel_rfl) (fun c l s h => hQp c l s h) rfl (fun s' K hK => ?_) rfl rfl (fun _ => hR) ?_
                      · refine hel4812 s' rfl rfl Try.underlying24 tI3 ?_
                        exact hK
                      try dsimp only [putL, setL, evL, getL]
                      refine HK_more [23] (by kernel_rfl) rfl (fun _ => hR) ⟨⟨_, rfl, Or.inl ⟨rfl, ?_⟩⟩, trivial⟩
                      replace H := headE H
                      obtain ⟨x4813, hx4813, H⟩ := H
                      skip
                      refine o_setF (vs := [.int .i64 (max u4806 u4809)]) (u := max u4806 u4809) hH 1 rfl rfl rfl rfl rfl tI3 hA4812 hx4813 (Ent.own (Ent.flat rfl)) ?_
                      intro s4813 hH'
                      have hl4813 := st?_len hx4813
                      replace hH : Hp sb s F0 s4813 [Ck.oh (Ow.sl OI 3) 24 A3 c3 x4685 (Int.toNat x3214) [.slice A4811 u4810.length c4811], Ck.ol OI 3 A4811 c4811 x4813] := hH'
                      clear hH'
                      try dsimp only [putL, setL, evL, getL]
                      refine HK_free (by kernel_rfl) ?_
                      refine HX_done (by kernel_rfl) ?_
                      replace hH := hH.conv [1] (by decide) (d := Ck.el (Ow.sl OI 3) [.slice A4811 u4810.length c4811] x4813) (Ent.slL hl4813)
                      dsimp only [addC, setC, rmC, selC, getC] at hH
                      replace H := headE H
                      obtain ⟨x4814, hx4814, H⟩ := H
                      replace hH := hH.close (i := x3214) 0 2 (by decide) rfl rfl rfl hx4814
                      dsimp only [addC, setC, rmC, selC, getC] at hH
                      have hl4814 := (st?_len hx4814).trans hl4685
                      replace hH : Hp sb s F0 s4813 [Ck.ol (Ow.sl OI 3) 24 A3 c3 x4814, Ck.emp, Ck.emp] := hH
                      exact hK4767 _ _ ⟨x4814, H, rfl, hH.sel [0] (by decide), hl4814⟩
                  · rintro l' s4815 ⟨x4791, H, hl, hH, hl4791⟩
                    generalize getL l' 38 = j38, getL l' 39 = j39, getL l' 40 = j40, getL l' 41 = j41, getL l' 42 = j42, getL l' 43 = j43, getL l' 44 = j44, getL l' 45 = j45, getL l' 46 = j46, getL l' 47 = j47, getL l' 48 = j48, getL l' 49 = j49, getL l' 50 = j50, getL l' 51 = j51, getL l' 52 = j52, getL l' 53 = j53, getL l' 54 = j54, getL l' 55 = j55, getL l' 56 = j56, getL l' 57 = j57, getL l' 58 = j58, getL l' 59 = j59, getL l' 60 = j60, getL l' 61 = j61, getL l' 62 = j62, getL l' 63 = j63, getL l' 64 = j64, getL l' 65 = j65, getL l' 66 = j66, getL l' 67 = j67, getL l' 68 = j68, getL l' 69 = j69, getL l' 70 = j70, getL l' 71 = j71, getL l' 72 = j72, getL l' 73 = j73, getL l' 74 = j74, getL l' 75 = j75, getL l' 76 = j76, getL l' 77 = j77, getL l' 78 = j78, getL l' 79 = j79, getL l' 80 = j80, getL l' 81 = j81, getL l' 82 = j82, getL l' 83 = j83, getL l' 84 = j84, getL l' 85 = j85 at hl
                    subst hl
                    replace H := hG4767 _ H
                    try dsimp only at H
                    refine HT_region ?_
                    refine HL_cons rfl ?_
                    refine o_move ?_
                    try dsimp only [putL, setL, evL, getL]
                    refine HL_cons rfl ?_
                    refine o_bin rfl rfl rfl ?_
                    try dsimp only [putL, setL, evL, getL]
                    refine HL_cons rfl ?_
                    refine o_assign ?_
                    try dsimp only [putL, setL, evL, getL]
                    refine HL_nil ?_
                    exact hK4752 _ _ ⟨kf, Nat.lt_succ_self kf, x4791, IntKind.i64.wrap (x4686 - 1), H, rfl, hH, hl4791⟩
                · replace H := iteF hb4766 H
                  refine HT_false (congrArg Value.bool hb4766) ?_
                  refine HT_exit ?_
                  exact hK4426 _ _ ⟨x4685, H, rfl, hH, hl4685⟩
          · rintro l' s4816 ⟨x4621, H, hl, hH, hl4621⟩
            generalize getL l' 7 = j7, getL l' 28 = j28, getL l' 29 = j29, getL l' 30 = j30, getL l' 31 = j31, getL l' 32 = j32, getL l' 33 = j33, getL l' 34 = j34, getL l' 35 = j35, getL l' 36 = j36, getL l' 37 = j37, getL l' 38 = j38, getL l' 39 = j39, getL l' 40 = j40, getL l' 41 = j41, getL l' 42 = j42, getL l' 43 = j43, getL l' 44 = j44, getL l' 45 = j45, getL l' 46 = j46, getL l' 47 = j47, getL l' 48 = j48, getL l' 49 = j49, getL l' 50 = j50, getL l' 51 = j51, getL l' 52 = j52, getL l' 53 = j53, getL l' 54 = j54, getL l' 55 = j55, getL l' 56 = j56, getL l' 57 = j57, getL l' 58 = j58, getL l' 59 = j59, getL l' 60 = j60, getL l' 61 = j61, getL l' 62 = j62, getL l' 63 = j63, getL l' 64 = j64, getL l' 65 = j65, getL l' 66 = j66, getL l' 67 = j67, getL l' 68 = j68, getL l' 69 = j69, getL l' 70 = j70, getL l' 71 = j71, getL l' 72 = j72, getL l' 73 = j73, getL l' 74 = j74, getL l' 75 = j75, getL l' 76 = j76, getL l' 77 = j77, getL l' 78 = j78, getL l' 79 = j79, getL l' 80 = j80, getL l' 81 = j81, getL l' 82 = j82, getL l' 83 = j83, getL l' 84 = j84, getL l' 85 = j85 at hl
            subst hl
            replace H := hG4426 _ H
            try dsimp only at H
            exact hK4021 _ _ ⟨x4621, H, rfl, hH, hl4621⟩
        · rintro l' s4817 ⟨x4419, H, hl, hH, hl4419⟩
          generalize getL l' 7 = j7, getL l' 18 = j18, getL l' 19 = j19, getL l' 20 = j20, getL l' 21 = j21, getL l' 22 = j22, getL l' 23 = j23, getL l' 24 = j24, getL l' 25 = j25, getL l' 26 = j26, getL l' 27 = j27, getL l' 28 = j28, getL l' 29 = j29, getL l' 30 = j30, getL l' 31 = j31, getL l' 32 = j32, getL l' 33 = j33, getL l' 34 = j34, getL l' 35 = j35, getL l' 36 = j36, getL l' 37 = j37, getL l' 38 = j38, getL l' 39 = j39, getL l' 40 = j40, getL l' 41 = j41, getL l' 42 = j42, getL l' 43 = j43, getL l' 44 = j44, getL l' 45 = j45, getL l' 46 = j46, getL l' 47 = j47, getL l' 48 = j48, getL l' 49 = j49, getL l' 50 = j50, getL l' 51 = j51, getL l' 52 = j52, getL l' 53 = j53, getL l' 54 = j54, getL l' 55 = j55, getL l' 56 = j56, getL l' 57 = j57, getL l' 58 = j58, getL l' 59 = j59, getL l' 60 = j60, getL l' 61 = j61, getL l' 62 = j62, getL l' 63 = j63, getL l' 64 = j64, getL l' 65 = j65, getL l' 66 = j66, getL l' 67 = j67, getL l' 68 = j68, getL l' 69 = j69, getL l' 70 = j70, getL l' 71 = j71, getL l' 72 = j72, getL l' 73 = j73, getL l' 74 = j74, getL l' 75 = j75, getL l' 76 = j76, getL l' 77 = j77, getL l' 78 = j78, getL l' 79 = j79, getL l' 80 = j80, getL l' 81 = j81, getL l' 82 = j82, getL l' 83 = j83, getL l' 84 = j84, getL l' 85 = j85 at hl
          subst hl
          replace H := hG4021 _ H
          try dsimp only at H
          refine HT_region ?_
          refine HL_cons rfl ?_
          refine o_move ?_
          try dsimp only [putL, setL, evL, getL]
          refine HL_cons rfl ?_
          refine o_bin rfl rfl rfl ?_
          try dsimp only [putL, setL, evL, getL]
          refine HL_cons rfl ?_
          refine o_assign ?_
          try dsimp only [putL, setL, evL, getL]
          refine HL_nil ?_
          exact hK4017 _ _ ⟨kf, Nat.lt_succ_self kf, x4419, IntKind.i64.wrap (x3214 - 1), H, rfl, hH, hl4419⟩
      · replace H := iteF hb4020 H
        refine HT_false (congrArg Value.bool hb4020) ?_
        refine HT_exit ?_
        exact hK6 _ _ ⟨x3213, H, rfl, hH, hl3213⟩
  · rintro l' s4818 ⟨x2412, H, hl, hH, hl2412⟩
    generalize getL l' 6 = j6, getL l' 7 = j7, getL l' 14 = j14, getL l' 15 = j15, getL l' 16 = j16, getL l' 17 = j17, getL l' 18 = j18, getL l' 19 = j19, getL l' 20 = j20, getL l' 21 = j21, getL l' 22 = j22, getL l' 23 = j23, getL l' 24 = j24, getL l' 25 = j25, getL l' 26 = j26, getL l' 27 = j27, getL l' 28 = j28, getL l' 29 = j29, getL l' 30 = j30, getL l' 31 = j31, getL l' 32 = j32, getL l' 33 = j33, getL l' 34 = j34, getL l' 35 = j35, getL l' 36 = j36, getL l' 37 = j37, getL l' 38 = j38, getL l' 39 = j39, getL l' 40 = j40, getL l' 41 = j41, getL l' 42 = j42, getL l' 43 = j43, getL l' 44 = j44, getL l' 45 = j45, getL l' 46 = j46, getL l' 47 = j47, getL l' 48 = j48, getL l' 49 = j49, getL l' 50 = j50, getL l' 51 = j51, getL l' 52 = j52, getL l' 53 = j53, getL l' 54 = j54, getL l' 55 = j55, getL l' 56 = j56, getL l' 57 = j57, getL l' 58 = j58, getL l' 59 = j59, getL l' 60 = j60, getL l' 61 = j61, getL l' 62 = j62, getL l' 63 = j63, getL l' 64 = j64, getL l' 65 = j65, getL l' 66 = j66, getL l' 67 = j67, getL l' 68 = j68, getL l' 69 = j69, getL l' 70 = j70, getL l' 71 = j71, getL l' 72 = j72, getL l' 73 = j73, getL l' 74 = j74, getL l' 75 = j75, getL l' 76 = j76, getL l' 77 = j77, getL l' 78 = j78, getL l' 79 = j79, getL l' 80 = j80, getL l' 81 = j81, getL l' 82 = j82, getL l' 83 = j83, getL l' 84 = j84, getL l' 85 = j85 at hl
    subst hl
    replace H := hG6 _ H
    try dsimp only at H
    refine hK4 _ _ ?_
    refine HT_seq_k ?_
    intro K4819 hK4819
    refine HT_region ?_
    refine HL_cons rfl ?_
    refine o_move ?_
    try dsimp only [putL, setL, evL, getL]
    refine HL_cons rfl ?_
    refine o_assign ?_
    try dsimp only [putL, setL, evL, getL]
    refine HL_nil ?_
    refine hK4819 _ _ ?_
    refine HT_ret ?_
    exact hQr _ _ [.slice A3 x3.length c3] ⟨rfl, trivial⟩ (retH (fun r => impl_commons.post sb s F0 r _ _) (show some _ = some r from H) ⟨A3, c3, (by first | (rw [hl2412]; first | done | rfl) | rfl), hH⟩)
end Go.Proofs.Ytkieinlcpkpcjaa
