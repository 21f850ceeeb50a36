/- The functions that the law reaches, as plain functions, each with its contract: printed by a program of the prover's. No conditions: lemmas. -/
import Derived.Test.YtkieinlcpkpcjaaProg
import Derived.Test.YtkieinlcpkpcjaaGP
set_option linter.unusedVariables false
set_option linter.unusedSimpArgs false
namespace Go.Proofs.Ytkieinlcpkpcjaa
open Go Go.Proofs.GL
attribute [local irreducible] HL HT HX HK
theorem tI3 : TI Try.prog 3 (.int .i64 0) 1 8 := by unfold TI; kernel_rfl
theorem tI5 : TI Try.prog 5 (.int .u8 0) 1 1 := by unfold TI; kernel_rfl
theorem tI22 : TI Try.prog 22 (.slice none 0 0) 1 24 := by unfold TI; kernel_rfl
theorem tI24 : TI Try.prog 24 (.slice none 0 0) 1 24 := by unfold TI; kernel_rfl
theorem tI66 : TI Try.prog 66 (.agg #[.int .i64 0, .int .i64 0, .slice none 0 0, .int .i64 0, .int .i64 0]) 5 56 := by unfold TI; kernel_rfl
theorem tI111 : TI Try.prog 111 (.int .u64 0) 1 8 := by unfold TI; kernel_rfl
theorem tI113 : TI Try.prog 113 (.agg #[.slice none 0 0, .int .i64 0, .int .u64 0]) 3 40 := by unfold TI; kernel_rfl
theorem hMix : Try.prog.follows .mixedOrders = true := by kernel_rfl
def laws_big.f (p0 : List (Int)) (p1 : List (Int)) : Option Bool := if (decide ((p0.length : Int) > 1048576)) = true then (some true) else (some (decide ((p1.length : Int) > (IntKind.i64.wrap (1048576 - (p0.length : Int))))))
def laws_big.post (sb s : St) (F0 : Fp) (r : Bool) : Value → St → Prop := fun v s' => v = .bool r ∧ Hp sb s F0 s' []
set_option maxRecDepth 100000 in
set_option maxHeartbeats 4000000 in
theorem laws_big.ok (sb s : St) (F0 : Fp) (A0p : Option Addr) (c0p : Nat) (p0 : List (Int)) (A1p : Option Addr) (c1p : Nat) (p1 : List (Int)) (HRp0 : Rd (Kd.int .u8) sb A0p c0p p0) (HRp1 : Rd (Kd.int .u8) sb A1p c1p p1) (hH : Hp sb s F0 s []) (r : Bool) (H : laws_big.f p0 p1 = some r) : GCall Try.prog 14 #[.slice A0p p0.length c0p, .slice A1p p1.length c1p] s (laws_big.post sb s F0 r) := by
 refine GCall_ofr (laws_big.post sb s F0) [.tmp 4] (ud [.slice A0p p0.length c0p, .slice A1p p1.length c1p] 14) Try.func14 rfl rfl rfl fun w Q hQr hQn hQp => ?_
 replace H := topE H
 unfold laws_big.f at H
 dsimp only [ud, un]
 refine sr fun K1 hK1 => ag (HL_nil (hK1 _ _ ?_))
 dsimp only [putL, setL, evL, getL]
 refine sr fun K2 hK2 => mv (hc (o_len rfl Try.underlying22 (bn rfl rfl rfl ?_)))
 dsimp only [putL, setL, evL, getL]
 refine mv ?_
 revert H
 refine it (fun hb3 H => ?_) (fun hb3 H => ?_)
 ·refine wf rfl rfl rfl rfl hb3 (wf rfl rfl rfl rfl hb3 ?_)
  dsimp only [putL, setL, evL, getL]
  refine wf rfl rfl rfl rfl hb3 (wf rfl rfl rfl rfl hb3 (wf rfl rfl rfl rfl hb3 ?_))
  dsimp only [putL, setL, evL, getL]
  refine wf rfl rfl rfl rfl hb3 (hc (o_pickT rfl hb3 (ag (HL_nil (hK2 _ _ ?_)))))
  dsimp only [putL, setL, evL, getL]
  refine HT_ret ?_
  exact hQr _ _ [.bool true] _ ⟨rfl, trivial⟩ H ⟨rfl, hH⟩
 ·refine wt rfl rfl rfl rfl hb3 (o_move (wt rfl rfl rfl rfl hb3 (o_len rfl Try.underlying22 (wt rfl rfl rfl rfl hb3 (o_move ?_)))))
  dsimp only [putL, setL, evL, getL]
  refine wt rfl rfl rfl rfl hb3 (o_len rfl Try.underlying22 (wt rfl rfl rfl rfl hb3 (o_bin rfl rfl rfl (wt rfl rfl rfl rfl hb3 (o_bin rfl rfl rfl ?_)))))
  dsimp only [putL, setL, evL, getL]
  refine hc (o_pickF rfl hb3 (ag (HL_nil (hK2 _ _ ?_))))
  dsimp only [putL, setL, evL, getL]
  refine HT_ret ?_
  exact hQr _ _ [.bool (decide ((p1.length : Int) > (IntKind.i64.wrap (1048576 - (p0.length : Int)))))] _ ⟨rfl, trivial⟩ H ⟨rfl, hH⟩
def spec_l1Cur_next.f (p0_0 : List (Int)) (p0_1 : Int) (p0_2 : Int) : Option (Int × Int × Int) := (if (decide (p0_1 < (p0_0.length : Int))) = true then ((rd? p0_0 p0_1).bind fun u10 => some (IntKind.i64.wrap u10)) else (some 0)).bind fun (o : Int) => match o with | x7 => (if (decide ((IntKind.i64.wrap (p0_1 + 1)) ≤ (p0_0.length : Int))) = true then (some (x7, (IntKind.i64.wrap (p0_1 + 1)), (IntKind.u64.wrap ((IntKind.u64.wrap ((IntKind.u64.wrap (p0_2 * 6364136223846793005)) + (IntKind.u64.wrap x7))) + 1442695040888963407)))) else ((shrK? .u64 (IntKind.u64.wrap ((IntKind.u64.wrap ((IntKind.u64.wrap (p0_2 * 6364136223846793005)) + (IntKind.u64.wrap x7))) + 1442695040888963407)) 40).bind fun u21 => some ((IntKind.i64.wrap (bits .and .u64 u21 255)), (IntKind.i64.wrap (p0_1 + 1)), (IntKind.u64.wrap ((IntKind.u64.wrap ((IntKind.u64.wrap (p0_2 * 6364136223846793005)) + (IntKind.u64.wrap x7))) + 1442695040888963407)))))
def spec_l1Cur_next.post (sb s : St) (F0 : Fp) (bp0 : Nat) (A0_0p : Option Addr) (c0_0p : Nat) (p0_0 : List (Int)) (r : Int × Int × Int) : Value → St → Prop := fun v s' => v = .int .i64 r.1 ∧ Hp sb s F0 s' [Ck.ov bp0 [.slice A0_0p p0_0.length c0_0p, .int .i64 r.2.1, .int .u64 r.2.2] 113]
set_option maxRecDepth 100000 in
set_option maxHeartbeats 4000000 in
theorem spec_l1Cur_next.ok (sb s : St) (F0 : Fp) (bp0 : Nat) (A0_0p : Option Addr) (c0_0p : Nat) (p0_0 : List (Int)) (p0_1 : Int) (p0_2 : Int) (HRp0_0 : Rd (Kd.int .u8) sb A0_0p c0_0p p0_0) (hH : Hp sb s F0 s [Ck.ov bp0 [.slice A0_0p p0_0.length c0_0p, .int .i64 p0_1, .int .u64 p0_2] 113]) (r : Int × Int × Int) (H : spec_l1Cur_next.f p0_0 p0_1 p0_2 = some r) : GCall Try.prog 183 #[.pointer (some ⟨bp0, 0, none⟩)] s (spec_l1Cur_next.post sb s F0 bp0 A0_0p c0_0p p0_0 r) := by
 refine GCall_ofr (spec_l1Cur_next.post sb s F0 bp0 A0_0p c0_0p p0_0) [.tmp 2] (ud [.pointer (some ⟨bp0, 0, none⟩)] 61) Try.func183 rfl rfl rfl fun w Q hQr hQn hQp => ?_
 replace H := topE H
 unfold spec_l1Cur_next.f at H
 dsimp only [ud, un]
 refine sr fun K1 hK1 => ag (HL_nil (hK1 _ _ ?_))
 dsimp only [putL, setL, evL, getL]
 refine sr fun K2 hK2 => ag (HL_nil (hK2 _ _ ?_))
 dsimp only [putL, setL, evL, getL]
 refine joinH H fun G3 hG3 H => ?_
 refine HT_joinK (fun l' s' => ∃ (x7 : Int), G3 x7 = some r ∧ skim [0, 2] l' = ([.pointer (some ⟨bp0, 0, none⟩), .int .i64 x7], 59) ∧ Hp sb s F0 s' [Ck.ov bp0 [.slice A0_0p p0_0.length c0_0p, .int .i64 p0_1, .int .u64 p0_2] 113]) ?_ ?_
 ·intro K3 hK3
  refine sx hMix fun K8 hK8 => ?_
  refine HX_lim (R := fun _ => True) (k := 0) (fun s' => Gro s s') 11 ?_
  have hR := Gro.refl s
  have hH0 := hH
  refine HK_readP 0 (v := .pointer (some ⟨bp0, 0, none⟩)) rfl (by kernel_rfl) hQp rfl (fun s' K hK => o_move hK) rfl rfl (fun _ => hR) ?_
  refine HK_readP 1 (v := .pointer (some ⟨bp0, 0, none⟩)) rfl (by kernel_rfl) hQp rfl (fun s' K hK => o_nilck rfl hK) rfl rfl (fun _ => hR) ?_
  try dsimp only [putL, setL, evL, getL]
  refine HK_readP 2 (v := .pointer (some ⟨bp0, 0 + 1, none⟩)) rfl (by kernel_rfl) hQp rfl (fun s' K hK => o_faddr' (ft := 3) (off := 1) rfl Try.underlying113 rfl tI3 (by decide) hK) rfl rfl (fun _ => hR) ?_
  refine HK_read 3 (v := .int .i64 p0_1) rfl (by kernel_rfl) hQp rfl (fun s' hR' K hK => o_load' rfl Try.underlying3 rfl (has_gro hR' (hH0.hasv 0 rfl rfl)) hK) rfl rfl hR ?_
  refine HK_readP 4 (v := .pointer (some ⟨bp0, 0, none⟩)) rfl (by kernel_rfl) hQp rfl (fun s' K hK => o_move hK) rfl rfl (fun _ => hR) ?_
  try dsimp only [putL, setL, evL, getL]
  refine HK_readP 5 (v := .pointer (some ⟨bp0, 0, none⟩)) rfl (by kernel_rfl) hQp rfl (fun s' K hK => o_nilck rfl hK) rfl rfl (fun _ => hR) ?_
  refine HK_readP 6 (v := .pointer (some ⟨bp0, 0 + 0, none⟩)) rfl (by kernel_rfl) hQp rfl (fun s' K hK => o_faddr' (ft := 22) (off := 0) rfl Try.underlying113 rfl tI22 (by decide) hK) rfl rfl (fun _ => hR) ?_
  refine HK_read 7 (v := .slice A0_0p p0_0.length c0_0p) rfl (by kernel_rfl) hQp rfl (fun s' hR' K hK => o_load' rfl Try.underlying22 rfl (has_gro hR' (hH0.hasv 0 rfl rfl)) hK) rfl rfl hR ?_
  try dsimp only [putL, setL, evL, getL]
  refine HK_readP 8 (v := .int .i64 (p0_0.length : Int)) rfl (by kernel_rfl) hQp rfl (fun s' K hK => o_len rfl Try.underlying22 hK) rfl rfl (fun _ => hR) ?_
  refine HK_readP 9 (v := .bool (decide (p0_1 < (p0_0.length : Int)))) rfl (by kernel_rfl) hQp rfl (fun s' K hK => o_bin rfl rfl rfl hK) rfl rfl (fun _ => hR) ?_
  refine HK_done (fun _ => hR) (by kernel_rfl) ?_
  refine hK8 _ _ ?_
  try dsimp only [putL, setL, evL, getL]
  revert H
  refine ct rfl (fun hb9 H => ?_) (fun hb9 H => ?_)
  ·refine HX_draw hMix ?_
   refine HX_lim (R := fun _ => True) (k := 0) (fun s' => Gro s s') 13 ?_
   have hR := Gro.refl s
   have hH0 := hH
   refine HK_readP 0 (v := .pointer (some ⟨bp0, 0, none⟩)) rfl (by kernel_rfl) hQp rfl (fun s' K hK => o_move hK) rfl rfl (fun _ => hR) ?_
   try dsimp only [putL, setL, evL, getL]
   refine HK_readP 1 (v := .pointer (some ⟨bp0, 0, none⟩)) rfl (by kernel_rfl) hQp rfl (fun s' K hK => o_nilck rfl hK) rfl rfl (fun _ => hR) ?_
   refine HK_readP 2 (v := .pointer (some ⟨bp0, 0 + 0, none⟩)) rfl (by kernel_rfl) hQp rfl (fun s' K hK => o_faddr' (ft := 22) (off := 0) rfl Try.underlying113 rfl tI22 (by decide) hK) rfl rfl (fun _ => hR) ?_
   refine HK_read 3 (v := .slice A0_0p p0_0.length c0_0p) rfl (by kernel_rfl) hQp rfl (fun s' hR' K hK => o_load' rfl Try.underlying22 rfl (has_gro hR' (hH0.hasv 0 rfl rfl)) hK) rfl rfl hR ?_
   try dsimp only [putL, setL, evL, getL]
   refine HK_readP 4 (v := .pointer (some ⟨bp0, 0, none⟩)) rfl (by kernel_rfl) hQp rfl (fun s' K hK => o_move hK) rfl rfl (fun _ => hR) ?_
   refine HK_readP 5 (v := .pointer (some ⟨bp0, 0, none⟩)) rfl (by kernel_rfl) hQp rfl (fun s' K hK => o_nilck rfl hK) rfl rfl (fun _ => hR) ?_
   refine HK_readP 6 (v := .pointer (some ⟨bp0, 0 + 1, none⟩)) rfl (by kernel_rfl) hQp rfl (fun s' K hK => o_faddr' (ft := 3) (off := 1) rfl Try.underlying113 rfl tI3 (by decide) hK) rfl rfl (fun _ => hR) ?_
   try dsimp only [putL, setL, evL, getL]
   refine HK_read 7 (v := .int .i64 p0_1) rfl (by kernel_rfl) hQp rfl (fun s' hR' K hK => o_load' rfl Try.underlying3 rfl (has_gro hR' (hH0.hasv 0 rfl rfl)) hK) rfl rfl hR ?_
   replace H := headE H
   obtain ⟨u10, hu10, H⟩ := H
   obtain ⟨b10, o10, cs10, hr10, hh10, hel10⟩ := Rd.elb HRp0_0 hu10
   obtain rfl := hr10
   refine HK_readP 8 (v := .pointer (some ⟨b10, o10, none⟩)) rfl (by kernel_rfl) hQp rfl (fun s' K hK => hel10 s' rfl rfl Try.underlying22 tI5 hK) rfl rfl (fun _ => hR) ?_
   refine HK_read 9 (v := .int .u8 u10) rfl (by kernel_rfl) hQp rfl (fun s' hR' K hK => o_load' rfl Try.underlying5 rfl ((hh10 (hH0.bs.mono.trans hR'.mono)) 0 _ rfl) hK) rfl rfl hR ?_
   try dsimp only [putL, setL, evL, getL]
   refine HK_readP 10 (v := .int .i64 (IntKind.i64.wrap u10)) rfl (by kernel_rfl) hQp rfl (fun s' K hK => o_conv rfl Try.underlying5 Try.underlying3 hK) rfl rfl (fun _ => hR) ?_
   refine HK_more [11] (by kernel_rfl) rfl (fun _ => hR) ⟨⟨_, rfl, Or.inl ⟨rfl, ?_⟩⟩, trivial⟩
   skip
   refine o_assign ?_
   refine HK_done (fun _ => hR) (by kernel_rfl) ?_
   exact hK3 _ _ ⟨IntKind.i64.wrap u10, H, rfl, hH⟩
  ·refine HT_skip ?_
   exact hK3 _ _ ⟨0, H, rfl, hH⟩
 ·rintro l' s11 ⟨x7, H, hl, hH⟩
  revert l'
  refine skA ?_
  dsimp only [Al, Sk]
  intros
  replace H := hG3 _ H
  try dsimp only at H
  refine sr fun K12 hK12 => ?_
  try dsimp only [putL, setL, evL, getL]
  refine mv (hc (o_nilck rfl (hc (o_faddr' (ft := 3) (off := 1) rfl Try.underlying113 rfl tI3 (by decide) ?_))))
  dsimp only [putL, setL, evL, getL]
  refine hc (o_load' rfl Try.underlying3 rfl (hH.hasv 0 rfl rfl) (bn rfl rfl rfl (hc (o_nilck rfl ?_))))
  dsimp only [putL, setL, evL, getL]
  refine hc (o_faddr' (ft := 3) (off := 1) rfl Try.underlying113 rfl tI3 (by decide) (hc (o_stvH (vs := [.int .i64 (IntKind.i64.wrap (p0_1 + 1))]) (us' := [.slice A0_0p p0_0.length c0_0p, .int .i64 (IntKind.i64.wrap (p0_1 + 1)), .int .u64 p0_2]) hH 0 rfl rfl rfl rfl rfl tI3 rfl (List.cons_ne_nil _ _) rfl rfl rfl ?_)))
  clear hH
  intro s13 hH
  refine HL_nil (hK12 _ _ ?_)
  try dsimp only [putL, setL, evL, getL]
  refine sr fun K14 hK14 => mv (mv (hc (o_nilck rfl ?_)))
  dsimp only [putL, setL, evL, getL]
  refine hc (o_faddr' (ft := 111) (off := 2) rfl Try.underlying113 rfl tI111 (by decide) (hc (o_load' rfl Try.underlying111 rfl (hH.hasv 0 rfl rfl) (bn rfl rfl rfl ?_))))
  dsimp only [putL, setL, evL, getL]
  refine mv (hc (o_conv rfl Try.underlying3 Try.underlying111 (bn rfl rfl rfl ?_)))
  dsimp only [putL, setL, evL, getL]
  refine bn rfl rfl rfl (hc (o_nilck rfl (hc (o_faddr' (ft := 111) (off := 2) rfl Try.underlying113 rfl tI111 (by decide) ?_))))
  dsimp only [putL, setL, evL, getL]
  refine hc (o_stvH (vs := [.int .u64 (IntKind.u64.wrap ((IntKind.u64.wrap ((IntKind.u64.wrap (p0_2 * 6364136223846793005)) + (IntKind.u64.wrap x7))) + 1442695040888963407))]) (us' := [.slice A0_0p p0_0.length c0_0p, .int .i64 (IntKind.i64.wrap (p0_1 + 1)), .int .u64 (IntKind.u64.wrap ((IntKind.u64.wrap ((IntKind.u64.wrap (p0_2 * 6364136223846793005)) + (IntKind.u64.wrap x7))) + 1442695040888963407))]) hH 0 rfl rfl rfl rfl rfl tI111 rfl (List.cons_ne_nil _ _) rfl rfl rfl ?_)
  clear hH
  intro s15 hH
  refine HL_nil (hK14 _ _ ?_)
  try dsimp only [putL, setL, evL, getL]
  refine HT_seq_k fun K16 hK16 => ?_
  refine sx hMix fun K17 hK17 => ?_
  refine HX_lim (R := fun _ => True) (k := 0) (fun s' => Gro s15 s') 11 ?_
  have hR := Gro.refl s15
  have hH0 := hH
  refine HK_readP 0 (v := .pointer (some ⟨bp0, 0, none⟩)) rfl (by kernel_rfl) hQp rfl (fun s' K hK => o_move hK) rfl rfl (fun _ => hR) ?_
  refine HK_readP 1 (v := .pointer (some ⟨bp0, 0, none⟩)) rfl (by kernel_rfl) hQp rfl (fun s' K hK => o_nilck rfl hK) rfl rfl (fun _ => hR) ?_
  try dsimp only [putL, setL, evL, getL]
  refine HK_readP 2 (v := .pointer (some ⟨bp0, 0 + 1, none⟩)) rfl (by kernel_rfl) hQp rfl (fun s' K hK => o_faddr' (ft := 3) (off := 1) rfl Try.underlying113 rfl tI3 (by decide) hK) rfl rfl (fun _ => hR) ?_
  refine HK_read 3 (v := .int .i64 (IntKind.i64.wrap (p0_1 + 1))) rfl (by kernel_rfl) hQp rfl (fun s' hR' K hK => o_load' rfl Try.underlying3 rfl (has_gro hR' (hH0.hasv 0 rfl rfl)) hK) rfl rfl hR ?_
  refine HK_readP 4 (v := .pointer (some ⟨bp0, 0, none⟩)) rfl (by kernel_rfl) hQp rfl (fun s' K hK => o_move hK) rfl rfl (fun _ => hR) ?_
  try dsimp only [putL, setL, evL, getL]
  refine HK_readP 5 (v := .pointer (some ⟨bp0, 0, none⟩)) rfl (by kernel_rfl) hQp rfl (fun s' K hK => o_nilck rfl hK) rfl rfl (fun _ => hR) ?_
  refine HK_readP 6 (v := .pointer (some ⟨bp0, 0 + 0, none⟩)) rfl (by kernel_rfl) hQp rfl (fun s' K hK => o_faddr' (ft := 22) (off := 0) rfl Try.underlying113 rfl tI22 (by decide) hK) rfl rfl (fun _ => hR) ?_
  refine HK_read 7 (v := .slice A0_0p p0_0.length c0_0p) rfl (by kernel_rfl) hQp rfl (fun s' hR' K hK => o_load' rfl Try.underlying22 rfl (has_gro hR' (hH0.hasv 0 rfl rfl)) hK) rfl rfl hR ?_
  try dsimp only [putL, setL, evL, getL]
  refine HK_readP 8 (v := .int .i64 (p0_0.length : Int)) rfl (by kernel_rfl) hQp rfl (fun s' K hK => o_len rfl Try.underlying22 hK) rfl rfl (fun _ => hR) ?_
  refine HK_readP 9 (v := .bool (decide ((IntKind.i64.wrap (p0_1 + 1)) ≤ (p0_0.length : Int)))) rfl (by kernel_rfl) hQp rfl (fun s' K hK => o_bin rfl rfl rfl hK) rfl rfl (fun _ => hR) ?_
  refine HK_done (fun _ => hR) (by kernel_rfl) ?_
  refine hK17 _ _ ?_
  try dsimp only [putL, setL, evL, getL]
  revert H
  refine ct rfl (fun hb18 H => ?_) (fun hb18 H => ?_)
  ·refine sr fun K19 hK19 => mv (ag (HL_nil (hK19 _ _ ?_)))
   dsimp only [putL, setL, evL, getL]
   refine HT_ret ?_
   exact hQr _ _ [.int .i64 x7] _ ⟨rfl, trivial⟩ H ⟨rfl, hH⟩
  ·refine HT_skip (hK16 _ _ (sr fun K20 hK20 => (mv (hc (o_nilck rfl (hc (o_faddr' (ft := 111) (off := 2) rfl Try.underlying113 rfl tI111 (by decide) ?_)))))))
   dsimp only [putL, setL, evL, getL]
   refine hc (o_load' rfl Try.underlying111 rfl (hH.hasv 0 rfl rfl) ?_)
   replace H := headE H
   obtain ⟨u21, hu21, H⟩ := H
   refine hc (o_shrK rfl rfl hu21 (bn rfl rfl rfl ?_))
   dsimp only [putL, setL, evL, getL]
   refine hc (o_conv rfl Try.underlying111 Try.underlying3 (ag (HL_nil (hK20 _ _ ?_))))
   dsimp only [putL, setL, evL, getL]
   refine HT_ret ?_
   exact hQr _ _ [.int .i64 (IntKind.i64.wrap (bits .and .u64 u21 255))] _ ⟨rfl, trivial⟩ H ⟨rfl, hH⟩
def spec_l1Cur_pick.f (p0_0 : List (Int)) (p0_1 : Int) (p0_2 : Int) (p1 : Int) : Option (Int × Int × Int) := if (decide (p1 ≤ 1)) = true then (some (0, p0_1, p0_2)) else ((spec_l1Cur_next.f p0_0 p0_1 p0_2).bind fun u7 => (if (decide (p1 > 200)) = true then ((spec_l1Cur_next.f p0_0 u7.2.1 u7.2.2).bind fun u17 => some ((IntKind.i64.wrap ((IntKind.i64.wrap (u7.1 * 256)) + u17.1)), u17.2.1, u17.2.2)) else (some (u7.1, u7.2.1, u7.2.2))).bind fun (o : Int × Int × Int) => match o with | (x12, x13, x14) => ((rem? x12 p1).bind fun u20 => some (u20, x13, x14)))
def spec_l1Cur_pick.post (sb s : St) (F0 : Fp) (bp0 : Nat) (A0_0p : Option Addr) (c0_0p : Nat) (p0_0 : List (Int)) (r : Int × Int × Int) : Value → St → Prop := fun v s' => v = .int .i64 r.1 ∧ Hp sb s F0 s' [Ck.ov bp0 [.slice A0_0p p0_0.length c0_0p, .int .i64 r.2.1, .int .u64 r.2.2] 113]
set_option maxRecDepth 100000 in
set_option maxHeartbeats 4000000 in
theorem spec_l1Cur_pick.ok (sb s : St) (F0 : Fp) (bp0 : Nat) (A0_0p : Option Addr) (c0_0p : Nat) (p0_0 : List (Int)) (p0_1 : Int) (p0_2 : Int) (p1 : Int) (HRp0_0 : Rd (Kd.int .u8) sb A0_0p c0_0p p0_0) (hH : Hp sb s F0 s [Ck.ov bp0 [.slice A0_0p p0_0.length c0_0p, .int .i64 p0_1, .int .u64 p0_2] 113]) (r : Int × Int × Int) (H : spec_l1Cur_pick.f p0_0 p0_1 p0_2 p1 = some r) : GCall Try.prog 112 #[.pointer (some ⟨bp0, 0, none⟩), .int .i64 p1] s (spec_l1Cur_pick.post sb s F0 bp0 A0_0p c0_0p p0_0 r) := by
 refine GCall_ofr (spec_l1Cur_pick.post sb s F0 bp0 A0_0p c0_0p p0_0) [.tmp 4] (ud [.pointer (some ⟨bp0, 0, none⟩), .int .i64 p1] 18) Try.func112 rfl rfl rfl fun w Q hQr hQn hQp => ?_
 replace H := topE H
 unfold spec_l1Cur_pick.f at H
 dsimp only [ud, un]
 refine sr fun K1 hK1 => ag (HL_nil (hK1 _ _ ?_))
 dsimp only [putL, setL, evL, getL]
 refine HT_seq_k fun K2 hK2 => sr fun K3 hK3 => mv (bn rfl rfl rfl (HL_nil (hK3 _ _ ?_)))
 dsimp only [putL, setL, evL, getL]
 revert H
 refine ct rfl (fun hb4 H => ?_) (fun hb4 H => ?_)
 ·refine sr fun K5 hK5 => ag (HL_nil (hK5 _ _ ?_))
  dsimp only [putL, setL, evL, getL]
  refine HT_ret ?_
  exact hQr _ _ [.int .i64 0] _ ⟨rfl, trivial⟩ H ⟨rfl, hH⟩
 ·refine HT_skip (hK2 _ _ (sr fun K6 hK6 => (mv ?_)))
  replace H := headE H
  obtain ⟨u7, hu7, H⟩ := H
  obtain ⟨F1, hA, hB⟩ := hH.take [0] (by decide)
  dsimp only [addC, setC, rmC, selC, getC] at hA
  refine hc (o_call (args := #[.pointer (some ⟨bp0, 0, none⟩)]) Try.func183 rfl rfl rfl (spec_l1Cur_next.ok sb s F1 bp0 A0_0p c0_0p p0_0 p0_1 p0_2 HRp0_0 hA _ hu7) ?_)
  rintro _ s7 ⟨rfl, hD⟩
  replace hH := hB _ _ _ (Up.refl _ _ _) hD
  clear hD hA hB
  refine ag (HL_nil (hK6 _ _ ?_))
  dsimp only [putL, setL, evL, getL]
  refine joinH H fun G8 hG8 H => ?_
  refine HT_joinK (fun l' s' => ∃ (x12 : Int) (x13 : Int) (x14 : Int), G8 (x12, x13, x14) = some r ∧ skim [1, 3] l' = ([.int .i64 p1, .int .i64 x12], 15) ∧ Hp sb s F0 s' [Ck.ov bp0 [.slice A0_0p p0_0.length c0_0p, .int .i64 x13, .int .u64 x14] 113]) ?_ ?_
  ·intro K8 hK8
   refine sr fun K15 hK15 => mv (bn rfl rfl rfl (HL_nil (hK15 _ _ ?_)))
   dsimp only [putL, setL, evL, getL]
   revert H
   refine ct rfl (fun hb16 H => ?_) (fun hb16 H => ?_)
   ·refine HT_region ?_
    refine mv (bn rfl rfl rfl (mv ?_))
    replace H := headE H
    obtain ⟨u17, hu17, H⟩ := H
    obtain ⟨F1, hA, hB⟩ := hH.take [1] (by decide)
    dsimp only [addC, setC, rmC, selC, getC] at hA
    try dsimp only [putL, setL, evL, getL]
    refine hc (o_call (args := #[.pointer (some ⟨bp0, 0, none⟩)]) Try.func183 rfl rfl rfl (spec_l1Cur_next.ok sb s7 F1 bp0 A0_0p c0_0p p0_0 u7.2.1 u7.2.2 HRp0_0 hA _ hu17) ?_)
    rintro _ s17 ⟨rfl, hD⟩
    replace hH := hB _ _ _ (Up.refl _ _ _) hD
    clear hD hA hB
    refine bn rfl rfl rfl (ag (HL_nil ?_))
    exact hK8 _ _ ⟨IntKind.i64.wrap ((IntKind.i64.wrap (u7.1 * 256)) + u17.1), u17.2.1, u17.2.2, H, rfl, hH.sel [2] (by decide)⟩
   ·refine HT_skip ?_
    exact hK8 _ _ ⟨u7.1, u7.2.1, u7.2.2, H, rfl, hH.sel [1] (by decide)⟩
  ·rintro l' s18 ⟨x12, x13, x14, H, hl, hH⟩
   revert l'
   refine skA ?_
   dsimp only [Al, Sk]
   intros
   replace H := hG8 _ H
   try dsimp only at H
   refine sr fun K19 hK19 => ?_
   try dsimp only [putL, setL, evL, getL]
   refine mv (mv ?_)
   replace H := headE H
   obtain ⟨u20, hu20, H⟩ := H
   refine hc (o_rem' rfl rfl hu20 ?_)
   dsimp only [putL, setL, evL, getL]
   refine ag (HL_nil (hK19 _ _ ?_))
   dsimp only [putL, setL, evL, getL]
   refine HT_ret ?_
   exact hQr _ _ [.int .i64 u20] _ ⟨rfl, trivial⟩ H ⟨rfl, hH⟩
def spec_l1In.f (p0 : Int) (p1 : Int) (p2 : Int) : Option Bool := if (decide (p0 ≥ p1)) = true then (some (decide (p0 ≤ p2))) else (some false)
def spec_l1In.post (sb s : St) (F0 : Fp) (r : Bool) : Value → St → Prop := fun v s' => v = .bool r ∧ Hp sb s F0 s' []
set_option maxRecDepth 100000 in
set_option maxHeartbeats 4000000 in
theorem spec_l1In.ok (sb s : St) (F0 : Fp) (p0 : Int) (p1 : Int) (p2 : Int) (hH : Hp sb s F0 s []) (r : Bool) (H : spec_l1In.f p0 p1 p2 = some r) : GCall Try.prog 108 #[.int .i64 p0, .int .i64 p1, .int .i64 p2] s (spec_l1In.post sb s F0 r) := by
 refine GCall_ofr (spec_l1In.post sb s F0) [.tmp 6] (ud [.int .i64 p0, .int .i64 p1, .int .i64 p2] 12) Try.func108 rfl rfl rfl fun w Q hQr hQn hQp => ?_
 replace H := topE H
 unfold spec_l1In.f at H
 dsimp only [ud, un]
 refine sr fun K1 hK1 => ag (HL_nil (hK1 _ _ ?_))
 dsimp only [putL, setL, evL, getL]
 refine sr fun K2 hK2 => mv (mv (bn rfl rfl rfl ?_))
 dsimp only [putL, setL, evL, getL]
 refine mv ?_
 revert H
 refine it (fun hb3 H => ?_) (fun hb3 H => ?_)
 ·refine wt rfl rfl rfl rfl hb3 (o_move (wt rfl rfl rfl rfl hb3 (o_move ?_)))
  dsimp only [putL, setL, evL, getL]
  refine wt rfl rfl rfl rfl hb3 (o_bin rfl rfl rfl (hc (o_pickT rfl hb3 (ag (HL_nil (hK2 _ _ ?_))))))
  dsimp only [putL, setL, evL, getL]
  refine HT_ret ?_
  exact hQr _ _ [.bool (decide (p0 ≤ p2))] _ ⟨rfl, trivial⟩ H ⟨rfl, hH⟩
 ·refine wf rfl rfl rfl rfl hb3 (wf rfl rfl rfl rfl hb3 (wf rfl rfl rfl rfl hb3 ?_))
  dsimp only [putL, setL, evL, getL]
  refine hc (o_pickF rfl hb3 (ag (HL_nil (hK2 _ _ ?_))))
  dsimp only [putL, setL, evL, getL]
  refine HT_ret ?_
  exact hQr _ _ [.bool false] _ ⟨rfl, trivial⟩ H ⟨rfl, hH⟩
def spec_l16New.l1 (p0 : Int) (p1 : Int) : Nat → Int → (List (Int)) → Option (List (Int))
 | 0, _, _ => none
 | kf + 1, x45, x46 => if (decide (x45 < (IntKind.i64.wrap (p0 * p1)))) = true then ((app? 17592186044416 x46 [32]).bind fun x62 => spec_l16New.l1 p0 p1 kf (IntKind.i64.wrap (x45 + 1)) x62) else (some x46)
def spec_l16New.f (p0 : Int) (p1 : Int) : Option (Int × Int × (List (Int)) × Int × Int) := (spec_l16New.l1 p0 p1 (((IntKind.i64.wrap (p0 * p1)) - (0)).toNat + 2) 0 []).bind fun (o : (List (Int))) => match o with | x36 => (some (p0, p1, x36, 0, 0))
def spec_l16New.post (sb s : St) (F0 : Fp) (r : Int × Int × (List (Int)) × Int × Int) : Value → St → Prop := fun v s' => ∃ (A2 : Option Addr) (c2 : Nat), v = .agg #[.int .i64 r.1, .int .i64 r.2.1, .slice A2 r.2.2.1.length c2, .int .i64 r.2.2.2.1, .int .i64 r.2.2.2.2] ∧ Hp sb s F0 s' [Ck.ol OI 3 A2 c2 r.2.2.1]
set_option maxRecDepth 100000 in
set_option maxHeartbeats 4000000 in
theorem spec_l16New.ok (sb s : St) (F0 : Fp) (p0 : Int) (p1 : Int) (hH : Hp sb s F0 s []) (r : Int × Int × (List (Int)) × Int × Int) (H : spec_l16New.f p0 p1 = some r) : GCall Try.prog 149 #[.int .i64 p0, .int .i64 p1] s (spec_l16New.post sb s F0 r) := by
 refine GCall_ofr (spec_l16New.post sb s F0) [.cell 4 66] (ud [.int .i64 p0, .int .i64 p1] 21) Try.func149 rfl rfl rfl fun w Q hQr hQn hQp => ?_
 replace H := topE H
 unfold spec_l16New.f at H
 dsimp only [ud, un]
 refine sr fun K1 hK1 => hc (o_allocH hH tI66 ?_)
 clear hH
 intro b2 s2 hH _
 refine HL_nil (hK1 _ _ ?_)
 try dsimp only [putL, setL, evL, getL]
 refine sr fun K3 hK3 => mv (mv (hc (o_build (pl := [(0, 1), (1, 1), (2, 1), (3, 1), (4, 1)]) (cs := #[.int .i64 p0, .int .i64 p1, .slice none 0 0, .int .i64 0, .int .i64 0]) Try.underlying66 tI66 (by kernel_rfl) (by kernel_rfl) rfl ?_)))
 dsimp only [putL, setL, evL, getL]
 refine hc (o_allocH hH tI66 ?_)
 clear hH
 intro b4 s4 hH _
 refine hc (o_stvH (vs := [.int .i64 p0, .int .i64 p1, .slice none 0 0, .int .i64 0, .int .i64 0]) (us' := [.int .i64 p0, .int .i64 p1, .slice none 0 0, .int .i64 0, .int .i64 0]) hH 1 rfl rfl rfl rfl rfl tI66 rfl (List.cons_ne_nil _ _) rfl rfl rfl ?_)
 clear hH
 intro s5 hH
 refine HL_nil (hK3 _ _ ?_)
 try dsimp only [putL, setL, evL, getL]
 refine HT_seq_k fun K6 hK6 => sr fun K7 hK7 => ag (HL_nil (hK7 _ _ ?_))
 dsimp only [putL, setL, evL, getL]
 refine joinH H fun G8 hG8 H => ?_
 refine HT_toK (fun l' s' => ∃ (x36 : List (Int)) (A36 : Option Addr) (c36 : Nat), G8 x36 = some r ∧ skim [4, 0] l' = ([.pointer (some ⟨b2, 0, none⟩), .pointer (some ⟨b4, 0, none⟩)], 18) ∧ Hp sb s F0 s' [Ck.ol OI 3 A36 c36 x36, Ck.ov b2 [.int .i64 0, .int .i64 0, .slice none 0 0, .int .i64 0, .int .i64 0] 66, Ck.ov b4 [.int .i64 p0, .int .i64 p1, .slice A36 x36.length c36, .int .i64 0, .int .i64 0] 66]) ?_ ?_
 ·intro K8 hK8
  refine HT_block ?_
  refine HT_loopK (fun kf l' s' => ∃ (x45 : Int) (x46 : List (Int)) (A46 : Option Addr) (c46 : Nat), (spec_l16New.l1 p0 p1 kf x45 x46).bind G8 = some r ∧ skim [0, 0, 2, 0, 0] l' = ([.int .i64 p0, .int .i64 p1, .pointer (some ⟨b2, 0, none⟩), .pointer (some ⟨b4, 0, none⟩), .int .i64 x45], 17) ∧ Hp sb s F0 s' [Ck.ol OI 3 A46 c46 x46, Ck.ov b2 [.int .i64 0, .int .i64 0, .slice none 0 0, .int .i64 0, .int .i64 0] 66, Ck.ov b4 [.int .i64 p0, .int .i64 p1, .slice A46 x46.length c46, .int .i64 0, .int .i64 0] 66]) (((IntKind.i64.wrap (p0 * p1)) - (0)).toNat + 2) ⟨0, [], none, 0, H, rfl, (hH.nil (K := KI) OI 3).sel [2, 0, 1] (by decide)⟩ ?_
  rintro kf l' s56 ⟨x45, x46, A46, c46, H, hl, hH⟩ K56 hK56
  revert l'
  refine skA ?_
  dsimp only [Al, Sk]
  intros
  cases kf with
  | zero => simp [spec_l16New.l1] at H
  | succ kf =>
   rw [spec_l16New.l1] at H
   refine HT_seq_k fun K57 hK57 => sr fun K58 hK58 => mv (mv (mv ?_))
   dsimp only [putL, setL, evL, getL]
   refine bn rfl rfl rfl (bn rfl rfl rfl (HL_nil (hK58 _ _ ?_)))
   dsimp only [putL, setL, evL, getL]
   revert H
   refine ct rfl (fun hb59 H => ?_) (fun hb59 H => ?_)
   ·refine HT_skip (hK57 _ _ (HT_seq_k fun K60 hK60 => (HT_block ?_)))
    refine HT_region ?_
    refine hc (o_faddr' (ft := 24) (off := 2) rfl Try.underlying66 rfl tI24 (by decide) (hc (o_load' rfl Try.underlying24 rfl (hH.hasv 2 rfl rfl) (hc (o_litF (K := KI) (O := OI) (ca := #[.int .i64 32]) [[.int .i64 32]] [32] hH Try.underlying24 tI3 rfl (by decide) rfl rfl (by kernel_rfl) rfl ⟨rfl, Ent.own (Ent.flat rfl), trivial⟩ ?_)))))
    clear hH
    intro A61 s61 hH _
    replace H := headE H
    obtain ⟨x62, hx62, H⟩ := H
    try dsimp only [putL, setL, evL, getL]
    refine hc (o_appF (K := KI) (n := 17592186044416) (A := A46) (c := c46) (xs := x46) (ys := [32]) (B := A61) (c2 := 1) hH 0 rfl rfl rfl rfl Try.underlying24 tI3 rfl (by decide) (by decide) (by decide) (Src.flat (hH.rd 3 rfl)) hx62 ?_)
    clear hH
    intro A62 c62 s62 hH
    refine hc (o_faddr' (ft := 24) (off := 2) rfl Try.underlying66 rfl tI24 (by decide) (hc (o_stvH (vs := [.slice A62 x62.length c62]) (us' := [.int .i64 p0, .int .i64 p1, .slice A62 x62.length c62, .int .i64 0, .int .i64 0]) hH 2 rfl rfl rfl rfl rfl tI24 rfl (List.cons_ne_nil _ _) rfl rfl rfl ?_)))
    clear hH
    intro s63 hH
    refine HL_nil (hK60 _ _ ?_)
    try dsimp only [putL, setL, evL, getL]
    refine HT_region ?_
    refine mv (bn rfl rfl rfl (ag (HL_nil ?_)))
    exact hK56 _ _ ⟨kf, Nat.lt_succ_self kf, IntKind.i64.wrap (x45 + 1), x62, A62, c62, H, rfl, hH.sel [0, 1, 2] (by decide)⟩
   ·refine HT_exit ?_
    exact hK8 _ _ ⟨x46, A46, c46, H, rfl, hH⟩
 ·rintro l' s64 ⟨x36, A36, c36, H, hl, hH⟩
  revert l'
  refine skA ?_
  dsimp only [Al, Sk]
  intros
  replace H := hG8 _ H
  try dsimp only at H
  refine hK6 _ _ ?_
  refine sr fun K65 hK65 => ?_
  try dsimp only [putL, setL, evL, getL]
  refine hc (o_loads' [.int .i64 p0, .int .i64 p1, .slice A36 x36.length c36, .int .i64 0, .int .i64 0] rfl Try.underlying66 rfl tI66 rfl (hH.partv 2 rfl (0) [.int .i64 p0, .int .i64 p1, .slice A36 x36.length c36, .int .i64 0, .int .i64 0] rfl) (hc (o_stvH (vs := [.int .i64 p0, .int .i64 p1, .slice A36 x36.length c36, .int .i64 0, .int .i64 0]) (us' := [.int .i64 p0, .int .i64 p1, .slice A36 x36.length c36, .int .i64 0, .int .i64 0]) hH 1 rfl rfl rfl rfl rfl tI66 rfl (List.cons_ne_nil _ _) rfl rfl rfl ?_)))
  clear hH
  intro s66 hH
  refine HL_nil (hK65 _ _ ?_)
  try dsimp only [putL, setL, evL, getL]
  refine HT_ret ?_
  exact hQr _ _ [.agg #[.int .i64 p0, .int .i64 p1, .slice A36 x36.length c36, .int .i64 0, .int .i64 0]] _ ⟨ResV.cells rfl Try.underlying66 rfl tI66 (hH.var 1 rfl) rfl, trivial⟩ H ⟨A36, c36, rfl, hH.sel [0] (by decide)⟩
def spec_NewScreen.f (p0 : Int) (p1 : Int) : Option (Int × Int × (List (Int)) × Int × Int × Bool) := ((spec_l1In.f p0 1 20).bind fun u22 => if (!u22) = true then (some true) else ((spec_l1In.f p1 1 8).bind fun u24 => some (!u24))).bind fun (o : Bool) => match o with | x21 => (if x21 = true then (some (0, 0, [], 0, 0, false)) else ((spec_l16New.f p0 p1).bind fun u30 => some (u30.1, u30.2.1, u30.2.2.1, u30.2.2.2.1, u30.2.2.2.2, true)))
def spec_NewScreen.post (sb s : St) (F0 : Fp) (r : Int × Int × (List (Int)) × Int × Int × Bool) : Value → St → Prop := fun v s' => ∃ (A2 : Option Addr) (c2 : Nat), v = .tuple #[.agg #[.int .i64 r.1, .int .i64 r.2.1, .slice A2 r.2.2.1.length c2, .int .i64 r.2.2.2.1, .int .i64 r.2.2.2.2.1], .bool r.2.2.2.2.2] ∧ Hp sb s F0 s' [Ck.ol OI 3 A2 c2 r.2.2.1]
set_option maxRecDepth 100000 in
set_option maxHeartbeats 4000000 in
theorem spec_NewScreen.ok (sb s : St) (F0 : Fp) (p0 : Int) (p1 : Int) (hH : Hp sb s F0 s []) (r : Int × Int × (List (Int)) × Int × Int × Bool) (H : spec_NewScreen.f p0 p1 = some r) : GCall Try.prog 59 #[.int .i64 p0, .int .i64 p1] s (spec_NewScreen.post sb s F0 r) := by
 refine GCall_ofr (spec_NewScreen.post sb s F0) [.cell 4 66, .tmp 5] (ud [.int .i64 p0, .int .i64 p1] 16) Try.func59 rfl rfl rfl fun w Q hQr hQn hQp => ?_
 replace H := topE H
 unfold spec_NewScreen.f at H
 dsimp only [ud, un]
 refine sr fun K1 hK1 => hc (o_allocH hH tI66 ?_)
 clear hH
 intro b2 s2 hH _
 refine ag (HL_nil (hK1 _ _ ?_))
 dsimp only [putL, setL, evL, getL]
 refine HT_seq_k fun K16 hK16 => ?_
 refine joinH H fun G17 hG17 H => ?_
 refine HT_joinK (fun l' s' => ∃ (x21 : Bool), G17 x21 = some r ∧ skim [0, 0, 2, 8] l' = ([.int .i64 p0, .int .i64 p1, .pointer (some ⟨b2, 0, none⟩), .bool x21], 5) ∧ Hp sb s F0 s' [Ck.ov b2 [.int .i64 0, .int .i64 0, .slice none 0 0, .int .i64 0, .int .i64 0] 66]) ?_ ?_
 ·intro K17 hK17
  refine HT_region ?_
  refine mv ?_
  replace H := headE H
  obtain ⟨u22, hu22, H⟩ := H
  refine hc (o_call (args := #[.int .i64 p0, .int .i64 1, .int .i64 20]) Try.func108 rfl rfl rfl (spec_l1In.ok sb s2 no p0 1 20 (Hp.own hH.bs) _ hu22) ?_)
  rintro _ s22 ⟨rfl, hD⟩
  replace hH := hH.back0 hD (Up.refl _ _ _)
  clear hD
  refine hc (o_not rfl ?_)
  dsimp only [putL, setL, evL, getL]
  refine mv ?_
  revert H
  refine it (fun hb23 H => ?_) (fun hb23 H => ?_)
  ·refine wf rfl rfl rfl rfl hb23 (wf rfl rfl rfl rfl hb23 ?_)
   dsimp only [putL, setL, evL, getL]
   refine wf rfl rfl rfl rfl hb23 (hc (o_pickT rfl hb23 (HL_nil ?_)))
   exact hK17 _ _ ⟨true, H, rfl, hH⟩
  ·refine wt rfl rfl rfl rfl hb23 (o_move ?_)
   replace H := headE H
   obtain ⟨u24, hu24, H⟩ := H
   try dsimp only [putL, setL, evL, getL]
   refine wt rfl rfl rfl rfl hb23 (o_call (args := #[.int .i64 p1, .int .i64 1, .int .i64 8]) Try.func108 rfl rfl rfl (spec_l1In.ok sb s22 no p1 1 8 (Hp.own hH.bs) _ hu24) ?_)
   rintro _ s24 ⟨rfl, hD⟩
   replace hH := hH.back0 hD (Up.refl _ _ _)
   clear hD
   refine wt rfl rfl rfl rfl hb23 (o_not rfl (hc (o_pickF rfl hb23 (HL_nil ?_))))
   exact hK17 _ _ ⟨!u24, H, rfl, hH⟩
 ·rintro l' s25 ⟨x21, H, hl, hH⟩
  revert l'
  refine skA ?_
  dsimp only [Al, Sk]
  intros
  replace H := hG17 _ H
  try dsimp only at H
  revert H
  refine ct rfl (fun hb26 H => ?_) (fun hb26 H => ?_)
  ·refine sr fun K27 hK27 => ?_
   try dsimp only [putL, setL, evL, getL]
   refine hc (o_build (pl := [(0, 1), (1, 1), (2, 1), (3, 1), (4, 1)]) (cs := #[.int .i64 0, .int .i64 0, .slice none 0 0, .int .i64 0, .int .i64 0]) Try.underlying66 tI66 (by kernel_rfl) (by kernel_rfl) rfl (hc (o_stvH (vs := [.int .i64 0, .int .i64 0, .slice none 0 0, .int .i64 0, .int .i64 0]) (us' := [.int .i64 0, .int .i64 0, .slice none 0 0, .int .i64 0, .int .i64 0]) hH 0 rfl rfl rfl rfl rfl tI66 rfl (List.cons_ne_nil _ _) rfl rfl rfl ?_)))
   clear hH
   intro s28 hH
   refine ag (HL_nil (hK27 _ _ ?_))
   dsimp only [putL, setL, evL, getL]
   refine HT_ret ?_
   exact hQr _ _ [.agg #[.int .i64 0, .int .i64 0, .slice none 0 0, .int .i64 0, .int .i64 0], .bool false] _ ⟨ResV.cells rfl Try.underlying66 rfl tI66 (hH.var 0 rfl) rfl, rfl, trivial⟩ H ⟨none, 0, rfl, (hH.nil (K := KI) OI 3).sel [1] (by decide)⟩
  ·refine HT_skip (hK16 _ _ (sr fun K29 hK29 => (mv (mv ?_))))
   replace H := headE H
   obtain ⟨u30, hu30, H⟩ := H
   refine hc (o_call (args := #[.int .i64 p0, .int .i64 p1]) Try.func149 rfl rfl rfl (spec_l16New.ok sb s25 no p0 p1 (Hp.own hH.bs) _ hu30) ?_)
   rintro _ s30 ⟨A31, c31, rfl, hD⟩
   replace hH := hH.back0 hD (Up.refl _ _ _)
   clear hD
   try dsimp only [putL, setL, evL, getL]
   refine hc (o_stvH (vs := [.int .i64 u30.1, .int .i64 u30.2.1, .slice A31 u30.2.2.1.length c31, .int .i64 u30.2.2.2.1, .int .i64 u30.2.2.2.2]) (us' := [.int .i64 u30.1, .int .i64 u30.2.1, .slice A31 u30.2.2.1.length c31, .int .i64 u30.2.2.2.1, .int .i64 u30.2.2.2.2]) hH 0 rfl rfl rfl rfl rfl tI66 rfl (List.cons_ne_nil _ _) rfl rfl rfl ?_)
   clear hH
   intro s32 hH
   refine ag (HL_nil (hK29 _ _ ?_))
   dsimp only [putL, setL, evL, getL]
   refine HT_ret ?_
   exact hQr _ _ [.agg #[.int .i64 u30.1, .int .i64 u30.2.1, .slice A31 u30.2.2.1.length c31, .int .i64 u30.2.2.2.1, .int .i64 u30.2.2.2.2], .bool true] _ ⟨ResV.cells rfl Try.underlying66 rfl tI66 (hH.var 0 rfl) rfl, rfl, trivial⟩ H ⟨A31, c31, rfl, hH.sel [1] (by decide)⟩
def spec_l1Cur_among.f (p0_0 : List (Int)) (p0_1 : Int) (p0_2 : Int) (p1 : List (Int)) : Option (Int × Int × Int) := (spec_l1Cur_pick.f p0_0 p0_1 p0_2 (p1.length : Int)).bind fun u3 => (rd? p1 u3.1).bind fun u4 => some (u4, u3.2.1, u3.2.2)
def spec_l1Cur_among.post (sb s : St) (F0 : Fp) (bp0 : Nat) (A0_0p : Option Addr) (c0_0p : Nat) (p0_0 : List (Int)) (r : Int × Int × Int) : Value → St → Prop := fun v s' => v = .int .i64 r.1 ∧ Hp sb s F0 s' [Ck.ov bp0 [.slice A0_0p p0_0.length c0_0p, .int .i64 r.2.1, .int .u64 r.2.2] 113]
set_option maxRecDepth 100000 in
set_option maxHeartbeats 4000000 in
theorem spec_l1Cur_among.ok (sb s : St) (F0 : Fp) (bp0 : Nat) (A0_0p : Option Addr) (c0_0p : Nat) (p0_0 : List (Int)) (p0_1 : Int) (p0_2 : Int) (A1p : Option Addr) (c1p : Nat) (p1 : List (Int)) (HRp0_0 : Rd (Kd.int .u8) sb A0_0p c0_0p p0_0) (HRp1 : Rd KI sb A1p c1p p1) (hH : Hp sb s F0 s [Ck.ov bp0 [.slice A0_0p p0_0.length c0_0p, .int .i64 p0_1, .int .u64 p0_2] 113]) (r : Int × Int × Int) (H : spec_l1Cur_among.f p0_0 p0_1 p0_2 p1 = some r) : GCall Try.prog 104 #[.pointer (some ⟨bp0, 0, none⟩), .slice A1p p1.length c1p] s (spec_l1Cur_among.post sb s F0 bp0 A0_0p c0_0p p0_0 r) := by
 refine GCall_ofr (spec_l1Cur_among.post sb s F0 bp0 A0_0p c0_0p p0_0) [.tmp 4] (ud [.pointer (some ⟨bp0, 0, none⟩), .slice A1p p1.length c1p] 10) Try.func104 rfl rfl rfl fun w Q hQr hQn hQp => ?_
 replace H := topE H
 unfold spec_l1Cur_among.f at H
 dsimp only [ud, un]
 refine sr fun K1 hK1 => ag (HL_nil (hK1 _ _ ?_))
 dsimp only [putL, setL, evL, getL]
 refine sr fun K2 hK2 => mv (mv (mv ?_))
 dsimp only [putL, setL, evL, getL]
 refine hc (o_len rfl Try.underlying24 ?_)
 replace H := headE H
 obtain ⟨u3, hu3, H⟩ := H
 obtain ⟨F1, hA, hB⟩ := hH.take [0] (by decide)
 dsimp only [addC, setC, rmC, selC, getC] at hA
 refine hc (o_call (args := #[.pointer (some ⟨bp0, 0, none⟩), .int .i64 (p1.length : Int)]) Try.func112 rfl rfl rfl (spec_l1Cur_pick.ok sb s F1 bp0 A0_0p c0_0p p0_0 p0_1 p0_2 (p1.length : Int) HRp0_0 hA _ hu3) ?_)
 rintro _ s3 ⟨rfl, hD⟩
 replace hH := hB _ _ _ (Up.refl _ _ _) hD
 clear hD hA hB
 replace H := headE H
 obtain ⟨u4, hu4, H⟩ := H
 obtain ⟨b4, o4, cs4, hr4, hh4, hel4⟩ := Rd.elb HRp1 hu4
 obtain rfl := hr4
 refine hc (hel4 s3 rfl rfl Try.underlying24 tI3 ?_)
 dsimp only [putL, setL, evL, getL]
 refine hc (o_load' rfl Try.underlying3 rfl ((hh4 hH.bs.mono) 0 _ rfl) (ag (HL_nil (hK2 _ _ ?_))))
 dsimp only [putL, setL, evL, getL]
 refine HT_ret ?_
 exact hQr _ _ [.int .i64 u4] _ ⟨rfl, trivial⟩ H ⟨rfl, hH.sel [1] (by decide)⟩
def spec_l1Cur_one.f (p0_0 : List (Int)) (p0_1 : Int) (p0_2 : Int) (p1 : Int) : Option (Bool × Int × Int) := (spec_l1Cur_pick.f p0_0 p0_1 p0_2 p1).bind fun u3 => some ((u3.1 == 0), u3.2.1, u3.2.2)
def spec_l1Cur_one.post (sb s : St) (F0 : Fp) (bp0 : Nat) (A0_0p : Option Addr) (c0_0p : Nat) (p0_0 : List (Int)) (r : Bool × Int × Int) : Value → St → Prop := fun v s' => v = .bool r.1 ∧ Hp sb s F0 s' [Ck.ov bp0 [.slice A0_0p p0_0.length c0_0p, .int .i64 r.2.1, .int .u64 r.2.2] 113]
set_option maxRecDepth 100000 in
set_option maxHeartbeats 4000000 in
theorem spec_l1Cur_one.ok (sb s : St) (F0 : Fp) (bp0 : Nat) (A0_0p : Option Addr) (c0_0p : Nat) (p0_0 : List (Int)) (p0_1 : Int) (p0_2 : Int) (p1 : Int) (HRp0_0 : Rd (Kd.int .u8) sb A0_0p c0_0p p0_0) (hH : Hp sb s F0 s [Ck.ov bp0 [.slice A0_0p p0_0.length c0_0p, .int .i64 p0_1, .int .u64 p0_2] 113]) (r : Bool × Int × Int) (H : spec_l1Cur_one.f p0_0 p0_1 p0_2 p1 = some r) : GCall Try.prog 113 #[.pointer (some ⟨bp0, 0, none⟩), .int .i64 p1] s (spec_l1Cur_one.post sb s F0 bp0 A0_0p c0_0p p0_0 r) := by
 refine GCall_ofr (spec_l1Cur_one.post sb s F0 bp0 A0_0p c0_0p p0_0) [.tmp 4] (ud [.pointer (some ⟨bp0, 0, none⟩), .int .i64 p1] 7) Try.func113 rfl rfl rfl fun w Q hQr hQn hQp => ?_
 replace H := topE H
 unfold spec_l1Cur_one.f at H
 dsimp only [ud, un]
 refine sr fun K1 hK1 => ag (HL_nil (hK1 _ _ ?_))
 dsimp only [putL, setL, evL, getL]
 refine sr fun K2 hK2 => mv (mv ?_)
 replace H := headE H
 obtain ⟨u3, hu3, H⟩ := H
 obtain ⟨F1, hA, hB⟩ := hH.take [0] (by decide)
 dsimp only [addC, setC, rmC, selC, getC] at hA
 refine hc (o_call (args := #[.pointer (some ⟨bp0, 0, none⟩), .int .i64 p1]) Try.func112 rfl rfl rfl (spec_l1Cur_pick.ok sb s F1 bp0 A0_0p c0_0p p0_0 p0_1 p0_2 p1 HRp0_0 hA _ hu3) ?_)
 rintro _ s3 ⟨rfl, hD⟩
 replace hH := hB _ _ _ (Up.refl _ _ _) hD
 clear hD hA hB
 try dsimp only [putL, setL, evL, getL]
 refine bn rfl rfl rfl (ag (HL_nil (hK2 _ _ ?_)))
 dsimp only [putL, setL, evL, getL]
 refine HT_ret ?_
 exact hQr _ _ [.bool (u3.1 == 0)] _ ⟨rfl, trivial⟩ H ⟨rfl, hH.sel [1] (by decide)⟩
def spec_l1Cur_shown.l1 (p0_0 : List (Int)) : Nat → (List (Int)) → Int → Int → Int → Option ((List (Int)) × Int × Int)
 | 0, _, _, _, _ => none
 | kf + 1, x53, x54, x55, x56 => if (decide (x54 > 0)) = true then ((spec_l1Cur_among.f p0_0 x55 x56 [97, 98, 99, 32, 97, 98, 10, 13, 8, 9, 12354, 7]).bind fun u75 => (app? 17592186044416 x53 [u75.1]).bind fun x77 => spec_l1Cur_shown.l1 p0_0 kf x77 (IntKind.i64.wrap (x54 - 1)) u75.2.1 u75.2.2) else (some (x53, x55, x56))
def spec_l1Cur_shown.f (p0_0 : List (Int)) (p0_1 : Int) (p0_2 : Int) (p1 : Int) : Option ((List (Int)) × Int × Int) := (spec_l1Cur_pick.f p0_0 p0_1 p0_2 (IntKind.i64.wrap (p1 + 1))).bind fun u5 => (spec_l1Cur_shown.l1 p0_0 (((u5.1) - (0)).toNat + 2) [] u5.1 u5.2.1 u5.2.2).bind fun (o : (List (Int)) × Int × Int) => match o with | (x41, x42, x43) => (((spec_l1Cur_one.f p0_0 x42 x43 20).bind fun u89 => if u89.1 = true then ((app? 17592186044416 x41 [12, 120]).bind fun x92 => some (x92, u89.2.1, u89.2.2)) else (some (x41, u89.2.1, u89.2.2))).bind fun (o : (List (Int)) × Int × Int) => match o with | (x85, x86, x87) => (some (x85, x86, x87)))
def spec_l1Cur_shown.post (sb s : St) (F0 : Fp) (bp0 : Nat) (A0_0p : Option Addr) (c0_0p : Nat) (p0_0 : List (Int)) (r : (List (Int)) × Int × Int) : Value → St → Prop := fun v s' => ∃ (A0 : Option Addr) (c0 : Nat), v = .slice A0 r.1.length c0 ∧ Hp sb s F0 s' [Ck.ol OI 3 A0 c0 r.1, Ck.ov bp0 [.slice A0_0p p0_0.length c0_0p, .int .i64 r.2.1, .int .u64 r.2.2] 113]
set_option maxRecDepth 100000 in
set_option maxHeartbeats 4000000 in
theorem spec_l1Cur_shown.ok (sb s : St) (F0 : Fp) (bp0 : Nat) (A0_0p : Option Addr) (c0_0p : Nat) (p0_0 : List (Int)) (p0_1 : Int) (p0_2 : Int) (p1 : Int) (HRp0_0 : Rd (Kd.int .u8) sb A0_0p c0_0p p0_0) (hH : Hp sb s F0 s [Ck.ov bp0 [.slice A0_0p p0_0.length c0_0p, .int .i64 p0_1, .int .u64 p0_2] 113]) (r : (List (Int)) × Int × Int) (H : spec_l1Cur_shown.f p0_0 p0_1 p0_2 p1 = some r) : GCall Try.prog 140 #[.pointer (some ⟨bp0, 0, none⟩), .int .i64 p1] s (spec_l1Cur_shown.post sb s F0 bp0 A0_0p c0_0p p0_0 r) := by
 refine GCall_ofr (spec_l1Cur_shown.post sb s F0 bp0 A0_0p c0_0p p0_0) [.tmp 4] (ud [.pointer (some ⟨bp0, 0, none⟩), .int .i64 p1] 25) Try.func140 rfl rfl rfl fun w Q hQr hQn hQp => ?_
 replace H := topE H
 unfold spec_l1Cur_shown.f at H
 dsimp only [ud, un]
 refine sr fun K1 hK1 => ag (HL_nil (hK1 _ _ ?_))
 dsimp only [putL, setL, evL, getL]
 refine sr fun K2 hK2 => ag (HL_nil (hK2 _ _ ?_))
 dsimp only [putL, setL, evL, getL]
 refine HT_seq_k fun K3 hK3 => sr fun K4 hK4 => mv (mv (bn rfl rfl rfl ?_))
 replace H := headE H
 obtain ⟨u5, hu5, H⟩ := H
 obtain ⟨F1, hA, hB⟩ := hH.take [0] (by decide)
 dsimp only [addC, setC, rmC, selC, getC] at hA
 try dsimp only [putL, setL, evL, getL]
 refine hc (o_call (args := #[.pointer (some ⟨bp0, 0, none⟩), .int .i64 (IntKind.i64.wrap (p1 + 1))]) Try.func112 rfl rfl rfl (spec_l1Cur_pick.ok sb s F1 bp0 A0_0p c0_0p p0_0 p0_1 p0_2 (IntKind.i64.wrap (p1 + 1)) HRp0_0 hA _ hu5) ?_)
 rintro _ s5 ⟨rfl, hD⟩
 replace hH := hB _ _ _ (Up.refl _ _ _) hD
 clear hD hA hB
 refine ag (HL_nil (hK4 _ _ ?_))
 dsimp only [putL, setL, evL, getL]
 refine joinH H fun G6 hG6 H => ?_
 refine HT_toK (fun l' s' => ∃ (x41 : List (Int)) (A41 : Option Addr) (c41 : Nat) (x42 : Int) (x43 : Int), G6 (x41, x42, x43) = some r ∧ skim [0, 4] l' = ([.pointer (some ⟨bp0, 0, none⟩), .slice A41 x41.length c41], 22) ∧ Hp sb s F0 s' [Ck.ol OI 3 A41 c41 x41, Ck.ov bp0 [.slice A0_0p p0_0.length c0_0p, .int .i64 x42, .int .u64 x43] 113]) ?_ ?_
 ·intro K6 hK6
  refine HT_block ?_
  refine HT_loopK (fun kf l' s' => ∃ (x53 : List (Int)) (A53 : Option Addr) (c53 : Nat) (x54 : Int) (x55 : Int) (x56 : Int), (spec_l1Cur_shown.l1 p0_0 kf x53 x54 x55 x56).bind G6 = some r ∧ skim [0, 4, 0] l' = ([.pointer (some ⟨bp0, 0, none⟩), .slice A53 x53.length c53, .int .i64 x54], 21) ∧ Hp sb s F0 s' [Ck.ol OI 3 A53 c53 x53, Ck.ov bp0 [.slice A0_0p p0_0.length c0_0p, .int .i64 x55, .int .u64 x56] 113]) (((u5.1) - (0)).toNat + 2) ⟨[], none, 0, u5.1, u5.2.1, u5.2.2, H, rfl, (hH.nil (K := KI) OI 3).sel [2, 1] (by decide)⟩ ?_
  rintro kf l' s69 ⟨x53, A53, c53, x54, x55, x56, H, hl, hH⟩ K69 hK69
  revert l'
  refine skA ?_
  dsimp only [Al, Sk]
  intros
  cases kf with
  | zero => simp [spec_l1Cur_shown.l1] at H
  | succ kf =>
   rw [spec_l1Cur_shown.l1] at H
   refine HT_seq_k fun K70 hK70 => sr fun K71 hK71 => mv (bn rfl rfl rfl (HL_nil (hK71 _ _ ?_)))
   dsimp only [putL, setL, evL, getL]
   revert H
   refine ct rfl (fun hb72 H => ?_) (fun hb72 H => ?_)
   ·refine HT_skip (hK70 _ _ (HT_seq_k fun K73 hK73 => (HT_block ?_)))
    refine HT_region ?_
    refine mv (mv (hc (o_litF (K := KI) (O := OI) (ca := #[.int .i64 97, .int .i64 98, .int .i64 99, .int .i64 32, .int .i64 97, .int .i64 98, .int .i64 10, .int .i64 13, .int .i64 8, .int .i64 9, .int .i64 12354, .int .i64 7]) [[.int .i64 97], [.int .i64 98], [.int .i64 99], [.int .i64 32], [.int .i64 97], [.int .i64 98], [.int .i64 10], [.int .i64 13], [.int .i64 8], [.int .i64 9], [.int .i64 12354], [.int .i64 7]] [97, 98, 99, 32, 97, 98, 10, 13, 8, 9, 12354, 7] hH Try.underlying24 tI3 rfl (by decide) rfl rfl (by kernel_rfl) rfl ⟨rfl, Ent.own (Ent.flat rfl), rfl, Ent.own (Ent.flat rfl), rfl, Ent.own (Ent.flat rfl), rfl, Ent.own (Ent.flat rfl), rfl, Ent.own (Ent.flat rfl), rfl, Ent.own (Ent.flat rfl), rfl, Ent.own (Ent.flat rfl), rfl, Ent.own (Ent.flat rfl), rfl, Ent.own (Ent.flat rfl), rfl, Ent.own (Ent.flat rfl), rfl, Ent.own (Ent.flat rfl), rfl, Ent.own (Ent.flat rfl), trivial⟩ ?_)))
    clear hH
    intro A74 s74 hH _
    replace H := headE H
    obtain ⟨u75, hu75, H⟩ := H
    obtain ⟨F1, sx, hx, hC, hA, hB⟩ := hH.takeT [1] (by decide)
    dsimp only [addC, setC, rmC, selC, getC] at hA
    try dsimp only [putL, setL, evL, getL]
    refine hc (o_call (args := #[.pointer (some ⟨bp0, 0, none⟩), .slice A74 [97, 98, 99, 32, 97, 98, 10, 13, 8, 9, 12354, 7].length 12]) Try.func104 rfl rfl rfl (spec_l1Cur_among.ok sx s74 F1 bp0 A0_0p c0_0p p0_0 x55 x56 A74 12 [97, 98, 99, 32, 97, 98, 10, 13, 8, 9, 12354, 7] (HRp0_0.mono hx.mono) (Ck.rdT hx (hC 2 (by decide)) rfl) hA _ hu75) ?_)
    rintro _ s75 ⟨rfl, hD⟩
    replace hH := hB _ _ _ inferInstance hD
    clear hD hA hB hx hC
    refine hc (o_litF (K := KI) (O := OI) (ca := #[.int .i64 u75.1]) [[.int .i64 u75.1]] [u75.1] hH Try.underlying24 tI3 rfl (by decide) rfl rfl (by kernel_rfl) rfl ⟨rfl, Ent.own (Ent.flat rfl), trivial⟩ ?_)
    clear hH
    intro A76 s76 hH _
    replace H := headE H
    obtain ⟨x77, hx77, H⟩ := H
    refine hc (o_appF (K := KI) (n := 17592186044416) (A := A53) (c := c53) (xs := x53) (ys := [u75.1]) (B := A76) (c2 := 1) hH 0 rfl rfl rfl rfl Try.underlying24 tI3 rfl (by decide) (by decide) (by decide) (Src.flat (hH.rd 4 rfl)) hx77 ?_)
    clear hH
    intro A77 c77 s77 hH
    try dsimp only [putL, setL, evL, getL]
    refine ag (HL_nil (hK73 _ _ ?_))
    dsimp only [putL, setL, evL, getL]
    refine HT_region ?_
    refine mv (bn rfl rfl rfl (ag (HL_nil ?_)))
    exact hK69 _ _ ⟨kf, Nat.lt_succ_self kf, x77, A77, c77, IntKind.i64.wrap (x54 - 1), u75.2.1, u75.2.2, H, rfl, hH.sel [0, 3] (by decide)⟩
   ·refine HT_exit ?_
    exact hK6 _ _ ⟨x53, A53, c53, x55, x56, H, rfl, hH⟩
 ·rintro l' s78 ⟨x41, A41, c41, x42, x43, H, hl, hH⟩
  revert l'
  refine skA ?_
  dsimp only [Al, Sk]
  intros
  replace H := hG6 _ H
  try dsimp only at H
  refine hK3 _ _ ?_
  refine joinH H fun G79 hG79 H => ?_
  refine HT_joinK (fun l' s' => ∃ (x85 : List (Int)) (A85 : Option Addr) (c85 : Nat) (x86 : Int) (x87 : Int), G79 (x85, x86, x87) = some r ∧ skim [5] l' = ([.slice A85 x85.length c85], 22) ∧ Hp sb s F0 s' [Ck.ol OI 3 A85 c85 x85, Ck.ov bp0 [.slice A0_0p p0_0.length c0_0p, .int .i64 x86, .int .u64 x87] 113]) ?_ ?_
  ·intro K79 hK79
   refine sr fun K88 hK88 => ?_
   try dsimp only [putL, setL, evL, getL]
   refine mv ?_
   replace H := headE H
   obtain ⟨u89, hu89, H⟩ := H
   obtain ⟨F1, hA, hB⟩ := hH.take [1] (by decide)
   dsimp only [addC, setC, rmC, selC, getC] at hA
   refine hc (o_call (args := #[.pointer (some ⟨bp0, 0, none⟩), .int .i64 20]) Try.func113 rfl rfl rfl (spec_l1Cur_one.ok sb s78 F1 bp0 A0_0p c0_0p p0_0 x42 x43 20 HRp0_0 hA _ hu89) ?_)
   rintro _ s89 ⟨rfl, hD⟩
   replace hH := hB _ _ _ (Up.refl _ _ _) hD
   clear hD hA hB
   refine HL_nil (hK88 _ _ ?_)
   try dsimp only [putL, setL, evL, getL]
   revert H
   refine ct rfl (fun hb90 H => ?_) (fun hb90 H => ?_)
   ·refine HT_region ?_
    refine mv (hc (o_litF (K := KI) (O := OI) (ca := #[.int .i64 12, .int .i64 120]) [[.int .i64 12], [.int .i64 120]] [12, 120] hH Try.underlying24 tI3 rfl (by decide) rfl rfl (by kernel_rfl) rfl ⟨rfl, Ent.own (Ent.flat rfl), rfl, Ent.own (Ent.flat rfl), trivial⟩ ?_))
    clear hH
    intro A91 s91 hH _
    replace H := headE H
    obtain ⟨x92, hx92, H⟩ := H
    refine hc (o_appF (K := KI) (n := 17592186044416) (A := A41) (c := c41) (xs := x41) (ys := [12, 120]) (B := A91) (c2 := 2) hH 0 rfl rfl rfl rfl Try.underlying24 tI3 rfl (by decide) (by decide) (by decide) (Src.flat (hH.rd 3 rfl)) hx92 ?_)
    clear hH
    intro A92 c92 s92 hH
    try dsimp only [putL, setL, evL, getL]
    refine ag (HL_nil ?_)
    exact hK79 _ _ ⟨x92, A92, c92, u89.2.1, u89.2.2, H, rfl, hH.sel [0, 2] (by decide)⟩
   ·refine HT_skip ?_
    exact hK79 _ _ ⟨x41, A41, c41, u89.2.1, u89.2.2, H, rfl, hH.sel [0, 2] (by decide)⟩
  ·rintro l' s93 ⟨x85, A85, c85, x86, x87, H, hl, hH⟩
   revert l'
   refine skA ?_
   dsimp only [Al, Sk]
   intros
   replace H := hG79 _ H
   try dsimp only at H
   refine sr fun K94 hK94 => mv (ag (HL_nil (hK94 _ _ ?_)))
   dsimp only [putL, setL, evL, getL]
   refine HT_ret ?_
   exact hQr _ _ [.slice A85 x85.length c85] _ ⟨rfl, trivial⟩ H ⟨A85, c85, rfl, hH⟩
def spec_GoodRune.f (p0 : Int) : Option Bool := (spec_l1In.f p0 0 1114111).bind fun u3 => if u3 = true then ((spec_l1In.f p0 55296 57343).bind fun u5 => some (!u5)) else (some false)
def spec_GoodRune.post (sb s : St) (F0 : Fp) (r : Bool) : Value → St → Prop := fun v s' => v = .bool r ∧ Hp sb s F0 s' []
set_option maxRecDepth 100000 in
set_option maxHeartbeats 4000000 in
theorem spec_GoodRune.ok (sb s : St) (F0 : Fp) (p0 : Int) (hH : Hp sb s F0 s []) (r : Bool) (H : spec_GoodRune.f p0 = some r) : GCall Try.prog 148 #[.int .i64 p0] s (spec_GoodRune.post sb s F0 r) := by
 refine GCall_ofr (spec_GoodRune.post sb s F0) [.tmp 2] (ud [.int .i64 p0] 9) Try.func148 rfl rfl rfl fun w Q hQr hQn hQp => ?_
 replace H := topE H
 unfold spec_GoodRune.f at H
 dsimp only [ud, un]
 refine sr fun K1 hK1 => ag (HL_nil (hK1 _ _ ?_))
 dsimp only [putL, setL, evL, getL]
 refine sr fun K2 hK2 => mv ?_
 replace H := headE H
 obtain ⟨u3, hu3, H⟩ := H
 refine hc (o_call (args := #[.int .i64 p0, .int .i64 0, .int .i64 1114111]) Try.func108 rfl rfl rfl (spec_l1In.ok sb s no p0 0 1114111 (Hp.own hH.bs) _ hu3) ?_)
 rintro _ s3 ⟨rfl, hD⟩
 replace hH := hH.back0 hD (Up.refl _ _ _)
 clear hD
 refine mv ?_
 revert H
 refine it (fun hb4 H => ?_) (fun hb4 H => ?_)
 ·refine wt rfl rfl rfl rfl hb4 (o_move ?_)
  replace H := headE H
  obtain ⟨u5, hu5, H⟩ := H
  try dsimp only [putL, setL, evL, getL]
  refine wt rfl rfl rfl rfl hb4 (o_call (args := #[.int .i64 p0, .int .i64 55296, .int .i64 57343]) Try.func108 rfl rfl rfl (spec_l1In.ok sb s3 no p0 55296 57343 (Hp.own hH.bs) _ hu5) ?_)
  rintro _ s5 ⟨rfl, hD⟩
  replace hH := hH.back0 hD (Up.refl _ _ _)
  clear hD
  refine wt rfl rfl rfl rfl hb4 (o_not rfl (hc (o_pickT rfl hb4 ?_)))
  dsimp only [putL, setL, evL, getL]
  refine ag (HL_nil (hK2 _ _ ?_))
  dsimp only [putL, setL, evL, getL]
  refine HT_ret ?_
  exact hQr _ _ [.bool (!u5)] _ ⟨rfl, trivial⟩ H ⟨rfl, hH⟩
 ·refine wf rfl rfl rfl rfl hb4 (wf rfl rfl rfl rfl hb4 (wf rfl rfl rfl rfl hb4 ?_))
  dsimp only [putL, setL, evL, getL]
  refine hc (o_pickF rfl hb4 (ag (HL_nil (hK2 _ _ ?_))))
  dsimp only [putL, setL, evL, getL]
  refine HT_ret ?_
  exact hQr _ _ [.bool false] _ ⟨rfl, trivial⟩ H ⟨rfl, hH⟩
def spec_l1AllRunes.l1 (p0 : List (Int)) : Nat → Int → Option (Lo Unit Bool)
 | 0, _ => none
 | kf + 1, x48 => if (decide (x48 < (p0.length : Int))) = true then ((rd? p0 x48).bind fun u66 => (spec_GoodRune.f u66).bind fun u68 => if (!u68) = true then ((some false).bind fun z => some (Lo.ret z)) else (spec_l1AllRunes.l1 p0 kf (IntKind.i64.wrap (x48 + 1)))) else (some (Lo.go ()))
def spec_l1AllRunes.f (p0 : List (Int)) : Option Bool := (spec_l1AllRunes.l1 p0 ((((p0.length : Int)) - (0)).toNat + 2) 0).bind fun (o : Lo Unit Bool) => match o with | .go () => (some (decide ((p0.length : Int) ≤ 1000))) | .ret z => some z
def spec_l1AllRunes.post (sb s : St) (F0 : Fp) (r : Bool) : Value → St → Prop := fun v s' => v = .bool r ∧ Hp sb s F0 s' []
set_option maxRecDepth 100000 in
set_option maxHeartbeats 4000000 in
theorem spec_l1AllRunes.ok (sb s : St) (F0 : Fp) (A0p : Option Addr) (c0p : Nat) (p0 : List (Int)) (HRp0 : Rd KI sb A0p c0p p0) (hH : Hp sb s F0 s []) (r : Bool) (H : spec_l1AllRunes.f p0 = some r) : GCall Try.prog 119 #[.slice A0p p0.length c0p] s (spec_l1AllRunes.post sb s F0 r) := by
 refine GCall_ofr (spec_l1AllRunes.post sb s F0) [.tmp 2] (ud [.slice A0p p0.length c0p] 17) Try.func119 rfl rfl rfl fun w Q hQr hQn hQp => ?_
 replace H := topE H
 unfold spec_l1AllRunes.f at H
 dsimp only [ud, un]
 refine sr fun K1 hK1 => ag (HL_nil (hK1 _ _ ?_))
 dsimp only [putL, setL, evL, getL]
 refine HT_seq_k fun K2 hK2 => sr fun K3 hK3 => mv (hc (o_len rfl Try.underlying24 (mv (HL_nil (hK3 _ _ ?_)))))
 dsimp only [putL, setL, evL, getL]
 refine joinH H fun G4 hG4 H => ?_
 refine HT_toK (fun l' s' => G4 (.go ()) = some r ∧ skim [0] l' = ([.slice A0p p0.length c0p], 18) ∧ Hp sb s F0 s' []) ?_ ?_
 ·intro K4 hK4
  refine HT_block ?_
  refine HT_loopK (fun kf l' s' => ∃ (x48 : Int), (spec_l1AllRunes.l1 p0 kf x48).bind G4 = some r ∧ skim [0, 4, 0, 0] l' = ([.slice A0p p0.length c0p, .slice A0p p0.length c0p, .int .i64 (p0.length : Int), .int .i64 x48], 11) ∧ Hp sb s F0 s' []) ((((p0.length : Int)) - (0)).toNat + 2) ⟨0, H, rfl, hH⟩ ?_
  rintro kf l' s60 ⟨x48, H, hl, hH⟩ K60 hK60
  revert l'
  refine skA ?_
  dsimp only [Al, Sk]
  intros
  cases kf with
  | zero => simp [spec_l1AllRunes.l1] at H
  | succ kf =>
   rw [spec_l1AllRunes.l1] at H
   refine sr fun K61 hK61 => bn rfl rfl rfl (HL_nil (hK61 _ _ ?_))
   dsimp only [putL, setL, evL, getL]
   refine HT_seq_k fun K62 hK62 => ?_
   revert H
   refine ct rfl (fun hb63 H => ?_) (fun hb63 H => ?_)
   ·refine HT_skip (hK62 _ _ (HT_seq_k fun K64 hK64 => (HT_block (sr fun K65 hK65 => ?_))))
    replace H := headE H
    obtain ⟨u66, hu66, H⟩ := H
    obtain ⟨b66, o66, cs66, hr66, hh66, hel66⟩ := Rd.elb HRp0 hu66
    obtain rfl := hr66
    refine hc (hel66 s60 rfl rfl Try.underlying24 tI3 (hc (o_load' rfl Try.underlying3 rfl ((hh66 hH.bs.mono) 0 _ rfl) (ag (HL_nil (hK65 _ _ ?_))))))
    dsimp only [putL, setL, evL, getL]
    refine sr fun K67 hK67 => mv ?_
    replace H := headE H
    obtain ⟨u68, hu68, H⟩ := H
    refine hc (o_call (args := #[.int .i64 u66]) Try.func148 rfl rfl rfl (spec_GoodRune.ok sb s60 no u66 (Hp.own hH.bs) _ hu68) ?_)
    rintro _ s68 ⟨rfl, hD⟩
    replace hH := hH.back0 hD (Up.refl _ _ _)
    clear hD
    refine hc (o_not rfl (HL_nil (hK67 _ _ ?_)))
    dsimp only [putL, setL, evL, getL]
    revert H
    refine ct rfl (fun hb69 H => ?_) (fun hb69 H => ?_)
    ·refine sr fun K70 hK70 => ag (HL_nil (hK70 _ _ ?_))
     dsimp only [putL, setL, evL, getL]
     refine HT_ret ?_
     replace H := escH (fun z hz => hG4 _ hz) H
     exact hQr _ _ [.bool false] _ ⟨rfl, trivial⟩ H ⟨rfl, hH⟩
    ·refine HT_skip (hK64 _ _ ?_)
     refine HT_region ?_
     refine bn rfl rfl rfl (mv (HL_nil ?_))
     exact hK60 _ _ ⟨kf, Nat.lt_succ_self kf, IntKind.i64.wrap (x48 + 1), H, rfl, hH⟩
   ·refine HT_exit ?_
    exact hK4 _ _ ⟨H, rfl, hH⟩
 ·rintro l' s71 ⟨H, hl, hH⟩
  revert l'
  refine skA ?_
  dsimp only [Al, Sk]
  intros
  replace H := hG4 _ H
  try dsimp only at H
  refine hK2 _ _ ?_
  refine sr fun K72 hK72 => mv ?_
  dsimp only [putL, setL, evL, getL]
  refine hc (o_len rfl Try.underlying24 (bn rfl rfl rfl (ag (HL_nil (hK72 _ _ ?_)))))
  dsimp only [putL, setL, evL, getL]
  refine HT_ret ?_
  exact hQr _ _ [.bool (decide ((p0.length : Int) ≤ 1000))] _ ⟨rfl, trivial⟩ H ⟨rfl, hH⟩
def spec_l1All.l1 (p0 : List (Int)) (p1 : Int) (p2 : Int) : Nat → Int → Option (Lo Unit Bool)
 | 0, _ => none
 | kf + 1, x48 => if (decide (x48 < (p0.length : Int))) = true then ((rd? p0 x48).bind fun u66 => (spec_l1In.f u66 p1 p2).bind fun u68 => if (!u68) = true then ((some false).bind fun z => some (Lo.ret z)) else (spec_l1All.l1 p0 p1 p2 kf (IntKind.i64.wrap (x48 + 1)))) else (some (Lo.go ()))
def spec_l1All.f (p0 : List (Int)) (p1 : Int) (p2 : Int) : Option Bool := (spec_l1All.l1 p0 p1 p2 ((((p0.length : Int)) - (0)).toNat + 2) 0).bind fun (o : Lo Unit Bool) => match o with | .go () => (some true) | .ret z => some z
def spec_l1All.post (sb s : St) (F0 : Fp) (r : Bool) : Value → St → Prop := fun v s' => v = .bool r ∧ Hp sb s F0 s' []
set_option maxRecDepth 100000 in
set_option maxHeartbeats 4000000 in
theorem spec_l1All.ok (sb s : St) (F0 : Fp) (A0p : Option Addr) (c0p : Nat) (p0 : List (Int)) (p1 : Int) (p2 : Int) (HRp0 : Rd KI sb A0p c0p p0) (hH : Hp sb s F0 s []) (r : Bool) (H : spec_l1All.f p0 p1 p2 = some r) : GCall Try.prog 120 #[.slice A0p p0.length c0p, .int .i64 p1, .int .i64 p2] s (spec_l1All.post sb s F0 r) := by
 refine GCall_ofr (spec_l1All.post sb s F0) [.tmp 6] (ud [.slice A0p p0.length c0p, .int .i64 p1, .int .i64 p2] 18) Try.func120 rfl rfl rfl fun w Q hQr hQn hQp => ?_
 replace H := topE H
 unfold spec_l1All.f at H
 dsimp only [ud, un]
 refine sr fun K1 hK1 => ag (HL_nil (hK1 _ _ ?_))
 dsimp only [putL, setL, evL, getL]
 refine HT_seq_k fun K2 hK2 => sr fun K3 hK3 => mv (hc (o_len rfl Try.underlying24 (mv (HL_nil (hK3 _ _ ?_)))))
 dsimp only [putL, setL, evL, getL]
 refine joinH H fun G4 hG4 H => ?_
 refine HT_toK (fun l' s' => G4 (.go ()) = some r ∧ skim [] l' = ([], 22) ∧ Hp sb s F0 s' []) ?_ ?_
 ·intro K4 hK4
  refine HT_block ?_
  refine HT_loopK (fun kf l' s' => ∃ (x48 : Int), (spec_l1All.l1 p0 p1 p2 kf x48).bind G4 = some r ∧ skim [1, 0, 6, 0, 0] l' = ([.int .i64 p1, .int .i64 p2, .slice A0p p0.length c0p, .int .i64 (p0.length : Int), .int .i64 x48], 10) ∧ Hp sb s F0 s' []) ((((p0.length : Int)) - (0)).toNat + 2) ⟨0, H, rfl, hH⟩ ?_
  rintro kf l' s60 ⟨x48, H, hl, hH⟩ K60 hK60
  revert l'
  refine skA ?_
  dsimp only [Al, Sk]
  intros
  cases kf with
  | zero => simp [spec_l1All.l1] at H
  | succ kf =>
   rw [spec_l1All.l1] at H
   refine sr fun K61 hK61 => bn rfl rfl rfl (HL_nil (hK61 _ _ ?_))
   dsimp only [putL, setL, evL, getL]
   refine HT_seq_k fun K62 hK62 => ?_
   revert H
   refine ct rfl (fun hb63 H => ?_) (fun hb63 H => ?_)
   ·refine HT_skip (hK62 _ _ (HT_seq_k fun K64 hK64 => (HT_block (sr fun K65 hK65 => ?_))))
    replace H := headE H
    obtain ⟨u66, hu66, H⟩ := H
    obtain ⟨b66, o66, cs66, hr66, hh66, hel66⟩ := Rd.elb HRp0 hu66
    obtain rfl := hr66
    refine hc (hel66 s60 rfl rfl Try.underlying24 tI3 (hc (o_load' rfl Try.underlying3 rfl ((hh66 hH.bs.mono) 0 _ rfl) (ag (HL_nil (hK65 _ _ ?_))))))
    dsimp only [putL, setL, evL, getL]
    refine sr fun K67 hK67 => mv (mv (mv ?_))
    replace H := headE H
    obtain ⟨u68, hu68, H⟩ := H
    try dsimp only [putL, setL, evL, getL]
    refine hc (o_call (args := #[.int .i64 u66, .int .i64 p1, .int .i64 p2]) Try.func108 rfl rfl rfl (spec_l1In.ok sb s60 no u66 p1 p2 (Hp.own hH.bs) _ hu68) ?_)
    rintro _ s68 ⟨rfl, hD⟩
    replace hH := hH.back0 hD (Up.refl _ _ _)
    clear hD
    refine hc (o_not rfl (HL_nil (hK67 _ _ ?_)))
    dsimp only [putL, setL, evL, getL]
    revert H
    refine ct rfl (fun hb69 H => ?_) (fun hb69 H => ?_)
    ·refine sr fun K70 hK70 => ag (HL_nil (hK70 _ _ ?_))
     dsimp only [putL, setL, evL, getL]
     refine HT_ret ?_
     replace H := escH (fun z hz => hG4 _ hz) H
     exact hQr _ _ [.bool false] _ ⟨rfl, trivial⟩ H ⟨rfl, hH⟩
    ·refine HT_skip (hK64 _ _ ?_)
     refine HT_region ?_
     refine bn rfl rfl rfl (mv (HL_nil ?_))
     exact hK60 _ _ ⟨kf, Nat.lt_succ_self kf, IntKind.i64.wrap (x48 + 1), H, rfl, hH⟩
   ·refine HT_exit ?_
    exact hK4 _ _ ⟨H, rfl, hH⟩
 ·rintro l' s71 ⟨H, hl, hH⟩
  revert l'
  refine skA ?_
  dsimp only [Al, Sk]
  intros
  replace H := hG4 _ H
  try dsimp only at H
  refine hK2 _ _ ?_
  refine sr fun K72 hK72 => ag (HL_nil (hK72 _ _ ?_))
  dsimp only [putL, setL, evL, getL]
  refine HT_ret ?_
  exact hQr _ _ [.bool true] _ ⟨rfl, trivial⟩ H ⟨rfl, hH⟩
def spec_GoodScreen.f (p0_0 : Int) (p0_1 : Int) (p0_2 : List (Int)) (p0_3 : Int) (p0_4 : Int) : Option Bool := ((spec_l1In.f p0_0 1 20).bind fun u36 => if (!u36) = true then (some true) else ((spec_l1In.f p0_1 1 8).bind fun u38 => if (!u38) = true then (some true) else ((spec_l1In.f p0_3 0 p0_0).bind fun u40 => if (!u40) = true then (some true) else ((spec_l1In.f p0_4 0 (IntKind.i64.wrap (p0_1 - 1))).bind fun u42 => if (!u42) = true then (some true) else (some ((p0_2.length : Int) != (IntKind.i64.wrap (p0_0 * p0_1)))))))).bind fun (o : Bool) => match o with | x35 => (if x35 = true then (some false) else ((spec_l1AllRunes.f p0_2).bind fun u48 => if u48 = true then ((spec_l1All.f p0_2 32 1114111).bind fun u50 => some u50) else (some false)))
def spec_GoodScreen.post (sb s : St) (F0 : Fp) (r : Bool) : Value → St → Prop := fun v s' => v = .bool r ∧ Hp sb s F0 s' []
set_option maxRecDepth 100000 in
set_option maxHeartbeats 4000000 in
theorem spec_GoodScreen.ok (sb s : St) (F0 : Fp) (p0_0 : Int) (p0_1 : Int) (A0_2p : Option Addr) (c0_2p : Nat) (p0_2 : List (Int)) (p0_3 : Int) (p0_4 : Int) (HRp0_2 : Rd KI sb A0_2p c0_2p p0_2) (hH : Hp sb s F0 s []) (r : Bool) (H : spec_GoodScreen.f p0_0 p0_1 p0_2 p0_3 p0_4 = some r) : GCall Try.prog 53 #[.agg #[.int .i64 p0_0, .int .i64 p0_1, .slice A0_2p p0_2.length c0_2p, .int .i64 p0_3, .int .i64 p0_4]] s (spec_GoodScreen.post sb s F0 r) := by
 refine GCall_ofr (spec_GoodScreen.post sb s F0) [.tmp 2] (ud [.agg #[.int .i64 p0_0, .int .i64 p0_1, .slice A0_2p p0_2.length c0_2p, .int .i64 p0_3, .int .i64 p0_4]] 48) Try.func53 rfl rfl rfl fun w Q hQr hQn hQp => ?_
 replace H := topE H
 unfold spec_GoodScreen.f at H
 dsimp only [ud, un]
 refine sr fun K1 hK1 => hc (o_boxH hH rfl ?_)
 clear hH
 intro b2 s2 hH _
 refine ag (HL_nil (hK1 _ _ ?_))
 dsimp only [putL, setL, evL, getL]
 refine HT_seq_k fun K25 hK25 => ?_
 refine joinH H fun G26 hG26 H => ?_
 refine HT_joinK (fun l' s' => ∃ (x35 : Bool), G26 x35 = some r ∧ skim [1, 38] l' = ([.pointer (some ⟨b2, 0, none⟩), .bool x35], 9) ∧ Hp sb s F0 s' [Ck.ov b2 [.int .i64 p0_0, .int .i64 p0_1, .slice A0_2p p0_2.length c0_2p, .int .i64 p0_3, .int .i64 p0_4] 66]) ?_ ?_
 ·intro K26 hK26
  refine HT_region ?_
  refine hc (o_faddr' (ft := 3) (off := 0) rfl Try.underlying66 rfl tI3 (by decide) (hc (o_load' rfl Try.underlying3 rfl (hH.hasv 0 rfl rfl) ?_)))
  replace H := headE H
  obtain ⟨u36, hu36, H⟩ := H
  refine hc (o_call (args := #[.int .i64 p0_0, .int .i64 1, .int .i64 20]) Try.func108 rfl rfl rfl (spec_l1In.ok sb s2 no p0_0 1 20 (Hp.own hH.bs) _ hu36) ?_)
  rintro _ s36 ⟨rfl, hD⟩
  replace hH := hH.back0 hD (Up.refl _ _ _)
  clear hD
  try dsimp only [putL, setL, evL, getL]
  refine hc (o_not rfl (mv ?_))
  revert H
  refine it (fun hb37 H => ?_) (fun hb37 H => ?_)
  ·refine wf rfl rfl rfl rfl hb37 ?_
   dsimp only [putL, setL, evL, getL]
   refine wf rfl rfl rfl rfl hb37 (wf rfl rfl rfl rfl hb37 (wf rfl rfl rfl rfl hb37 ?_))
   dsimp only [putL, setL, evL, getL]
   refine hc (o_pickT rfl hb37 (mv (wf rfl rfl rfl rfl rfl ?_)))
   dsimp only [putL, setL, evL, getL]
   refine wf rfl rfl rfl rfl rfl (wf rfl rfl rfl rfl rfl (wf rfl rfl rfl rfl rfl ?_))
   dsimp only [putL, setL, evL, getL]
   refine wf rfl rfl rfl rfl rfl (wf rfl rfl rfl rfl rfl (hc (o_pickT rfl rfl ?_)))
   dsimp only [putL, setL, evL, getL]
   refine mv (wf rfl rfl rfl rfl rfl (wf rfl rfl rfl rfl rfl ?_))
   dsimp only [putL, setL, evL, getL]
   refine wf rfl rfl rfl rfl rfl (wf rfl rfl rfl rfl rfl (wf rfl rfl rfl rfl rfl ?_))
   dsimp only [putL, setL, evL, getL]
   refine wf rfl rfl rfl rfl rfl (wf rfl rfl rfl rfl rfl (hc (o_pickT rfl rfl ?_)))
   dsimp only [putL, setL, evL, getL]
   refine mv (wf rfl rfl rfl rfl rfl (wf rfl rfl rfl rfl rfl ?_))
   dsimp only [putL, setL, evL, getL]
   refine wf rfl rfl rfl rfl rfl (wf rfl rfl rfl rfl rfl (wf rfl rfl rfl rfl rfl ?_))
   dsimp only [putL, setL, evL, getL]
   refine wf rfl rfl rfl rfl rfl (wf rfl rfl rfl rfl rfl (wf rfl rfl rfl rfl rfl ?_))
   dsimp only [putL, setL, evL, getL]
   refine wf rfl rfl rfl rfl rfl (hc (o_pickT rfl rfl (HL_nil ?_)))
   exact hK26 _ _ ⟨true, H, rfl, hH⟩
  ·refine wt rfl rfl rfl rfl hb37 (o_faddr' (ft := 3) (off := 1) rfl Try.underlying66 rfl tI3 (by decide) ?_)
   dsimp only [putL, setL, evL, getL]
   refine wt rfl rfl rfl rfl hb37 (o_load' rfl Try.underlying3 rfl (hH.hasv 0 rfl rfl) ?_)
   replace H := headE H
   obtain ⟨u38, hu38, H⟩ := H
   refine wt rfl rfl rfl rfl hb37 (o_call (args := #[.int .i64 p0_1, .int .i64 1, .int .i64 8]) Try.func108 rfl rfl rfl (spec_l1In.ok sb s36 no p0_1 1 8 (Hp.own hH.bs) _ hu38) ?_)
   rintro _ s38 ⟨rfl, hD⟩
   replace hH := hH.back0 hD (Up.refl _ _ _)
   clear hD
   refine wt rfl rfl rfl rfl hb37 (o_not rfl ?_)
   dsimp only [putL, setL, evL, getL]
   refine hc (o_pickF rfl hb37 (mv ?_))
   revert H
   refine it (fun hb39 H => ?_) (fun hb39 H => ?_)
   ·refine wf rfl rfl rfl rfl hb39 ?_
    dsimp only [putL, setL, evL, getL]
    refine wf rfl rfl rfl rfl hb39 (wf rfl rfl rfl rfl hb39 (wf rfl rfl rfl rfl hb39 ?_))
    dsimp only [putL, setL, evL, getL]
    refine wf rfl rfl rfl rfl hb39 (wf rfl rfl rfl rfl hb39 (hc (o_pickT rfl hb39 ?_)))
    dsimp only [putL, setL, evL, getL]
    refine mv (wf rfl rfl rfl rfl rfl (wf rfl rfl rfl rfl rfl ?_))
    dsimp only [putL, setL, evL, getL]
    refine wf rfl rfl rfl rfl rfl (wf rfl rfl rfl rfl rfl (wf rfl rfl rfl rfl rfl ?_))
    dsimp only [putL, setL, evL, getL]
    refine wf rfl rfl rfl rfl rfl (wf rfl rfl rfl rfl rfl (hc (o_pickT rfl rfl ?_)))
    dsimp only [putL, setL, evL, getL]
    refine mv (wf rfl rfl rfl rfl rfl (wf rfl rfl rfl rfl rfl ?_))
    dsimp only [putL, setL, evL, getL]
    refine wf rfl rfl rfl rfl rfl (wf rfl rfl rfl rfl rfl (wf rfl rfl rfl rfl rfl ?_))
    dsimp only [putL, setL, evL, getL]
    refine wf rfl rfl rfl rfl rfl (wf rfl rfl rfl rfl rfl (wf rfl rfl rfl rfl rfl ?_))
    dsimp only [putL, setL, evL, getL]
    refine wf rfl rfl rfl rfl rfl (hc (o_pickT rfl rfl (HL_nil ?_)))
    exact hK26 _ _ ⟨true, H, rfl, hH⟩
   ·refine wt rfl rfl rfl rfl hb39 (o_faddr' (ft := 3) (off := 3) rfl Try.underlying66 rfl tI3 (by decide) ?_)
    dsimp only [putL, setL, evL, getL]
    refine wt rfl rfl rfl rfl hb39 (o_load' rfl Try.underlying3 rfl (hH.hasv 0 rfl rfl) (wt rfl rfl rfl rfl hb39 (o_faddr' (ft := 3) (off := 0) rfl Try.underlying66 rfl tI3 (by decide) (wt rfl rfl rfl rfl hb39 (o_load' rfl Try.underlying3 rfl (hH.hasv 0 rfl rfl) ?_)))))
    replace H := headE H
    obtain ⟨u40, hu40, H⟩ := H
    try dsimp only [putL, setL, evL, getL]
    refine wt rfl rfl rfl rfl hb39 (o_call (args := #[.int .i64 p0_3, .int .i64 0, .int .i64 p0_0]) Try.func108 rfl rfl rfl (spec_l1In.ok sb s38 no p0_3 0 p0_0 (Hp.own hH.bs) _ hu40) ?_)
    rintro _ s40 ⟨rfl, hD⟩
    replace hH := hH.back0 hD (Up.refl _ _ _)
    clear hD
    refine wt rfl rfl rfl rfl hb39 (o_not rfl (hc (o_pickF rfl hb39 ?_)))
    dsimp only [putL, setL, evL, getL]
    refine mv ?_
    revert H
    refine it (fun hb41 H => ?_) (fun hb41 H => ?_)
    ·refine wf rfl rfl rfl rfl hb41 (wf rfl rfl rfl rfl hb41 ?_)
     dsimp only [putL, setL, evL, getL]
     refine wf rfl rfl rfl rfl hb41 (wf rfl rfl rfl rfl hb41 (wf rfl rfl rfl rfl hb41 ?_))
     dsimp only [putL, setL, evL, getL]
     refine wf rfl rfl rfl rfl hb41 (wf rfl rfl rfl rfl hb41 (hc (o_pickT rfl hb41 ?_)))
     dsimp only [putL, setL, evL, getL]
     refine mv (wf rfl rfl rfl rfl rfl (wf rfl rfl rfl rfl rfl ?_))
     dsimp only [putL, setL, evL, getL]
     refine wf rfl rfl rfl rfl rfl (wf rfl rfl rfl rfl rfl (wf rfl rfl rfl rfl rfl ?_))
     dsimp only [putL, setL, evL, getL]
     refine wf rfl rfl rfl rfl rfl (wf rfl rfl rfl rfl rfl (wf rfl rfl rfl rfl rfl ?_))
     dsimp only [putL, setL, evL, getL]
     refine wf rfl rfl rfl rfl rfl (hc (o_pickT rfl rfl (HL_nil ?_)))
     exact hK26 _ _ ⟨true, H, rfl, hH⟩
    ·refine wt rfl rfl rfl rfl hb41 (o_faddr' (ft := 3) (off := 4) rfl Try.underlying66 rfl tI3 (by decide) ?_)
     dsimp only [putL, setL, evL, getL]
     refine wt rfl rfl rfl rfl hb41 (o_load' rfl Try.underlying3 rfl (hH.hasv 0 rfl rfl) (wt rfl rfl rfl rfl hb41 (o_faddr' (ft := 3) (off := 1) rfl Try.underlying66 rfl tI3 (by decide) (wt rfl rfl rfl rfl hb41 (o_load' rfl Try.underlying3 rfl (hH.hasv 0 rfl rfl) ?_)))))
     dsimp only [putL, setL, evL, getL]
     refine wt rfl rfl rfl rfl hb41 (o_bin rfl rfl rfl ?_)
     replace H := headE H
     obtain ⟨u42, hu42, H⟩ := H
     refine wt rfl rfl rfl rfl hb41 (o_call (args := #[.int .i64 p0_4, .int .i64 0, .int .i64 (IntKind.i64.wrap (p0_1 - 1))]) Try.func108 rfl rfl rfl (spec_l1In.ok sb s40 no p0_4 0 (IntKind.i64.wrap (p0_1 - 1)) (Hp.own hH.bs) _ hu42) ?_)
     rintro _ s42 ⟨rfl, hD⟩
     replace hH := hH.back0 hD (Up.refl _ _ _)
     clear hD
     refine wt rfl rfl rfl rfl hb41 (o_not rfl ?_)
     dsimp only [putL, setL, evL, getL]
     refine hc (o_pickF rfl hb41 (mv ?_))
     revert H
     refine it (fun hb43 H => ?_) (fun hb43 H => ?_)
     ·refine wf rfl rfl rfl rfl hb43 ?_
      dsimp only [putL, setL, evL, getL]
      refine wf rfl rfl rfl rfl hb43 (wf rfl rfl rfl rfl hb43 (wf rfl rfl rfl rfl hb43 ?_))
      dsimp only [putL, setL, evL, getL]
      refine wf rfl rfl rfl rfl hb43 (wf rfl rfl rfl rfl hb43 (wf rfl rfl rfl rfl hb43 ?_))
      dsimp only [putL, setL, evL, getL]
      refine wf rfl rfl rfl rfl hb43 (wf rfl rfl rfl rfl hb43 (hc (o_pickT rfl hb43 (HL_nil ?_))))
      exact hK26 _ _ ⟨true, H, rfl, hH⟩
     ·refine wt rfl rfl rfl rfl hb43 (o_faddr' (ft := 24) (off := 2) rfl Try.underlying66 rfl tI24 (by decide) ?_)
      dsimp only [putL, setL, evL, getL]
      refine wt rfl rfl rfl rfl hb43 (o_load' rfl Try.underlying24 rfl (hH.hasv 0 rfl rfl) (wt rfl rfl rfl rfl hb43 (o_len rfl Try.underlying24 (wt rfl rfl rfl rfl hb43 (o_faddr' (ft := 3) (off := 0) rfl Try.underlying66 rfl tI3 (by decide) ?_)))))
      dsimp only [putL, setL, evL, getL]
      refine wt rfl rfl rfl rfl hb43 (o_load' rfl Try.underlying3 rfl (hH.hasv 0 rfl rfl) (wt rfl rfl rfl rfl hb43 (o_faddr' (ft := 3) (off := 1) rfl Try.underlying66 rfl tI3 (by decide) (wt rfl rfl rfl rfl hb43 (o_load' rfl Try.underlying3 rfl (hH.hasv 0 rfl rfl) ?_)))))
      dsimp only [putL, setL, evL, getL]
      refine wt rfl rfl rfl rfl hb43 (o_bin rfl rfl rfl (wt rfl rfl rfl rfl hb43 (o_bin rfl rfl rfl (hc (o_pickF rfl hb43 (HL_nil ?_))))))
      exact hK26 _ _ ⟨(p0_2.length : Int) != (IntKind.i64.wrap (p0_0 * p0_1)), H, rfl, hH⟩
 ·rintro l' s44 ⟨x35, H, hl, hH⟩
  revert l'
  refine skA ?_
  dsimp only [Al, Sk]
  intros
  replace H := hG26 _ H
  try dsimp only at H
  revert H
  refine ct rfl (fun hb45 H => ?_) (fun hb45 H => ?_)
  ·refine sr fun K46 hK46 => ?_
   try dsimp only [putL, setL, evL, getL]
   refine ag (HL_nil (hK46 _ _ ?_))
   dsimp only [putL, setL, evL, getL]
   refine HT_ret ?_
   exact hQr _ _ [.bool false] _ ⟨rfl, trivial⟩ H ⟨rfl, hH.sel [] (by decide)⟩
  ·refine HT_skip (hK25 _ _ (sr fun K47 hK47 => (hc (o_faddr' (ft := 24) (off := 2) rfl Try.underlying66 rfl tI24 (by decide) (hc (o_load' rfl Try.underlying24 rfl (hH.hasv 0 rfl rfl) ?_))))))
   replace H := headE H
   obtain ⟨u48, hu48, H⟩ := H
   refine hc (o_call (args := #[.slice A0_2p p0_2.length c0_2p]) Try.func119 rfl rfl rfl (spec_l1AllRunes.ok sb s44 no A0_2p c0_2p p0_2 HRp0_2 (Hp.own hH.bs) _ hu48) ?_)
   rintro _ s48 ⟨rfl, hD⟩
   replace hH := hH.back0 hD (Up.refl _ _ _)
   clear hD
   try dsimp only [putL, setL, evL, getL]
   refine mv ?_
   revert H
   refine it (fun hb49 H => ?_) (fun hb49 H => ?_)
   ·refine wt rfl rfl rfl rfl hb49 (o_faddr' (ft := 24) (off := 2) rfl Try.underlying66 rfl tI24 (by decide) (wt rfl rfl rfl rfl hb49 (o_load' rfl Try.underlying24 rfl (hH.hasv 0 rfl rfl) ?_)))
    replace H := headE H
    obtain ⟨u50, hu50, H⟩ := H
    try dsimp only [putL, setL, evL, getL]
    refine wt rfl rfl rfl rfl hb49 (o_call (args := #[.slice A0_2p p0_2.length c0_2p, .int .i64 32, .int .i64 1114111]) Try.func120 rfl rfl rfl (spec_l1All.ok sb s48 no A0_2p c0_2p p0_2 32 1114111 HRp0_2 (Hp.own hH.bs) _ hu50) ?_)
    rintro _ s50 ⟨rfl, hD⟩
    replace hH := hH.back0 hD (Up.refl _ _ _)
    clear hD
    refine hc (o_pickT rfl hb49 (ag (HL_nil (hK47 _ _ ?_))))
    dsimp only [putL, setL, evL, getL]
    refine HT_ret ?_
    exact hQr _ _ [.bool u50] _ ⟨rfl, trivial⟩ H ⟨rfl, hH.sel [] (by decide)⟩
   ·refine wf rfl rfl rfl rfl hb49 (wf rfl rfl rfl rfl hb49 (wf rfl rfl rfl rfl hb49 ?_))
    dsimp only [putL, setL, evL, getL]
    refine hc (o_pickF rfl hb49 (ag (HL_nil (hK47 _ _ ?_))))
    dsimp only [putL, setL, evL, getL]
    refine HT_ret ?_
    exact hQr _ _ [.bool false] _ ⟨rfl, trivial⟩ H ⟨rfl, hH.sel [] (by decide)⟩
def spec_l1Most.f (p0 : Int) (p1 : Int) : Option Int := if (decide (p0 > p1)) = true then (some p0) else (some p1)
def spec_l1Most.post (sb s : St) (F0 : Fp) (r : Int) : Value → St → Prop := fun v s' => v = .int .i64 r ∧ Hp sb s F0 s' []
set_option maxRecDepth 100000 in
set_option maxHeartbeats 4000000 in
theorem spec_l1Most.ok (sb s : St) (F0 : Fp) (p0 : Int) (p1 : Int) (hH : Hp sb s F0 s []) (r : Int) (H : spec_l1Most.f p0 p1 = some r) : GCall Try.prog 187 #[.int .i64 p0, .int .i64 p1] s (spec_l1Most.post sb s F0 r) := by
 refine GCall_ofr (spec_l1Most.post sb s F0) [.tmp 4] (ud [.int .i64 p0, .int .i64 p1] 8) Try.func187 rfl rfl rfl fun w Q hQr hQn hQp => ?_
 replace H := topE H
 unfold spec_l1Most.f at H
 dsimp only [ud, un]
 refine sr fun K1 hK1 => ag (HL_nil (hK1 _ _ ?_))
 dsimp only [putL, setL, evL, getL]
 refine HT_seq_k fun K2 hK2 => sr fun K3 hK3 => mv (mv (bn rfl rfl rfl (HL_nil (hK3 _ _ ?_))))
 dsimp only [putL, setL, evL, getL]
 revert H
 refine ct rfl (fun hb4 H => ?_) (fun hb4 H => ?_)
 ·refine sr fun K5 hK5 => mv (ag (HL_nil (hK5 _ _ ?_)))
  dsimp only [putL, setL, evL, getL]
  refine HT_ret ?_
  exact hQr _ _ [.int .i64 p0] _ ⟨rfl, trivial⟩ H ⟨rfl, hH⟩
 ·refine HT_skip (hK2 _ _ (sr fun K6 hK6 => (mv (ag (HL_nil (hK6 _ _ ?_))))))
  dsimp only [putL, setL, evL, getL]
  refine HT_ret ?_
  exact hQr _ _ [.int .i64 p1] _ ⟨rfl, trivial⟩ H ⟨rfl, hH⟩
def spec_l1Least.f (p0 : Int) (p1 : Int) : Option Int := if (decide (p0 < p1)) = true then (some p0) else (some p1)
def spec_l1Least.post (sb s : St) (F0 : Fp) (r : Int) : Value → St → Prop := fun v s' => v = .int .i64 r ∧ Hp sb s F0 s' []
set_option maxRecDepth 100000 in
set_option maxHeartbeats 4000000 in
theorem spec_l1Least.ok (sb s : St) (F0 : Fp) (p0 : Int) (p1 : Int) (hH : Hp sb s F0 s []) (r : Int) (H : spec_l1Least.f p0 p1 = some r) : GCall Try.prog 182 #[.int .i64 p0, .int .i64 p1] s (spec_l1Least.post sb s F0 r) := by
 refine GCall_ofr (spec_l1Least.post sb s F0) [.tmp 4] (ud [.int .i64 p0, .int .i64 p1] 8) Try.func182 rfl rfl rfl fun w Q hQr hQn hQp => ?_
 replace H := topE H
 unfold spec_l1Least.f at H
 dsimp only [ud, un]
 refine sr fun K1 hK1 => ag (HL_nil (hK1 _ _ ?_))
 dsimp only [putL, setL, evL, getL]
 refine HT_seq_k fun K2 hK2 => sr fun K3 hK3 => mv (mv (bn rfl rfl rfl (HL_nil (hK3 _ _ ?_))))
 dsimp only [putL, setL, evL, getL]
 revert H
 refine ct rfl (fun hb4 H => ?_) (fun hb4 H => ?_)
 ·refine sr fun K5 hK5 => mv (ag (HL_nil (hK5 _ _ ?_)))
  dsimp only [putL, setL, evL, getL]
  refine HT_ret ?_
  exact hQr _ _ [.int .i64 p0] _ ⟨rfl, trivial⟩ H ⟨rfl, hH⟩
 ·refine HT_skip (hK2 _ _ (sr fun K6 hK6 => (mv (ag (HL_nil (hK6 _ _ ?_))))))
  dsimp only [putL, setL, evL, getL]
  refine HT_ret ?_
  exact hQr _ _ [.int .i64 p1] _ ⟨rfl, trivial⟩ H ⟨rfl, hH⟩
def spec_l1Own.f (p0 : List (Int)) : Option (List (Int)) := (app? 17592186044416 ([] : List (Int)) p0).bind fun x4 => some x4
def spec_l1Own.post (sb s : St) (F0 : Fp) (r : (List (Int))) : Value → St → Prop := fun v s' => ∃ (A0 : Option Addr) (c0 : Nat), v = .slice A0 r.length c0 ∧ Hp sb s F0 s' [Ck.ol OI 3 A0 c0 r]
set_option maxRecDepth 100000 in
set_option maxHeartbeats 4000000 in
theorem spec_l1Own.ok (sb s : St) (F0 : Fp) (A0p : Option Addr) (c0p : Nat) (p0 : List (Int)) (HRp0 : Rd KI sb A0p c0p p0) (hH : Hp sb s F0 s []) (r : (List (Int))) (H : spec_l1Own.f p0 = some r) : GCall Try.prog 144 #[.slice A0p p0.length c0p] s (spec_l1Own.post sb s F0 r) := by
 refine GCall_ofr (spec_l1Own.post sb s F0) [.tmp 2] (ud [.slice A0p p0.length c0p] 5) Try.func144 rfl rfl rfl fun w Q hQr hQn hQp => ?_
 replace H := topE H
 unfold spec_l1Own.f at H
 dsimp only [ud, un]
 refine sr fun K1 hK1 => ag (HL_nil (hK1 _ _ ?_))
 dsimp only [putL, setL, evL, getL]
 refine sr fun K2 hK2 => hc (o_lit0H (α := Int) (K := KI) (O := OI) hH Try.underlying24 tI3 ?_)
 clear hH
 intro A3 s3 hH _
 refine mv ?_
 replace H := headE H
 obtain ⟨x4, hx4, H⟩ := H
 refine hc (o_appF (K := KI) (n := 17592186044416) (A := A3) (c := 0) (xs := ([] : List (Int))) (ys := p0) (B := A0p) (c2 := c0p) hH 0 rfl rfl rfl rfl Try.underlying24 tI3 rfl (by decide) (by decide) (by decide) (Src.flat (HRp0.mono hH.bs.mono)) hx4 ?_)
 clear hH
 intro A4 c4 s4 hH
 try dsimp only [putL, setL, evL, getL]
 refine ag (HL_nil (hK2 _ _ ?_))
 dsimp only [putL, setL, evL, getL]
 refine HT_ret ?_
 exact hQr _ _ [.slice A4 x4.length c4] _ ⟨rfl, trivial⟩ H ⟨A4, c4, rfl, hH⟩
def spec_l16Down.l1 (p0_0 : Int) : Nat → Int → (List (Int)) → Option (List (Int))
 | 0, _, _ => none
 | kf + 1, x55, x56 => if (decide (x55 < p0_0)) = true then ((app? 17592186044416 x56 [32]).bind fun x72 => spec_l16Down.l1 p0_0 kf (IntKind.i64.wrap (x55 + 1)) x72) else (some x56)
def spec_l16Down.f (p0_0 : Int) (p0_1 : Int) (p0_2 : List (Int)) (p0_3 : Int) (p0_4 : Int) : Option (Int × Int × (List (Int)) × Int × Int) := if (decide (p0_4 < (IntKind.i64.wrap (p0_1 - 1)))) = true then (some (p0_0, p0_1, p0_2, 0, (IntKind.i64.wrap (p0_4 + 1)))) else ((cut? p0_2 p0_0 (p0_2.length : Int)).bind fun x14 => (spec_l1Own.f x14).bind fun u15 => (spec_l16Down.l1 p0_0 (((p0_0) - (0)).toNat + 2) 0 u15).bind fun (o : (List (Int))) => match o with | x47 => (some (p0_0, p0_1, x47, 0, p0_4)))
def spec_l16Down.post (sb s : St) (F0 : Fp) (r : Int × Int × (List (Int)) × Int × Int) : Value → St → Prop := fun v s' => ∃ (sbR : St) (A2 : Option Addr) (c2 : Nat), v = .agg #[.int .i64 r.1, .int .i64 r.2.1, .slice A2 r.2.2.1.length c2, .int .i64 r.2.2.2.1, .int .i64 r.2.2.2.2] ∧ Up F0 sb sbR s ∧ Hp sbR s F0 s' [] ∧ Rd KI sbR A2 c2 r.2.2.1
set_option maxRecDepth 100000 in
set_option maxHeartbeats 4000000 in
theorem spec_l16Down.ok (sb s : St) (F0 : Fp) (p0_0 : Int) (p0_1 : Int) (A0_2p : Option Addr) (c0_2p : Nat) (p0_2 : List (Int)) (p0_3 : Int) (p0_4 : Int) (HRp0_2 : Rd KI sb A0_2p c0_2p p0_2) (hH : Hp sb s F0 s []) (r : Int × Int × (List (Int)) × Int × Int) (H : spec_l16Down.f p0_0 p0_1 p0_2 p0_3 p0_4 = some r) : GCall Try.prog 197 #[.agg #[.int .i64 p0_0, .int .i64 p0_1, .slice A0_2p p0_2.length c0_2p, .int .i64 p0_3, .int .i64 p0_4]] s (spec_l16Down.post sb s F0 r) := by
 refine GCall_ofr (spec_l16Down.post sb s F0) [.cell 2 66] (ud [.agg #[.int .i64 p0_0, .int .i64 p0_1, .slice A0_2p p0_2.length c0_2p, .int .i64 p0_3, .int .i64 p0_4]] 34) Try.func197 rfl rfl rfl fun w Q hQr hQn hQp => ?_
 replace H := topE H
 unfold spec_l16Down.f at H
 dsimp only [ud, un]
 refine sr fun K1 hK1 => hc (o_boxH hH rfl ?_)
 clear hH
 intro b2 s2 hH _
 refine hc (o_allocH hH tI66 ?_)
 clear hH
 intro b3 s3 hH _
 refine HL_nil (hK1 _ _ ?_)
 try dsimp only [putL, setL, evL, getL]
 refine sr fun K4 hK4 => hc (o_faddr' (ft := 3) (off := 3) rfl Try.underlying66 rfl tI3 (by decide) (hc (o_stvH (vs := [.int .i64 0]) (us' := [.int .i64 p0_0, .int .i64 p0_1, .slice A0_2p p0_2.length c0_2p, .int .i64 0, .int .i64 p0_4]) hH 0 rfl rfl rfl rfl rfl tI3 rfl (List.cons_ne_nil _ _) rfl rfl rfl ?_)))
 clear hH
 intro s5 hH
 refine HL_nil (hK4 _ _ ?_)
 try dsimp only [putL, setL, evL, getL]
 refine HT_seq_k fun K6 hK6 => sr fun K7 hK7 => hc (o_faddr' (ft := 3) (off := 4) rfl Try.underlying66 rfl tI3 (by decide) (hc (o_load' rfl Try.underlying3 rfl (hH.hasv 0 rfl rfl) (hc (o_faddr' (ft := 3) (off := 1) rfl Try.underlying66 rfl tI3 (by decide) ?_)))))
 dsimp only [putL, setL, evL, getL]
 refine hc (o_load' rfl Try.underlying3 rfl (hH.hasv 0 rfl rfl) (bn rfl rfl rfl (bn rfl rfl rfl (HL_nil (hK7 _ _ ?_)))))
 dsimp only [putL, setL, evL, getL]
 revert H
 refine ct rfl (fun hb8 H => ?_) (fun hb8 H => ?_)
 ·refine sr fun K9 hK9 => hc (o_faddr' (ft := 3) (off := 4) rfl Try.underlying66 rfl tI3 (by decide) (hc (o_load' rfl Try.underlying3 rfl (hH.hasv 0 rfl rfl) (bn rfl rfl rfl ?_))))
  dsimp only [putL, setL, evL, getL]
  refine hc (o_faddr' (ft := 3) (off := 4) rfl Try.underlying66 rfl tI3 (by decide) (hc (o_stvH (vs := [.int .i64 (IntKind.i64.wrap (p0_4 + 1))]) (us' := [.int .i64 p0_0, .int .i64 p0_1, .slice A0_2p p0_2.length c0_2p, .int .i64 0, .int .i64 (IntKind.i64.wrap (p0_4 + 1))]) hH 0 rfl rfl rfl rfl rfl tI3 rfl (List.cons_ne_nil _ _) rfl rfl rfl ?_)))
  clear hH
  intro s10 hH
  refine HL_nil (hK9 _ _ ?_)
  try dsimp only [putL, setL, evL, getL]
  refine sr fun K11 hK11 => hc (o_loads' [.int .i64 p0_0, .int .i64 p0_1, .slice A0_2p p0_2.length c0_2p, .int .i64 0, .int .i64 (IntKind.i64.wrap (p0_4 + 1))] rfl Try.underlying66 rfl tI66 rfl (hH.partv 0 rfl (0) [.int .i64 p0_0, .int .i64 p0_1, .slice A0_2p p0_2.length c0_2p, .int .i64 0, .int .i64 (IntKind.i64.wrap (p0_4 + 1))] rfl) (hc (o_stvH (vs := [.int .i64 p0_0, .int .i64 p0_1, .slice A0_2p p0_2.length c0_2p, .int .i64 0, .int .i64 (IntKind.i64.wrap (p0_4 + 1))]) (us' := [.int .i64 p0_0, .int .i64 p0_1, .slice A0_2p p0_2.length c0_2p, .int .i64 0, .int .i64 (IntKind.i64.wrap (p0_4 + 1))]) hH 1 rfl rfl rfl rfl rfl tI66 rfl (List.cons_ne_nil _ _) rfl rfl rfl ?_)))
  clear hH
  intro s12 hH
  refine HL_nil (hK11 _ _ ?_)
  try dsimp only [putL, setL, evL, getL]
  refine HT_ret ?_
  exact hQr _ _ [.agg #[.int .i64 p0_0, .int .i64 p0_1, .slice A0_2p p0_2.length c0_2p, .int .i64 0, .int .i64 (IntKind.i64.wrap (p0_4 + 1))]] _ ⟨ResV.cells rfl Try.underlying66 rfl tI66 (hH.var 1 rfl) rfl, trivial⟩ H ⟨sb, A0_2p, c0_2p, rfl, (Up.refl _ _ _), hH.sel [] (by decide), HRp0_2⟩
 ·refine HT_skip (hK6 _ _ (sr fun K13 hK13 => (hc (o_faddr' (ft := 24) (off := 2) rfl Try.underlying66 rfl tI24 (by decide) (hc (o_load' rfl Try.underlying24 rfl (hH.hasv 0 rfl rfl) (hc (o_faddr' (ft := 3) (off := 0) rfl Try.underlying66 rfl tI3 (by decide) ?_))))))))
  dsimp only [putL, setL, evL, getL]
  refine hc (o_load' rfl Try.underlying3 rfl (hH.hasv 0 rfl rfl) ?_)
  replace H := headE H
  obtain ⟨x14, hx14, H⟩ := H
  refine hc (o_cutA (xs := p0_2) (kl := .i64) (kh := .i64) (L := p0_0) (H := (p0_2.length : Int)) rfl rfl rfl Try.underlying24 tI3 HRp0_2.1 hx14 ?_)
  have D14 := HRp0_2.cut hx14
  replace H := headE H
  obtain ⟨u15, hu15, H⟩ := H
  refine hc (o_call (args := #[.slice (cutA A0_2p c0_2p (Int.toNat p0_0) (Kd.sz KI)) x14.length (c0_2p - Int.toNat p0_0)]) Try.func144 rfl rfl rfl (spec_l1Own.ok sb s5 no (cutA A0_2p c0_2p (Int.toNat p0_0) (Kd.sz KI)) (c0_2p - Int.toNat p0_0) x14 D14 (Hp.own hH.bs) _ hu15) ?_)
  rintro _ s15 ⟨A16, c16, rfl, hD⟩
  replace hH := hH.back0 hD (Up.refl _ _ _)
  clear hD
  try dsimp only [putL, setL, evL, getL]
  refine hc (o_faddr' (ft := 24) (off := 2) rfl Try.underlying66 rfl tI24 (by decide) (hc (o_stvH (vs := [.slice A16 u15.length c16]) (us' := [.int .i64 p0_0, .int .i64 p0_1, .slice A16 u15.length c16, .int .i64 0, .int .i64 p0_4]) hH 0 rfl rfl rfl rfl rfl tI24 rfl (List.cons_ne_nil _ _) rfl rfl rfl ?_)))
  clear hH
  intro s17 hH
  refine HL_nil (hK13 _ _ ?_)
  try dsimp only [putL, setL, evL, getL]
  refine HT_seq_k fun K18 hK18 => sr fun K19 hK19 => ag (HL_nil (hK19 _ _ ?_))
  dsimp only [putL, setL, evL, getL]
  refine joinH H fun G20 hG20 H => ?_
  refine HT_toK (fun l' s' => ∃ (x47 : List (Int)) (A47 : Option Addr) (c47 : Nat), G20 x47 = some r ∧ skim [1, 0] l' = ([.pointer (some ⟨b2, 0, none⟩), .pointer (some ⟨b3, 0, none⟩)], 33) ∧ Hp sb s F0 s' [Ck.ol OI 3 A47 c47 x47, Ck.ov b2 [.int .i64 p0_0, .int .i64 p0_1, .slice A47 x47.length c47, .int .i64 0, .int .i64 p0_4] 66, Ck.ov b3 [.int .i64 0, .int .i64 0, .slice none 0 0, .int .i64 0, .int .i64 0] 66]) ?_ ?_
  ·intro K20 hK20
   refine HT_block ?_
   refine HT_loopK (fun kf l' s' => ∃ (x55 : Int) (x56 : List (Int)) (A56 : Option Addr) (c56 : Nat), (spec_l16Down.l1 p0_0 kf x55 x56).bind G20 = some r ∧ skim [1, 0, 0] l' = ([.pointer (some ⟨b2, 0, none⟩), .pointer (some ⟨b3, 0, none⟩), .int .i64 x55], 32) ∧ Hp sb s F0 s' [Ck.ol OI 3 A56 c56 x56, Ck.ov b2 [.int .i64 p0_0, .int .i64 p0_1, .slice A56 x56.length c56, .int .i64 0, .int .i64 p0_4] 66, Ck.ov b3 [.int .i64 0, .int .i64 0, .slice none 0 0, .int .i64 0, .int .i64 0] 66]) (((p0_0) - (0)).toNat + 2) ⟨0, u15, A16, c16, H, rfl, hH.sel [2, 0, 1] (by decide)⟩ ?_
   rintro kf l' s66 ⟨x55, x56, A56, c56, H, hl, hH⟩ K66 hK66
   revert l'
   refine skA ?_
   dsimp only [Al, Sk]
   intros
   cases kf with
   | zero => simp [spec_l16Down.l1] at H
   | succ kf =>
    rw [spec_l16Down.l1] at H
    refine HT_seq_k fun K67 hK67 => sr fun K68 hK68 => mv (hc (o_faddr' (ft := 3) (off := 0) rfl Try.underlying66 rfl tI3 (by decide) (hc (o_load' rfl Try.underlying3 rfl (hH.hasv 1 rfl rfl) ?_))))
    dsimp only [putL, setL, evL, getL]
    refine bn rfl rfl rfl (HL_nil (hK68 _ _ ?_))
    dsimp only [putL, setL, evL, getL]
    revert H
    refine ct rfl (fun hb69 H => ?_) (fun hb69 H => ?_)
    ·refine HT_skip (hK67 _ _ (HT_seq_k fun K70 hK70 => (HT_block ?_)))
     refine HT_region ?_
     refine hc (o_faddr' (ft := 24) (off := 2) rfl Try.underlying66 rfl tI24 (by decide) (hc (o_load' rfl Try.underlying24 rfl (hH.hasv 1 rfl rfl) (hc (o_litF (K := KI) (O := OI) (ca := #[.int .i64 32]) [[.int .i64 32]] [32] hH Try.underlying24 tI3 rfl (by decide) rfl rfl (by kernel_rfl) rfl ⟨rfl, Ent.own (Ent.flat rfl), trivial⟩ ?_)))))
     clear hH
     intro A71 s71 hH _
     replace H := headE H
     obtain ⟨x72, hx72, H⟩ := H
     try dsimp only [putL, setL, evL, getL]
     refine hc (o_appF (K := KI) (n := 17592186044416) (A := A56) (c := c56) (xs := x56) (ys := [32]) (B := A71) (c2 := 1) hH 0 rfl rfl rfl rfl Try.underlying24 tI3 rfl (by decide) (by decide) (by decide) (Src.flat (hH.rd 3 rfl)) hx72 ?_)
     clear hH
     intro A72 c72 s72 hH
     refine hc (o_faddr' (ft := 24) (off := 2) rfl Try.underlying66 rfl tI24 (by decide) (hc (o_stvH (vs := [.slice A72 x72.length c72]) (us' := [.int .i64 p0_0, .int .i64 p0_1, .slice A72 x72.length c72, .int .i64 0, .int .i64 p0_4]) hH 1 rfl rfl rfl rfl rfl tI24 rfl (List.cons_ne_nil _ _) rfl rfl rfl ?_)))
     clear hH
     intro s73 hH
     refine HL_nil (hK70 _ _ ?_)
     try dsimp only [putL, setL, evL, getL]
     refine HT_region ?_
     refine mv (bn rfl rfl rfl (ag (HL_nil ?_)))
     exact hK66 _ _ ⟨kf, Nat.lt_succ_self kf, IntKind.i64.wrap (x55 + 1), x72, A72, c72, H, rfl, hH.sel [0, 1, 2] (by decide)⟩
    ·refine HT_exit ?_
     exact hK20 _ _ ⟨x56, A56, c56, H, rfl, hH⟩
  ·rintro l' s74 ⟨x47, A47, c47, H, hl, hH⟩
   revert l'
   refine skA ?_
   dsimp only [Al, Sk]
   intros
   replace H := hG20 _ H
   try dsimp only at H
   refine hK18 _ _ ?_
   refine sr fun K75 hK75 => ?_
   try dsimp only [putL, setL, evL, getL]
   refine hc (o_loads' [.int .i64 p0_0, .int .i64 p0_1, .slice A47 x47.length c47, .int .i64 0, .int .i64 p0_4] rfl Try.underlying66 rfl tI66 rfl (hH.partv 1 rfl (0) [.int .i64 p0_0, .int .i64 p0_1, .slice A47 x47.length c47, .int .i64 0, .int .i64 p0_4] rfl) (hc (o_stvH (vs := [.int .i64 p0_0, .int .i64 p0_1, .slice A47 x47.length c47, .int .i64 0, .int .i64 p0_4]) (us' := [.int .i64 p0_0, .int .i64 p0_1, .slice A47 x47.length c47, .int .i64 0, .int .i64 p0_4]) hH 2 rfl rfl rfl rfl rfl tI66 rfl (List.cons_ne_nil _ _) rfl rfl rfl ?_)))
   clear hH
   intro s76 hH
   refine HL_nil (hK75 _ _ ?_)
   try dsimp only [putL, setL, evL, getL]
   refine HT_ret ?_
   obtain ⟨sb77, hU77, D77, hH⟩ := hH.freeze 0 rfl rfl
   exact hQr _ _ [.agg #[.int .i64 p0_0, .int .i64 p0_1, .slice A47 x47.length c47, .int .i64 0, .int .i64 p0_4]] _ ⟨ResV.cells rfl Try.underlying66 rfl tI66 (hH.var 2 rfl) rfl, trivial⟩ H ⟨sb77, A47, c47, rfl, hU77, hH.sel [] (by decide), D77⟩
def spec_l16Put.f (p0_0 : Int) (p0_1 : Int) (p0_2 : List (Int)) (p0_3 : Int) (p0_4 : Int) (p1 : Int) : Option (Int × Int × (List (Int)) × Int × Int) := (if (p1 == 8) = true then ((spec_l1Most.f 0 (IntKind.i64.wrap (p0_3 - 1))).bind fun u66 => some (p0_0, p0_1, p0_2, u66, p0_4)) else (if (p1 == 9) = true then ((quo? .i64 p0_3 4).bind fun u70 => (spec_l1Least.f p0_0 (IntKind.i64.wrap ((IntKind.i64.wrap (u70 * 4)) + 4))).bind fun u71 => some (p0_0, p0_1, p0_2, u71, p0_4)) else (if (p1 == 10) = true then ((spec_l16Down.f p0_0 p0_1 p0_2 p0_3 p0_4).bind fun u75 => some (u75.1, u75.2.1, u75.2.2.1, u75.2.2.2.1, u75.2.2.2.2)) else (if (p1 == 12) = true then ((spec_l16New.f p0_0 p0_1).bind fun u81 => some (u81.1, u81.2.1, u81.2.2.1, u81.2.2.2.1, u81.2.2.2.2)) else (if (p1 == 13) = true then (some (p0_0, p0_1, p0_2, 0, p0_4)) else (if (decide (p1 ≥ 32)) = true then ((if (p0_3 == p0_0) = true then ((spec_l16Down.f p0_0 p0_1 p0_2 p0_3 p0_4).bind fun u105 => some (u105.1, u105.2.1, u105.2.2.1, u105.2.2.2.1, u105.2.2.2.2)) else (some (p0_0, p0_1, p0_2, p0_3, p0_4))).bind fun (o : Int × Int × (List (Int)) × Int × Int) => match o with | (x97, x98, x99, x100, x101) => ((spec_l1Own.f x99).bind fun u111 => (rd? u111 (IntKind.i64.wrap ((IntKind.i64.wrap (x101 * x97)) + x100))).bind fun u115 => (st? u111 (IntKind.i64.wrap ((IntKind.i64.wrap (x101 * x97)) + x100)) p1).bind fun x116 => some (x97, x98, x116, (IntKind.i64.wrap (x100 + 1)), x101))) else (some (p0_0, p0_1, p0_2, p0_3, p0_4)))))))).bind fun (o : Int × Int × (List (Int)) × Int × Int) => match o with | (x58, x59, x60, x61, x62) => (some (x58, x59, x60, x61, x62))
def spec_l16Put.post (sb s : St) (F0 : Fp) (r : Int × Int × (List (Int)) × Int × Int) : Value → St → Prop := fun v s' => ∃ (sbR : St) (A2 : Option Addr) (c2 : Nat), v = .agg #[.int .i64 r.1, .int .i64 r.2.1, .slice A2 r.2.2.1.length c2, .int .i64 r.2.2.2.1, .int .i64 r.2.2.2.2] ∧ Up F0 sb sbR s ∧ Hp sbR s F0 s' [] ∧ Rd KI sbR A2 c2 r.2.2.1
set_option maxRecDepth 100000 in
set_option maxHeartbeats 4000000 in
theorem spec_l16Put.ok (sb s : St) (F0 : Fp) (p0_0 : Int) (p0_1 : Int) (A0_2p : Option Addr) (c0_2p : Nat) (p0_2 : List (Int)) (p0_3 : Int) (p0_4 : Int) (p1 : Int) (HRp0_2 : Rd KI sb A0_2p c0_2p p0_2) (hH : Hp sb s F0 s []) (r : Int × Int × (List (Int)) × Int × Int) (H : spec_l16Put.f p0_0 p0_1 p0_2 p0_3 p0_4 p1 = some r) : GCall Try.prog 143 #[.agg #[.int .i64 p0_0, .int .i64 p0_1, .slice A0_2p p0_2.length c0_2p, .int .i64 p0_3, .int .i64 p0_4], .int .i64 p1] s (spec_l16Put.post sb s F0 r) := by
 refine GCall_ofr (spec_l16Put.post sb s F0) [.cell 4 66] (ud [.agg #[.int .i64 p0_0, .int .i64 p0_1, .slice A0_2p p0_2.length c0_2p, .int .i64 p0_3, .int .i64 p0_4], .int .i64 p1] 71) Try.func143 rfl rfl rfl fun w Q hQr hQn hQp => ?_
 replace H := topE H
 unfold spec_l16Put.f at H
 dsimp only [ud, un]
 refine sr fun K1 hK1 => hc (o_boxH hH rfl ?_)
 clear hH
 intro b2 s2 hH _
 refine hc (o_allocH hH tI66 ?_)
 clear hH
 intro b3 s3 hH _
 refine HL_nil (hK1 _ _ ?_)
 try dsimp only [putL, setL, evL, getL]
 refine joinH H fun G4 hG4 H => ?_
 refine HT_joinK (fun l' s' => ∃ (sb63 : St) (x58 : Int) (x59 : Int) (x60 : List (Int)) (A60 : Option Addr) (c60 : Nat) (x61 : Int) (x62 : Int), G4 (x58, x59, x60, x61, x62) = some r ∧ skim [2, 1] l' = ([.pointer (some ⟨b2, 0, none⟩), .pointer (some ⟨b3, 0, none⟩)], 69) ∧ Up F0 sb sb63 s ∧ Hp sb63 s F0 s' [Ck.ov b2 [.int .i64 x58, .int .i64 x59, .slice A60 x60.length c60, .int .i64 x61, .int .i64 x62] 66, Ck.ov b3 [.int .i64 0, .int .i64 0, .slice none 0 0, .int .i64 0, .int .i64 0] 66] ∧ Rd KI sb63 A60 c60 x60) ?_ ?_
 ·intro K4 hK4
  refine HT_block (sr fun K64 hK64 => (mv (bn rfl rfl rfl (ag (HL_nil (hK64 _ _ ?_))))))
  dsimp only [putL, setL, evL, getL]
  revert H
  refine ct rfl (fun hb65 H => ?_) (fun hb65 H => ?_)
  ·refine HT_region ?_
   refine hc (o_faddr' (ft := 3) (off := 3) rfl Try.underlying66 rfl tI3 (by decide) (hc (o_load' rfl Try.underlying3 rfl (hH.hasv 0 rfl rfl) (bn rfl rfl rfl ?_))))
   replace H := headE H
   obtain ⟨u66, hu66, H⟩ := H
   try dsimp only [putL, setL, evL, getL]
   refine hc (o_call (args := #[.int .i64 0, .int .i64 (IntKind.i64.wrap (p0_3 - 1))]) Try.func187 rfl rfl rfl (spec_l1Most.ok sb s3 no 0 (IntKind.i64.wrap (p0_3 - 1)) (Hp.own hH.bs) _ hu66) ?_)
   rintro _ s66 ⟨rfl, hD⟩
   replace hH := hH.back0 hD (Up.refl _ _ _)
   clear hD
   refine hc (o_faddr' (ft := 3) (off := 3) rfl Try.underlying66 rfl tI3 (by decide) (hc (o_stvH (vs := [.int .i64 u66]) (us' := [.int .i64 p0_0, .int .i64 p0_1, .slice A0_2p p0_2.length c0_2p, .int .i64 u66, .int .i64 p0_4]) hH 0 rfl rfl rfl rfl rfl tI3 rfl (List.cons_ne_nil _ _) rfl rfl rfl ?_)))
   clear hH
   intro s67 hH
   refine HL_nil ?_
   exact hK4 _ _ ⟨sb, p0_0, p0_1, p0_2, A0_2p, c0_2p, u66, p0_4, H, rfl, (Up.refl _ _ _), hH, HRp0_2⟩
  ·refine sr fun K68 hK68 => ?_
   try dsimp only [putL, setL, evL, getL]
   refine mv (bn rfl rfl rfl (ag (HL_nil (hK68 _ _ ?_))))
   dsimp only [putL, setL, evL, getL]
   revert H
   refine ct rfl (fun hb69 H => ?_) (fun hb69 H => ?_)
   ·refine HT_region ?_
    refine hc (o_faddr' (ft := 3) (off := 0) rfl Try.underlying66 rfl tI3 (by decide) (hc (o_load' rfl Try.underlying3 rfl (hH.hasv 0 rfl rfl) (hc (o_faddr' (ft := 3) (off := 3) rfl Try.underlying66 rfl tI3 (by decide) ?_)))))
    dsimp only [putL, setL, evL, getL]
    refine hc (o_load' rfl Try.underlying3 rfl (hH.hasv 0 rfl rfl) ?_)
    replace H := headE H
    obtain ⟨u70, hu70, H⟩ := H
    refine hc (o_quo' rfl rfl hu70 (bn rfl rfl rfl ?_))
    dsimp only [putL, setL, evL, getL]
    refine bn rfl rfl rfl ?_
    replace H := headE H
    obtain ⟨u71, hu71, H⟩ := H
    refine hc (o_call (args := #[.int .i64 p0_0, .int .i64 (IntKind.i64.wrap ((IntKind.i64.wrap (u70 * 4)) + 4))]) Try.func182 rfl rfl rfl (spec_l1Least.ok sb s3 no p0_0 (IntKind.i64.wrap ((IntKind.i64.wrap (u70 * 4)) + 4)) (Hp.own hH.bs) _ hu71) ?_)
    rintro _ s71 ⟨rfl, hD⟩
    replace hH := hH.back0 hD (Up.refl _ _ _)
    clear hD
    refine hc (o_faddr' (ft := 3) (off := 3) rfl Try.underlying66 rfl tI3 (by decide) ?_)
    dsimp only [putL, setL, evL, getL]
    refine hc (o_stvH (vs := [.int .i64 u71]) (us' := [.int .i64 p0_0, .int .i64 p0_1, .slice A0_2p p0_2.length c0_2p, .int .i64 u71, .int .i64 p0_4]) hH 0 rfl rfl rfl rfl rfl tI3 rfl (List.cons_ne_nil _ _) rfl rfl rfl ?_)
    clear hH
    intro s72 hH
    refine HL_nil ?_
    exact hK4 _ _ ⟨sb, p0_0, p0_1, p0_2, A0_2p, c0_2p, u71, p0_4, H, rfl, (Up.refl _ _ _), hH, HRp0_2⟩
   ·refine sr fun K73 hK73 => mv (bn rfl rfl rfl ?_)
    dsimp only [putL, setL, evL, getL]
    refine ag (HL_nil (hK73 _ _ ?_))
    dsimp only [putL, setL, evL, getL]
    revert H
    refine ct rfl (fun hb74 H => ?_) (fun hb74 H => ?_)
    ·refine HT_region ?_
     refine hc (o_loads' [.int .i64 p0_0, .int .i64 p0_1, .slice A0_2p p0_2.length c0_2p, .int .i64 p0_3, .int .i64 p0_4] rfl Try.underlying66 rfl tI66 rfl (hH.partv 0 rfl (0) [.int .i64 p0_0, .int .i64 p0_1, .slice A0_2p p0_2.length c0_2p, .int .i64 p0_3, .int .i64 p0_4] rfl) ?_)
     replace H := headE H
     obtain ⟨u75, hu75, H⟩ := H
     refine hc (o_call (args := #[.agg #[.int .i64 p0_0, .int .i64 p0_1, .slice A0_2p p0_2.length c0_2p, .int .i64 p0_3, .int .i64 p0_4]]) Try.func197 rfl rfl rfl (spec_l16Down.ok sb s3 no p0_0 p0_1 A0_2p c0_2p p0_2 p0_3 p0_4 HRp0_2 (Hp.own hH.bs) _ hu75) ?_)
     rintro _ s75 ⟨sb76, A77, c77, rfl, hU76, hD, D77⟩
     have hW := hH.upNo hU76
     replace hH := hH.back0 hD hU76
     replace hU76 := hW
     clear hD
     refine hc (o_stvH (vs := [.int .i64 u75.1, .int .i64 u75.2.1, .slice A77 u75.2.2.1.length c77, .int .i64 u75.2.2.2.1, .int .i64 u75.2.2.2.2]) (us' := [.int .i64 u75.1, .int .i64 u75.2.1, .slice A77 u75.2.2.1.length c77, .int .i64 u75.2.2.2.1, .int .i64 u75.2.2.2.2]) hH 0 rfl rfl rfl rfl rfl tI66 rfl (List.cons_ne_nil _ _) rfl rfl rfl ?_)
     clear hH
     intro s78 hH
     refine HL_nil ?_
     exact hK4 _ _ ⟨sb76, u75.1, u75.2.1, u75.2.2.1, A77, c77, u75.2.2.2.1, u75.2.2.2.2, H, rfl, hU76, hH, D77⟩
    ·refine sr fun K79 hK79 => ?_
     try dsimp only [putL, setL, evL, getL]
     refine mv (bn rfl rfl rfl (ag (HL_nil (hK79 _ _ ?_))))
     dsimp only [putL, setL, evL, getL]
     revert H
     refine ct rfl (fun hb80 H => ?_) (fun hb80 H => ?_)
     ·refine HT_region ?_
      refine hc (o_faddr' (ft := 3) (off := 0) rfl Try.underlying66 rfl tI3 (by decide) (hc (o_load' rfl Try.underlying3 rfl (hH.hasv 0 rfl rfl) (hc (o_faddr' (ft := 3) (off := 1) rfl Try.underlying66 rfl tI3 (by decide) ?_)))))
      dsimp only [putL, setL, evL, getL]
      refine hc (o_load' rfl Try.underlying3 rfl (hH.hasv 0 rfl rfl) ?_)
      replace H := headE H
      obtain ⟨u81, hu81, H⟩ := H
      refine hc (o_call (args := #[.int .i64 p0_0, .int .i64 p0_1]) Try.func149 rfl rfl rfl (spec_l16New.ok sb s3 no p0_0 p0_1 (Hp.own hH.bs) _ hu81) ?_)
      rintro _ s81 ⟨A82, c82, rfl, hD⟩
      replace hH := hH.back0 hD (Up.refl _ _ _)
      clear hD
      refine hc (o_stvH (vs := [.int .i64 u81.1, .int .i64 u81.2.1, .slice A82 u81.2.2.1.length c82, .int .i64 u81.2.2.2.1, .int .i64 u81.2.2.2.2]) (us' := [.int .i64 u81.1, .int .i64 u81.2.1, .slice A82 u81.2.2.1.length c82, .int .i64 u81.2.2.2.1, .int .i64 u81.2.2.2.2]) hH 0 rfl rfl rfl rfl rfl tI66 rfl (List.cons_ne_nil _ _) rfl rfl rfl ?_)
      clear hH
      intro s83 hH
      refine HL_nil ?_
      obtain ⟨sb84, hU84, D84, hH⟩ := hH.freeze 2 rfl rfl
      exact hK4 _ _ ⟨sb84, u81.1, u81.2.1, u81.2.2.1, A82, c82, u81.2.2.2.1, u81.2.2.2.2, H, rfl, hU84, hH.sel [0, 1] (by decide), D84⟩
     ·refine sr fun K85 hK85 => ?_
      try dsimp only [putL, setL, evL, getL]
      refine mv (bn rfl rfl rfl (ag (HL_nil (hK85 _ _ ?_))))
      dsimp only [putL, setL, evL, getL]
      revert H
      refine ct rfl (fun hb86 H => ?_) (fun hb86 H => ?_)
      ·refine HT_region ?_
       refine hc (o_faddr' (ft := 3) (off := 3) rfl Try.underlying66 rfl tI3 (by decide) (hc (o_stvH (vs := [.int .i64 0]) (us' := [.int .i64 p0_0, .int .i64 p0_1, .slice A0_2p p0_2.length c0_2p, .int .i64 0, .int .i64 p0_4]) hH 0 rfl rfl rfl rfl rfl tI3 rfl (List.cons_ne_nil _ _) rfl rfl rfl ?_)))
       clear hH
       intro s87 hH
       refine HL_nil ?_
       exact hK4 _ _ ⟨sb, p0_0, p0_1, p0_2, A0_2p, c0_2p, 0, p0_4, H, rfl, (Up.refl _ _ _), hH, HRp0_2⟩
      ·refine sr fun K88 hK88 => mv ?_
       dsimp only [putL, setL, evL, getL]
       refine bn rfl rfl rfl (ag (HL_nil (hK88 _ _ ?_)))
       dsimp only [putL, setL, evL, getL]
       revert H
       refine ct rfl (fun hb89 H => ?_) (fun hb89 H => ?_)
       ·refine joinH H fun G90 hG90 H => ?_
        refine HT_joinK (fun l' s' => ∃ (sb102 : St) (x97 : Int) (x98 : Int) (x99 : List (Int)) (A99 : Option Addr) (c99 : Nat) (x100 : Int) (x101 : Int), G90 (x97, x98, x99, x100, x101) = some r ∧ skim [1, 0, 1] l' = ([.int .i64 p1, .pointer (some ⟨b2, 0, none⟩), .pointer (some ⟨b3, 0, none⟩)], 69) ∧ Up F0 sb sb102 s ∧ Hp sb102 s F0 s' [Ck.ov b2 [.int .i64 x97, .int .i64 x98, .slice A99 x99.length c99, .int .i64 x100, .int .i64 x101] 66, Ck.ov b3 [.int .i64 0, .int .i64 0, .slice none 0 0, .int .i64 0, .int .i64 0] 66] ∧ Rd KI sb102 A99 c99 x99) ?_ ?_
        ·intro K90 hK90
         refine sr fun K103 hK103 => hc (o_faddr' (ft := 3) (off := 3) rfl Try.underlying66 rfl tI3 (by decide) (hc (o_load' rfl Try.underlying3 rfl (hH.hasv 0 rfl rfl) (hc (o_faddr' (ft := 3) (off := 0) rfl Try.underlying66 rfl tI3 (by decide) ?_)))))
         dsimp only [putL, setL, evL, getL]
         refine hc (o_load' rfl Try.underlying3 rfl (hH.hasv 0 rfl rfl) (bn rfl rfl rfl (HL_nil (hK103 _ _ ?_))))
         dsimp only [putL, setL, evL, getL]
         revert H
         refine ct rfl (fun hb104 H => ?_) (fun hb104 H => ?_)
         ·refine HT_region ?_
          refine hc (o_loads' [.int .i64 p0_0, .int .i64 p0_1, .slice A0_2p p0_2.length c0_2p, .int .i64 p0_3, .int .i64 p0_4] rfl Try.underlying66 rfl tI66 rfl (hH.partv 0 rfl (0) [.int .i64 p0_0, .int .i64 p0_1, .slice A0_2p p0_2.length c0_2p, .int .i64 p0_3, .int .i64 p0_4] rfl) ?_)
          replace H := headE H
          obtain ⟨u105, hu105, H⟩ := H
          refine hc (o_call (args := #[.agg #[.int .i64 p0_0, .int .i64 p0_1, .slice A0_2p p0_2.length c0_2p, .int .i64 p0_3, .int .i64 p0_4]]) Try.func197 rfl rfl rfl (spec_l16Down.ok sb s3 no p0_0 p0_1 A0_2p c0_2p p0_2 p0_3 p0_4 HRp0_2 (Hp.own hH.bs) _ hu105) ?_)
          rintro _ s105 ⟨sb106, A107, c107, rfl, hU106, hD, D107⟩
          have hW := hH.upNo hU106
          replace hH := hH.back0 hD hU106
          replace hU106 := hW
          clear hD
          refine hc (o_stvH (vs := [.int .i64 u105.1, .int .i64 u105.2.1, .slice A107 u105.2.2.1.length c107, .int .i64 u105.2.2.2.1, .int .i64 u105.2.2.2.2]) (us' := [.int .i64 u105.1, .int .i64 u105.2.1, .slice A107 u105.2.2.1.length c107, .int .i64 u105.2.2.2.1, .int .i64 u105.2.2.2.2]) hH 0 rfl rfl rfl rfl rfl tI66 rfl (List.cons_ne_nil _ _) rfl rfl rfl ?_)
          clear hH
          intro s108 hH
          refine HL_nil ?_
          exact hK90 _ _ ⟨sb106, u105.1, u105.2.1, u105.2.2.1, A107, c107, u105.2.2.2.1, u105.2.2.2.2, H, rfl, hU106, hH, D107⟩
         ·refine HT_skip ?_
          exact hK90 _ _ ⟨sb, p0_0, p0_1, p0_2, A0_2p, c0_2p, p0_3, p0_4, H, rfl, (Up.refl _ _ _), hH, HRp0_2⟩
        ·rintro l' s109 ⟨sb102, x97, x98, x99, A99, c99, x100, x101, H, hl, hU102, hH, D99⟩
         revert l'
         refine skA ?_
         dsimp only [Al, Sk]
         intros
         replace H := hG90 _ H
         try dsimp only at H
         refine sr fun K110 hK110 => ?_
         try dsimp only [putL, setL, evL, getL]
         refine hc (o_faddr' (ft := 24) (off := 2) rfl Try.underlying66 rfl tI24 (by decide) (hc (o_load' rfl Try.underlying24 rfl (hH.hasv 0 rfl rfl) ?_)))
         replace H := headE H
         obtain ⟨u111, hu111, H⟩ := H
         refine hc (o_call (args := #[.slice A99 x99.length c99]) Try.func144 rfl rfl rfl (spec_l1Own.ok sb102 s109 no A99 c99 x99 D99 (Hp.own hH.bs) _ hu111) ?_)
         rintro _ s111 ⟨A112, c112, rfl, hD⟩
         replace hH := hH.back0 hD (Up.refl _ _ _)
         clear hD
         try dsimp only [putL, setL, evL, getL]
         refine hc (o_faddr' (ft := 24) (off := 2) rfl Try.underlying66 rfl tI24 (by decide) (hc (o_stvH (vs := [.slice A112 u111.length c112]) (us' := [.int .i64 x97, .int .i64 x98, .slice A112 u111.length c112, .int .i64 x100, .int .i64 x101]) hH 0 rfl rfl rfl rfl rfl tI24 rfl (List.cons_ne_nil _ _) rfl rfl rfl ?_)))
         clear hH
         intro s113 hH
         refine HL_nil (hK110 _ _ ?_)
         try dsimp only [putL, setL, evL, getL]
         refine sr fun K114 hK114 => hc (o_faddr' (ft := 24) (off := 2) rfl Try.underlying66 rfl tI24 (by decide) (hc (o_load' rfl Try.underlying24 rfl (hH.hasv 0 rfl rfl) (hc (o_faddr' (ft := 3) (off := 4) rfl Try.underlying66 rfl tI3 (by decide) ?_)))))
         dsimp only [putL, setL, evL, getL]
         refine hc (o_load' rfl Try.underlying3 rfl (hH.hasv 0 rfl rfl) (hc (o_faddr' (ft := 3) (off := 0) rfl Try.underlying66 rfl tI3 (by decide) (hc (o_load' rfl Try.underlying3 rfl (hH.hasv 0 rfl rfl) ?_)))))
         dsimp only [putL, setL, evL, getL]
         refine bn rfl rfl rfl (hc (o_faddr' (ft := 3) (off := 3) rfl Try.underlying66 rfl tI3 (by decide) (hc (o_load' rfl Try.underlying3 rfl (hH.hasv 0 rfl rfl) ?_))))
         dsimp only [putL, setL, evL, getL]
         refine bn rfl rfl rfl (mv ?_)
         replace H := headE H
         obtain ⟨u115, hu115, H⟩ := H
         obtain ⟨b115, o115, cs115, hA115, hr115, hh115, hel115⟩ := hH.elo 2 rfl hu115
         obtain rfl := hr115
         refine hc (hel115 s113 rfl rfl Try.underlying24 tI3 ?_)
         replace H := headE H
         obtain ⟨x116, hx116, H⟩ := H
         try dsimp only [putL, setL, evL, getL]
         refine hc (o_setF (vs := [.int .i64 p1]) (u := p1) hH 2 rfl rfl rfl rfl rfl tI3 hA115 hx116 (Ent.own (Ent.flat rfl)) ?_)
         clear hH
         intro s116 hH
         have hl116 := st?_len hx116
         refine HL_nil (hK114 _ _ ?_)
         try dsimp only [putL, setL, evL, getL]
         refine HT_region ?_
         refine hc (o_faddr' (ft := 3) (off := 3) rfl Try.underlying66 rfl tI3 (by decide) (hc (o_load' rfl Try.underlying3 rfl (hH.hasv 0 rfl rfl) (bn rfl rfl rfl ?_))))
         dsimp only [putL, setL, evL, getL]
         refine hc (o_faddr' (ft := 3) (off := 3) rfl Try.underlying66 rfl tI3 (by decide) (hc (o_stvH (vs := [.int .i64 (IntKind.i64.wrap (x100 + 1))]) (us' := [.int .i64 x97, .int .i64 x98, .slice A112 u111.length c112, .int .i64 (IntKind.i64.wrap (x100 + 1)), .int .i64 x101]) hH 0 rfl rfl rfl rfl rfl tI3 rfl (List.cons_ne_nil _ _) rfl rfl rfl ?_)))
         clear hH
         intro s117 hH
         refine HL_nil ?_
         obtain ⟨sb118, hU118, D118, hH⟩ := hH.freeze 2 rfl rfl
         exact hK4 _ _ ⟨sb118, x97, x98, x116, A112, c112, IntKind.i64.wrap (x100 + 1), x101, H, (by first | (rw [hl116]; first | done | rfl) | rfl), (hU102.trans hU118), (by first | exact hH.sel [0, 1] (by decide) | (rw [hl116]; exact hH.sel [0, 1] (by decide))), D118⟩
       ·refine HT_skip ?_
        exact hK4 _ _ ⟨sb, p0_0, p0_1, p0_2, A0_2p, c0_2p, p0_3, p0_4, H, rfl, (Up.refl _ _ _), hH, HRp0_2⟩
 ·rintro l' s119 ⟨sb63, x58, x59, x60, A60, c60, x61, x62, H, hl, hU63, hH, D60⟩
  revert l'
  refine skA ?_
  dsimp only [Al, Sk]
  intros
  replace H := hG4 _ H
  try dsimp only at H
  refine sr fun K120 hK120 => hc (o_loads' [.int .i64 x58, .int .i64 x59, .slice A60 x60.length c60, .int .i64 x61, .int .i64 x62] rfl Try.underlying66 rfl tI66 rfl (hH.partv 0 rfl (0) [.int .i64 x58, .int .i64 x59, .slice A60 x60.length c60, .int .i64 x61, .int .i64 x62] rfl) ?_)
  dsimp only [putL, setL, evL, getL]
  refine hc (o_stvH (vs := [.int .i64 x58, .int .i64 x59, .slice A60 x60.length c60, .int .i64 x61, .int .i64 x62]) (us' := [.int .i64 x58, .int .i64 x59, .slice A60 x60.length c60, .int .i64 x61, .int .i64 x62]) hH 1 rfl rfl rfl rfl rfl tI66 rfl (List.cons_ne_nil _ _) rfl rfl rfl ?_)
  clear hH
  intro s121 hH
  refine HL_nil (hK120 _ _ ?_)
  try dsimp only [putL, setL, evL, getL]
  refine HT_ret ?_
  exact hQr _ _ [.agg #[.int .i64 x58, .int .i64 x59, .slice A60 x60.length c60, .int .i64 x61, .int .i64 x62]] _ ⟨ResV.cells rfl Try.underlying66 rfl tI66 (hH.var 1 rfl) rfl, trivial⟩ H ⟨sb63, A60, c60, rfl, hU63, hH.sel [] (by decide), D60⟩
def spec_PutRunes.l1 (p1 : List (Int)) : Nat → Int → Int → Int → (List (Int)) → Int → Int → Option (Int × Int × (List (Int)) × Int × Int)
 | 0, _, _, _, _, _, _ => none
 | kf + 1, x94, x95, x96, x97, x98, x99 => if (decide (x94 < (p1.length : Int))) = true then ((rd? p1 x94).bind fun u124 => (spec_l16Put.f x95 x96 x97 x98 x99 u124).bind fun u125 => spec_PutRunes.l1 p1 kf (IntKind.i64.wrap (x94 + 1)) u125.1 u125.2.1 u125.2.2.1 u125.2.2.2.1 u125.2.2.2.2) else (some (x95, x96, x97, x98, x99))
def spec_PutRunes.f (p0_0 : Int) (p0_1 : Int) (p0_2 : List (Int)) (p0_3 : Int) (p0_4 : Int) (p1 : List (Int)) : Option (Int × Int × (List (Int)) × Int × Int × Bool) := ((spec_GoodScreen.f p0_0 p0_1 p0_2 p0_3 p0_4).bind fun u23 => if (!u23) = true then (some true) else ((spec_l1AllRunes.f p1).bind fun u25 => some (!u25))).bind fun (o : Bool) => match o with | x22 => (if x22 = true then (some (0, 0, [], 0, 0, false)) else ((spec_PutRunes.l1 p1 ((((p1.length : Int)) - (0)).toNat + 2) 0 p0_0 p0_1 p0_2 p0_3 p0_4).bind fun (o : Int × Int × (List (Int)) × Int × Int) => match o with | (x78, x79, x80, x81, x82) => ((spec_l1Own.f x80).bind fun u131 => some (x78, x79, u131, x81, x82, true))))
def spec_PutRunes.post (sb s : St) (F0 : Fp) (r : Int × Int × (List (Int)) × Int × Int × Bool) : Value → St → Prop := fun v s' => ∃ (A2 : Option Addr) (c2 : Nat), v = .tuple #[.agg #[.int .i64 r.1, .int .i64 r.2.1, .slice A2 r.2.2.1.length c2, .int .i64 r.2.2.2.1, .int .i64 r.2.2.2.2.1], .bool r.2.2.2.2.2] ∧ Hp sb s F0 s' [Ck.ol OI 3 A2 c2 r.2.2.1]
set_option maxRecDepth 100000 in
set_option maxHeartbeats 4000000 in
theorem spec_PutRunes.ok (sb s : St) (F0 : Fp) (p0_0 : Int) (p0_1 : Int) (A0_2p : Option Addr) (c0_2p : Nat) (p0_2 : List (Int)) (p0_3 : Int) (p0_4 : Int) (A1p : Option Addr) (c1p : Nat) (p1 : List (Int)) (HRp0_2 : Rd KI sb A0_2p c0_2p p0_2) (HRp1 : Rd KI sb A1p c1p p1) (hH : Hp sb s F0 s []) (r : Int × Int × (List (Int)) × Int × Int × Bool) (H : spec_PutRunes.f p0_0 p0_1 p0_2 p0_3 p0_4 p1 = some r) : GCall Try.prog 50 #[.agg #[.int .i64 p0_0, .int .i64 p0_1, .slice A0_2p p0_2.length c0_2p, .int .i64 p0_3, .int .i64 p0_4], .slice A1p p1.length c1p] s (spec_PutRunes.post sb s F0 r) := by
 refine GCall_ofr (spec_PutRunes.post sb s F0) [.cell 4 66, .tmp 5] (ud [.agg #[.int .i64 p0_0, .int .i64 p0_1, .slice A0_2p p0_2.length c0_2p, .int .i64 p0_3, .int .i64 p0_4], .slice A1p p1.length c1p] 30) Try.func50 rfl rfl rfl fun w Q hQr hQn hQp => ?_
 replace H := topE H
 unfold spec_PutRunes.f at H
 dsimp only [ud, un]
 refine sr fun K1 hK1 => hc (o_boxH hH rfl ?_)
 clear hH
 intro b2 s2 hH _
 refine hc (o_allocH hH tI66 ?_)
 clear hH
 intro b3 s3 hH _
 refine ag (HL_nil (hK1 _ _ ?_))
 dsimp only [putL, setL, evL, getL]
 refine HT_seq_k fun K17 hK17 => ?_
 refine joinH H fun G18 hG18 H => ?_
 refine HT_joinK (fun l' s' => ∃ (x22 : Bool), G18 x22 = some r ∧ skim [1, 0, 1, 10] l' = ([.slice A1p p1.length c1p, .pointer (some ⟨b2, 0, none⟩), .pointer (some ⟨b3, 0, none⟩), .bool x22], 17) ∧ Hp sb s F0 s' [Ck.ov b2 [.int .i64 p0_0, .int .i64 p0_1, .slice A0_2p p0_2.length c0_2p, .int .i64 p0_3, .int .i64 p0_4] 66, Ck.ov b3 [.int .i64 0, .int .i64 0, .slice none 0 0, .int .i64 0, .int .i64 0] 66]) ?_ ?_
 ·intro K18 hK18
  refine HT_region ?_
  refine hc (o_loads' [.int .i64 p0_0, .int .i64 p0_1, .slice A0_2p p0_2.length c0_2p, .int .i64 p0_3, .int .i64 p0_4] rfl Try.underlying66 rfl tI66 rfl (hH.partv 0 rfl (0) [.int .i64 p0_0, .int .i64 p0_1, .slice A0_2p p0_2.length c0_2p, .int .i64 p0_3, .int .i64 p0_4] rfl) ?_)
  replace H := headE H
  obtain ⟨u23, hu23, H⟩ := H
  refine hc (o_call (args := #[.agg #[.int .i64 p0_0, .int .i64 p0_1, .slice A0_2p p0_2.length c0_2p, .int .i64 p0_3, .int .i64 p0_4]]) Try.func53 rfl rfl rfl (spec_GoodScreen.ok sb s3 no p0_0 p0_1 A0_2p c0_2p p0_2 p0_3 p0_4 HRp0_2 (Hp.own hH.bs) _ hu23) ?_)
  rintro _ s23 ⟨rfl, hD⟩
  replace hH := hH.back0 hD (Up.refl _ _ _)
  clear hD
  refine hc (o_not rfl ?_)
  dsimp only [putL, setL, evL, getL]
  refine mv ?_
  revert H
  refine it (fun hb24 H => ?_) (fun hb24 H => ?_)
  ·refine wf rfl rfl rfl rfl hb24 (wf rfl rfl rfl rfl hb24 ?_)
   dsimp only [putL, setL, evL, getL]
   refine wf rfl rfl rfl rfl hb24 (hc (o_pickT rfl hb24 (HL_nil ?_)))
   exact hK18 _ _ ⟨true, H, rfl, hH⟩
  ·refine wt rfl rfl rfl rfl hb24 (o_move ?_)
   replace H := headE H
   obtain ⟨u25, hu25, H⟩ := H
   try dsimp only [putL, setL, evL, getL]
   refine wt rfl rfl rfl rfl hb24 (o_call (args := #[.slice A1p p1.length c1p]) Try.func119 rfl rfl rfl (spec_l1AllRunes.ok sb s23 no A1p c1p p1 HRp1 (Hp.own hH.bs) _ hu25) ?_)
   rintro _ s25 ⟨rfl, hD⟩
   replace hH := hH.back0 hD (Up.refl _ _ _)
   clear hD
   refine wt rfl rfl rfl rfl hb24 (o_not rfl (hc (o_pickF rfl hb24 (HL_nil ?_))))
   exact hK18 _ _ ⟨!u25, H, rfl, hH⟩
 ·rintro l' s26 ⟨x22, H, hl, hH⟩
  revert l'
  refine skA ?_
  dsimp only [Al, Sk]
  intros
  replace H := hG18 _ H
  try dsimp only at H
  revert H
  refine ct rfl (fun hb27 H => ?_) (fun hb27 H => ?_)
  ·refine sr fun K28 hK28 => ?_
   try dsimp only [putL, setL, evL, getL]
   refine hc (o_build (pl := [(0, 1), (1, 1), (2, 1), (3, 1), (4, 1)]) (cs := #[.int .i64 0, .int .i64 0, .slice none 0 0, .int .i64 0, .int .i64 0]) Try.underlying66 tI66 (by kernel_rfl) (by kernel_rfl) rfl (hc (o_stvH (vs := [.int .i64 0, .int .i64 0, .slice none 0 0, .int .i64 0, .int .i64 0]) (us' := [.int .i64 0, .int .i64 0, .slice none 0 0, .int .i64 0, .int .i64 0]) hH 1 rfl rfl rfl rfl rfl tI66 rfl (List.cons_ne_nil _ _) rfl rfl rfl ?_)))
   clear hH
   intro s29 hH
   refine ag (HL_nil (hK28 _ _ ?_))
   dsimp only [putL, setL, evL, getL]
   refine HT_ret ?_
   exact hQr _ _ [.agg #[.int .i64 0, .int .i64 0, .slice none 0 0, .int .i64 0, .int .i64 0], .bool false] _ ⟨ResV.cells rfl Try.underlying66 rfl tI66 (hH.var 1 rfl) rfl, rfl, trivial⟩ H ⟨none, 0, rfl, (hH.nil (K := KI) OI 3).sel [2] (by decide)⟩
  ·refine HT_skip (hK17 _ _ (HT_seq_k fun K30 hK30 => (sr fun K31 hK31 => (mv (hc (o_len rfl Try.underlying24 (mv (HL_nil (hK31 _ _ ?_)))))))))
   dsimp only [putL, setL, evL, getL]
   refine joinH H fun G32 hG32 H => ?_
   refine HT_toK (fun l' s' => ∃ (sb83 : St) (x78 : Int) (x79 : Int) (x80 : List (Int)) (A80 : Option Addr) (c80 : Nat) (x81 : Int) (x82 : Int), G32 (x78, x79, x80, x81, x82) = some r ∧ skim [2, 1] l' = ([.pointer (some ⟨b2, 0, none⟩), .pointer (some ⟨b3, 0, none⟩)], 28) ∧ Up F0 sb sb83 s ∧ Hp sb83 s F0 s' [Ck.ov b2 [.int .i64 x78, .int .i64 x79, .slice A80 x80.length c80, .int .i64 x81, .int .i64 x82] 66, Ck.ov b3 [.int .i64 0, .int .i64 0, .slice none 0 0, .int .i64 0, .int .i64 0] 66] ∧ Rd KI sb83 A80 c80 x80) ?_ ?_
   ·intro K32 hK32
    refine HT_block ?_
    refine HT_loopK (fun kf l' s' => ∃ (sb100 : St) (x94 : Int) (x95 : Int) (x96 : Int) (x97 : List (Int)) (A97 : Option Addr) (c97 : Nat) (x98 : Int) (x99 : Int), (spec_PutRunes.l1 p1 kf x94 x95 x96 x97 x98 x99).bind G32 = some r ∧ skim [2, 1, 12, 0, 0] l' = ([.pointer (some ⟨b2, 0, none⟩), .pointer (some ⟨b3, 0, none⟩), .slice A1p p1.length c1p, .int .i64 (p1.length : Int), .int .i64 x94], 13) ∧ Up F0 sb sb100 s ∧ Hp sb100 s F0 s' [Ck.ov b2 [.int .i64 x95, .int .i64 x96, .slice A97 x97.length c97, .int .i64 x98, .int .i64 x99] 66, Ck.ov b3 [.int .i64 0, .int .i64 0, .slice none 0 0, .int .i64 0, .int .i64 0] 66] ∧ Rd KI sb100 A97 c97 x97) ((((p1.length : Int)) - (0)).toNat + 2) ⟨sb, 0, p0_0, p0_1, p0_2, A0_2p, c0_2p, p0_3, p0_4, H, rfl, (Up.refl _ _ _), hH, HRp0_2⟩ ?_
    rintro kf l' s118 ⟨sb100, x94, x95, x96, x97, A97, c97, x98, x99, H, hl, hU100, hH, D97⟩ K118 hK118
    revert l'
    refine skA ?_
    dsimp only [Al, Sk]
    intros
    cases kf with
    | zero => simp [spec_PutRunes.l1] at H
    | succ kf =>
     rw [spec_PutRunes.l1] at H
     refine sr fun K119 hK119 => bn rfl rfl rfl (HL_nil (hK119 _ _ ?_))
     dsimp only [putL, setL, evL, getL]
     refine HT_seq_k fun K120 hK120 => ?_
     revert H
     refine ct rfl (fun hb121 H => ?_) (fun hb121 H => ?_)
     ·refine HT_skip (hK120 _ _ (HT_seq_k fun K122 hK122 => (HT_block (sr fun K123 hK123 => ?_))))
      replace H := headE H
      obtain ⟨u124, hu124, H⟩ := H
      obtain ⟨b124, o124, cs124, hr124, hh124, hel124⟩ := Rd.elb (HRp1.mono hU100.bs.mono) hu124
      obtain rfl := hr124
      refine hc (hel124 s118 rfl rfl Try.underlying24 tI3 (hc (o_load' rfl Try.underlying3 rfl ((hh124 hH.bs.mono) 0 _ rfl) (ag (HL_nil (hK123 _ _ ?_))))))
      dsimp only [putL, setL, evL, getL]
      refine HT_region ?_
      refine hc (o_loads' [.int .i64 x95, .int .i64 x96, .slice A97 x97.length c97, .int .i64 x98, .int .i64 x99] rfl Try.underlying66 rfl tI66 rfl (hH.partv 0 rfl (0) [.int .i64 x95, .int .i64 x96, .slice A97 x97.length c97, .int .i64 x98, .int .i64 x99] rfl) (mv ?_))
      replace H := headE H
      obtain ⟨u125, hu125, H⟩ := H
      refine hc (o_call (args := #[.agg #[.int .i64 x95, .int .i64 x96, .slice A97 x97.length c97, .int .i64 x98, .int .i64 x99], .int .i64 u124]) Try.func143 rfl rfl rfl (spec_l16Put.ok sb100 s118 no x95 x96 A97 c97 x97 x98 x99 u124 D97 (Hp.own hH.bs) _ hu125) ?_)
      rintro _ s125 ⟨sb126, A127, c127, rfl, hU126, hD, D127⟩
      have hW := hH.upNo hU126
      replace hH := hH.back0 hD hU126
      replace hU126 := hW
      clear hD
      try dsimp only [putL, setL, evL, getL]
      refine hc (o_stvH (vs := [.int .i64 u125.1, .int .i64 u125.2.1, .slice A127 u125.2.2.1.length c127, .int .i64 u125.2.2.2.1, .int .i64 u125.2.2.2.2]) (us' := [.int .i64 u125.1, .int .i64 u125.2.1, .slice A127 u125.2.2.1.length c127, .int .i64 u125.2.2.2.1, .int .i64 u125.2.2.2.2]) hH 0 rfl rfl rfl rfl rfl tI66 rfl (List.cons_ne_nil _ _) rfl rfl rfl ?_)
      clear hH
      intro s128 hH
      refine HL_nil (hK122 _ _ ?_)
      try dsimp only [putL, setL, evL, getL]
      refine HT_region ?_
      refine bn rfl rfl rfl (mv (HL_nil ?_))
      exact hK118 _ _ ⟨kf, Nat.lt_succ_self kf, sb126, IntKind.i64.wrap (x94 + 1), u125.1, u125.2.1, u125.2.2.1, A127, c127, u125.2.2.2.1, u125.2.2.2.2, H, rfl, (hU100.trans hU126), hH, D127⟩
     ·refine HT_exit ?_
      exact hK32 _ _ ⟨sb100, x95, x96, x97, A97, c97, x98, x99, H, rfl, hU100, hH, D97⟩
   ·rintro l' s129 ⟨sb83, x78, x79, x80, A80, c80, x81, x82, H, hl, hU83, hH, D80⟩
    revert l'
    refine skA ?_
    dsimp only [Al, Sk]
    intros
    replace H := hG32 _ H
    try dsimp only at H
    refine hK30 _ _ ?_
    refine sr fun K130 hK130 => hc (o_faddr' (ft := 24) (off := 2) rfl Try.underlying66 rfl tI24 (by decide) ?_)
    dsimp only [putL, setL, evL, getL]
    refine hc (o_load' rfl Try.underlying24 rfl (hH.hasv 0 rfl rfl) ?_)
    replace H := headE H
    obtain ⟨u131, hu131, H⟩ := H
    refine hc (o_call (args := #[.slice A80 x80.length c80]) Try.func144 rfl rfl rfl (spec_l1Own.ok sb83 s129 no A80 c80 x80 D80 (Hp.own hH.bs) _ hu131) ?_)
    rintro _ s131 ⟨A132, c132, rfl, hD⟩
    replace hH := hH.back0 hD (Up.refl _ _ _)
    clear hD
    refine hc (o_faddr' (ft := 24) (off := 2) rfl Try.underlying66 rfl tI24 (by decide) ?_)
    dsimp only [putL, setL, evL, getL]
    refine hc (o_stvH (vs := [.slice A132 u131.length c132]) (us' := [.int .i64 x78, .int .i64 x79, .slice A132 u131.length c132, .int .i64 x81, .int .i64 x82]) hH 0 rfl rfl rfl rfl rfl tI24 rfl (List.cons_ne_nil _ _) rfl rfl rfl ?_)
    clear hH
    intro s133 hH
    refine HL_nil (hK130 _ _ ?_)
    try dsimp only [putL, setL, evL, getL]
    refine sr fun K134 hK134 => hc (o_loads' [.int .i64 x78, .int .i64 x79, .slice A132 u131.length c132, .int .i64 x81, .int .i64 x82] rfl Try.underlying66 rfl tI66 rfl (hH.partv 0 rfl (0) [.int .i64 x78, .int .i64 x79, .slice A132 u131.length c132, .int .i64 x81, .int .i64 x82] rfl) (hc (o_stvH (vs := [.int .i64 x78, .int .i64 x79, .slice A132 u131.length c132, .int .i64 x81, .int .i64 x82]) (us' := [.int .i64 x78, .int .i64 x79, .slice A132 u131.length c132, .int .i64 x81, .int .i64 x82]) hH 1 rfl rfl rfl rfl rfl tI66 rfl (List.cons_ne_nil _ _) rfl rfl rfl ?_)))
    clear hH
    intro s135 hH
    refine ag (HL_nil (hK134 _ _ ?_))
    dsimp only [putL, setL, evL, getL]
    refine HT_ret ?_
    dsimp only [addC, setC, rmC, selC, getC] at hH
    replace hH : Hp sb s F0 s135 [Ck.ov b2 [.int .i64 x78, .int .i64 x79, .slice A132 u131.length c132, .int .i64 x81, .int .i64 x82] 66, Ck.ov b3 [.int .i64 x78, .int .i64 x79, .slice A132 u131.length c132, .int .i64 x81, .int .i64 x82] 66, Ck.ol OI 3 A132 c132 u131] := hH.down hU83.bs
    exact hQr _ _ [.agg #[.int .i64 x78, .int .i64 x79, .slice A132 u131.length c132, .int .i64 x81, .int .i64 x82], .bool true] _ ⟨ResV.cells rfl Try.underlying66 rfl tI66 (hH.var 1 rfl) rfl, rfl, trivial⟩ H ⟨A132, c132, rfl, hH.sel [2] (by decide)⟩
def spec_l1Cur_screen.f (p0_0 : List (Int)) (p0_1 : Int) (p0_2 : Int) : Option (Int × Int × (List (Int)) × Int × Int × Int × Int) := (spec_l1Cur_pick.f p0_0 p0_1 p0_2 6).bind fun u4 => (spec_l1Cur_pick.f p0_0 u4.2.1 u4.2.2 4).bind fun u5 => (spec_NewScreen.f (IntKind.i64.wrap (1 + u4.1)) (IntKind.i64.wrap (1 + u5.1))).bind fun u6 => (((spec_l1Cur_shown.f p0_0 u5.2.1 u5.2.2 12).bind fun u153 => (spec_PutRunes.f u6.1 u6.2.1 u6.2.2.1 u6.2.2.2.1 u6.2.2.2.2.1 u153.1).bind fun u155 => some (u155.2.2.2.2.2, u153.2.1, u153.2.2, u155.1, u155.2.1, u155.2.2.1, u155.2.2.2.1, u155.2.2.2.2.1)).bind fun (o : Bool × Int × Int × Int × Int × (List (Int)) × Int × Int) => match o with | (x145, x146, x147, x148, x149, x150, x151, x152) => (if x145 = true then (some (x146, x147, x148, x149, x150, x151, x152)) else (some (x146, x147, u6.1, u6.2.1, u6.2.2.1, u6.2.2.2.1, u6.2.2.2.2.1)))).bind fun (o : Int × Int × Int × Int × (List (Int)) × Int × Int) => match o with | (x99, x100, x101, x102, x103, x104, x105) => (((spec_l1Cur_pick.f p0_0 x99 x100 40).bind fun u219 => if (u219.1 == 0) = true then (some (x103, (IntKind.i64.wrap (x101 + 1)), u219.2.1, u219.2.2)) else (if (u219.1 == 1) = true then ((spec_l1Cur_among.f p0_0 u219.2.1 u219.2.2 [7, 55296]).bind fun u226 => (rd? x103 0).bind fun u227 => (st? x103 0 u226.1).bind fun x228 => some (x228, x104, u226.2.1, u226.2.2)) else (some (x103, x104, u219.2.1, u219.2.2)))).bind fun (o : (List (Int)) × Int × Int × Int) => match o with | (x214, x215, x216, x217) => (some (x101, x102, x214, x215, x105, x216, x217)))
def spec_l1Cur_screen.post (sb s : St) (F0 : Fp) (bp0 : Nat) (A0_0p : Option Addr) (c0_0p : Nat) (p0_0 : List (Int)) (r : Int × Int × (List (Int)) × Int × Int × Int × Int) : Value → St → Prop := fun v s' => ∃ (A2 : Option Addr) (c2 : Nat), v = .agg #[.int .i64 r.1, .int .i64 r.2.1, .slice A2 r.2.2.1.length c2, .int .i64 r.2.2.2.1, .int .i64 r.2.2.2.2.1] ∧ Hp sb s F0 s' [Ck.ol OI 3 A2 c2 r.2.2.1, Ck.ov bp0 [.slice A0_0p p0_0.length c0_0p, .int .i64 r.2.2.2.2.2.1, .int .u64 r.2.2.2.2.2.2] 113]
set_option maxRecDepth 100000 in
set_option maxHeartbeats 4000000 in
theorem spec_l1Cur_screen.ok (sb s : St) (F0 : Fp) (bp0 : Nat) (A0_0p : Option Addr) (c0_0p : Nat) (p0_0 : List (Int)) (p0_1 : Int) (p0_2 : Int) (HRp0_0 : Rd (Kd.int .u8) sb A0_0p c0_0p p0_0) (hH : Hp sb s F0 s [Ck.ov bp0 [.slice A0_0p p0_0.length c0_0p, .int .i64 p0_1, .int .u64 p0_2] 113]) (r : Int × Int × (List (Int)) × Int × Int × Int × Int) (H : spec_l1Cur_screen.f p0_0 p0_1 p0_2 = some r) : GCall Try.prog 139 #[.pointer (some ⟨bp0, 0, none⟩)] s (spec_l1Cur_screen.post sb s F0 bp0 A0_0p c0_0p p0_0 r) := by
 refine GCall_ofr (spec_l1Cur_screen.post sb s F0 bp0 A0_0p c0_0p p0_0) [.cell 2 66] (ud [.pointer (some ⟨bp0, 0, none⟩)] 42) Try.func139 rfl rfl rfl fun w Q hQr hQn hQp => ?_
 replace H := topE H
 unfold spec_l1Cur_screen.f at H
 dsimp only [ud, un]
 refine sr fun K1 hK1 => hc (o_allocH hH tI66 ?_)
 clear hH
 intro b2 s2 hH _
 refine HL_nil (hK1 _ _ ?_)
 try dsimp only [putL, setL, evL, getL]
 refine sr fun K3 hK3 => mv ?_
 replace H := headE H
 obtain ⟨u4, hu4, H⟩ := H
 obtain ⟨F1, hA, hB⟩ := hH.take [0] (by decide)
 dsimp only [addC, setC, rmC, selC, getC] at hA
 refine hc (o_call (args := #[.pointer (some ⟨bp0, 0, none⟩), .int .i64 6]) Try.func112 rfl rfl rfl (spec_l1Cur_pick.ok sb s2 F1 bp0 A0_0p c0_0p p0_0 p0_1 p0_2 6 HRp0_0 hA _ hu4) ?_)
 rintro _ s4 ⟨rfl, hD⟩
 replace hH := hB _ _ _ (Up.refl _ _ _) hD
 clear hD hA hB
 refine bn rfl rfl rfl ?_
 dsimp only [putL, setL, evL, getL]
 refine mv ?_
 replace H := headE H
 obtain ⟨u5, hu5, H⟩ := H
 obtain ⟨F1, hA, hB⟩ := hH.take [2] (by decide)
 dsimp only [addC, setC, rmC, selC, getC] at hA
 refine hc (o_call (args := #[.pointer (some ⟨bp0, 0, none⟩), .int .i64 4]) Try.func112 rfl rfl rfl (spec_l1Cur_pick.ok sb s4 F1 bp0 A0_0p c0_0p p0_0 u4.2.1 u4.2.2 4 HRp0_0 hA _ hu5) ?_)
 rintro _ s5 ⟨rfl, hD⟩
 replace hH := hB _ _ _ (Up.refl _ _ _) hD
 clear hD hA hB
 refine bn rfl rfl rfl ?_
 replace H := headE H
 obtain ⟨u6, hu6, H⟩ := H
 try dsimp only [putL, setL, evL, getL]
 refine hc (o_call (args := #[.int .i64 (IntKind.i64.wrap (1 + u4.1)), .int .i64 (IntKind.i64.wrap (1 + u5.1))]) Try.func59 rfl rfl rfl (spec_NewScreen.ok sb s5 no (IntKind.i64.wrap (1 + u4.1)) (IntKind.i64.wrap (1 + u5.1)) (Hp.own hH.bs) _ hu6) ?_)
 rintro _ s6 ⟨A7, c7, rfl, hD⟩
 replace hH := hH.back0 hD (Up.refl _ _ _)
 clear hD
 refine mv (hc (o_extract rfl rfl ?_))
 dsimp only [putL, setL, evL, getL]
 refine hc (o_extract rfl rfl (hc (o_allocH hH tI66 ?_)))
 clear hH
 intro b8 s8 hH _
 refine hc (o_stvH (vs := [.int .i64 u6.1, .int .i64 u6.2.1, .slice A7 u6.2.2.1.length c7, .int .i64 u6.2.2.2.1, .int .i64 u6.2.2.2.2.1]) (us' := [.int .i64 u6.1, .int .i64 u6.2.1, .slice A7 u6.2.2.1.length c7, .int .i64 u6.2.2.2.1, .int .i64 u6.2.2.2.2.1]) hH 5 rfl rfl rfl rfl rfl tI66 rfl (List.cons_ne_nil _ _) rfl rfl rfl ?_)
 clear hH
 intro s9 hH
 try dsimp only [putL, setL, evL, getL]
 refine ag (HL_nil (hK3 _ _ ?_))
 dsimp only [putL, setL, evL, getL]
 refine joinH H fun G10 hG10 H => ?_
 refine HT_joinK (fun l' s' => ∃ (x99 : Int) (x100 : Int) (x101 : Int) (x102 : Int) (x103 : List (Int)) (A103 : Option Addr) (c103 : Nat) (x104 : Int) (x105 : Int), G10 (x99, x100, x101, x102, x103, x104, x105) = some r ∧ skim [0, 1, 0] l' = ([.pointer (some ⟨bp0, 0, none⟩), .pointer (some ⟨b2, 0, none⟩), .pointer (some ⟨b8, 0, none⟩)], 40) ∧ Hp sb s F0 s' [Ck.ol OI 3 A103 c103 x103, Ck.ov bp0 [.slice A0_0p p0_0.length c0_0p, .int .i64 x99, .int .u64 x100] 113, Ck.ov b2 [.int .i64 0, .int .i64 0, .slice none 0 0, .int .i64 0, .int .i64 0] 66, Ck.ov b8 [.int .i64 x101, .int .i64 x102, .slice A103 x103.length c103, .int .i64 x104, .int .i64 x105] 66]) ?_ ?_
 ·intro K10 hK10
  refine joinH H fun G106 hG106 H => ?_
  refine HT_joinK (fun l' s' => ∃ (b144 : Nat) (x145 : Bool) (x146 : Int) (x147 : Int) (x148 : Int) (x149 : Int) (x150 : List (Int)) (A150 : Option Addr) (c150 : Nat) (x151 : Int) (x152 : Int), G106 (x145, x146, x147, x148, x149, x150, x151, x152) = some r ∧ skim [0, 1, 0, 1, 0] l' = ([.pointer (some ⟨bp0, 0, none⟩), .pointer (some ⟨b2, 0, none⟩), .pointer (some ⟨b8, 0, none⟩), .pointer (some ⟨b144, 0, none⟩), .bool x145], 37) ∧ Hp sb s F0 s' [Ck.ol OI 3 A150 c150 x150, Ck.ol OI 3 A7 c7 u6.2.2.1, Ck.ov bp0 [.slice A0_0p p0_0.length c0_0p, .int .i64 x146, .int .u64 x147] 113, Ck.ov b2 [.int .i64 0, .int .i64 0, .slice none 0 0, .int .i64 0, .int .i64 0] 66, Ck.ov b8 [.int .i64 u6.1, .int .i64 u6.2.1, .slice A7 u6.2.2.1.length c7, .int .i64 u6.2.2.2.1, .int .i64 u6.2.2.2.2.1] 66, Ck.ov b144 [.int .i64 x148, .int .i64 x149, .slice A150 x150.length c150, .int .i64 x151, .int .i64 x152] 66]) ?_ ?_
  ·intro K106 hK106
   refine HX_draw hMix ?_
   refine HX_lim (R := fun _ => True) (k := 0) (fun s' => Gro s9 s') 2 ?_
   have hR := Gro.refl s9
   have hH0 := hH
   refine HK_readP 1 (v := .pointer (some ⟨bp0, 0, none⟩)) rfl (by kernel_rfl) hQp rfl (fun s' K hK => o_move hK) rfl rfl (fun _ => hR) ?_
   try dsimp only [putL, setL, evL, getL]
   refine HK_more [0, 2, 7] (by kernel_rfl) rfl (fun _ => hR) ⟨⟨_, rfl, Or.inl ⟨rfl, ?_⟩⟩, ⟨_, rfl, Or.inl ⟨rfl, ?_⟩⟩, ⟨_, rfl, Or.inl ⟨rfl, ?_⟩⟩, trivial⟩
   ·skip
    refine o_loads' [.int .i64 u6.1, .int .i64 u6.2.1, .slice A7 u6.2.2.1.length c7, .int .i64 u6.2.2.2.1, .int .i64 u6.2.2.2.2.1] rfl Try.underlying66 rfl tI66 rfl (hH.partv 5 rfl (0) [.int .i64 u6.1, .int .i64 u6.2.1, .slice A7 u6.2.2.1.length c7, .int .i64 u6.2.2.2.1, .int .i64 u6.2.2.2.2.1] rfl) ?_
    refine HK_more [2, 7] (by kernel_rfl) rfl (fun _ => hR) ⟨⟨_, rfl, Or.inl ⟨rfl, ?_⟩⟩, ⟨_, rfl, Or.inl ⟨rfl, ?_⟩⟩, trivial⟩
    ·replace H := headE H
     obtain ⟨u153, hu153, H⟩ := H
     obtain ⟨F1, hA, hB⟩ := hH.take [3] (by decide)
     dsimp only [addC, setC, rmC, selC, getC] at hA
     skip
     refine o_call (args := #[.pointer (some ⟨bp0, 0, none⟩), .int .i64 12]) Try.func140 rfl rfl rfl (spec_l1Cur_shown.ok sb s9 F1 bp0 A0_0p c0_0p p0_0 u5.2.1 u5.2.2 12 HRp0_0 hA _ hu153) ?_
     rintro _ s153 ⟨A154, c154, rfl, hD⟩
     replace hH := hB _ _ _ (Up.refl _ _ _) hD
     clear hD hA hB
     refine HK_free (by kernel_rfl) ?_
     try dsimp only [putL, setL, evL, getL]
     refine HX_lim (R := fun _ => True) (k := 0) (fun s' => Gro s153 s') 8 ?_
     have hR := Gro.refl s153
     have hH0 := hH
     refine HK_more [3, 7] (by kernel_rfl) rfl (fun _ => hR) ⟨⟨_, rfl, Or.inl ⟨rfl, ?_⟩⟩, ⟨_, rfl, Or.inl ⟨rfl, ?_⟩⟩, trivial⟩
     ·replace H := headE H
      obtain ⟨u155, hu155, H⟩ := H
      skip
      refine o_call (args := #[.agg #[.int .i64 u6.1, .int .i64 u6.2.1, .slice A7 u6.2.2.1.length c7, .int .i64 u6.2.2.2.1, .int .i64 u6.2.2.2.2.1], .slice A154 u153.1.length c154]) Try.func50 rfl rfl rfl (spec_PutRunes.ok s153 s153 no u6.1 u6.2.1 A7 c7 u6.2.2.1 u6.2.2.2.1 u6.2.2.2.2.1 A154 c154 u153.1 (hH.rd 4 rfl) (hH.rd 6 rfl) (Hp.own (Bs.refl s153)) _ hu155) ?_
      rintro _ s155 ⟨A156, c156, rfl, hD⟩
      replace hR := hR.trans hD.gro
      replace hH := hH.back0T hD
      clear hD
      refine HK_readP 4 (v := .tuple #[.agg #[.int .i64 u155.1, .int .i64 u155.2.1, .slice A156 u155.2.2.1.length c156, .int .i64 u155.2.2.2.1, .int .i64 u155.2.2.2.2.1], .bool u155.2.2.2.2.2]) rfl (by kernel_rfl) hQp rfl (fun s' K hK => o_move hK) rfl rfl (fun _ => hR) ?_
      try dsimp only [putL, setL, evL, getL]
      refine HK_readP 5 (v := .agg #[.int .i64 u155.1, .int .i64 u155.2.1, .slice A156 u155.2.2.1.length c156, .int .i64 u155.2.2.2.1, .int .i64 u155.2.2.2.2.1]) rfl (by kernel_rfl) hQp rfl (fun s' K hK => o_extract rfl rfl hK) rfl rfl (fun _ => hR) ?_
      refine HK_readP 6 (v := .bool u155.2.2.2.2.2) rfl (by kernel_rfl) hQp rfl (fun s' K hK => o_extract rfl rfl hK) rfl rfl (fun _ => hR) ?_
      refine HK_more [7] (by kernel_rfl) rfl (fun _ => hR) ⟨⟨_, rfl, Or.inl ⟨rfl, ?_⟩⟩, trivial⟩
      skip
      refine o_allocH hH tI66 ?_
      clear hH
      intro b157 s157 hH hG
      replace hR := hR.trans hG
      try dsimp only [putL, setL, evL, getL]
      refine HK_more [8] (by kernel_rfl) rfl (fun _ => hR) ⟨⟨_, rfl, Or.inl ⟨rfl, ?_⟩⟩, trivial⟩
      skip
      refine o_stvH (vs := [.int .i64 u155.1, .int .i64 u155.2.1, .slice A156 u155.2.2.1.length c156, .int .i64 u155.2.2.2.1, .int .i64 u155.2.2.2.2.1]) (us' := [.int .i64 u155.1, .int .i64 u155.2.1, .slice A156 u155.2.2.1.length c156, .int .i64 u155.2.2.2.1, .int .i64 u155.2.2.2.2.1]) hH 9 rfl rfl rfl rfl rfl tI66 rfl (List.cons_ne_nil _ _) rfl rfl rfl ?_
      clear hH
      intro s158 hH
      refine HK_free (by kernel_rfl) ?_
      refine HX_lim (R := fun _ => True) (k := 0) (fun s' => Gro s158 s') 11 ?_
      have hR := Gro.refl s158
      have hH0 := hH
      try dsimp only [putL, setL, evL, getL]
      refine HK_more [9] (by kernel_rfl) rfl (fun _ => hR) ⟨⟨_, rfl, Or.inl ⟨rfl, ?_⟩⟩, trivial⟩
      skip
      refine o_assign ?_
      refine HK_done (fun _ => hR) (by kernel_rfl) ?_
      exact hK106 _ _ ⟨b157, u155.2.2.2.2.2, u153.2.1, u153.2.2, u155.1, u155.2.1, u155.2.2.1, A156, c156, u155.2.2.2.1, u155.2.2.2.2.1, H, rfl, hH.sel [8, 4, 7, 1, 5, 9] (by decide)⟩
     ·skip
      refine o_allocH hH tI66 ?_
      clear hH
      intro b159 s159 hH hG
      replace hR := hR.trans hG
      refine HK_more [3] (by kernel_rfl) rfl (fun _ => hR) ⟨⟨_, rfl, Or.inl ⟨rfl, ?_⟩⟩, trivial⟩
      replace H := headE H
      obtain ⟨u160, hu160, H⟩ := H
      skip
      refine o_call (args := #[.agg #[.int .i64 u6.1, .int .i64 u6.2.1, .slice A7 u6.2.2.1.length c7, .int .i64 u6.2.2.2.1, .int .i64 u6.2.2.2.2.1], .slice A154 u153.1.length c154]) Try.func50 rfl rfl rfl (spec_PutRunes.ok s159 s159 no u6.1 u6.2.1 A7 c7 u6.2.2.1 u6.2.2.2.1 u6.2.2.2.2.1 A154 c154 u153.1 (hH.rd 4 rfl) (hH.rd 6 rfl) (Hp.own (Bs.refl s159)) _ hu160) ?_
      rintro _ s160 ⟨A161, c161, rfl, hD⟩
      replace hR := hR.trans hD.gro
      replace hH := hH.back0T hD
      clear hD
      try dsimp only [putL, setL, evL, getL]
      refine HK_readP 4 (v := .tuple #[.agg #[.int .i64 u160.1, .int .i64 u160.2.1, .slice A161 u160.2.2.1.length c161, .int .i64 u160.2.2.2.1, .int .i64 u160.2.2.2.2.1], .bool u160.2.2.2.2.2]) rfl (by kernel_rfl) hQp rfl (fun s' K hK => o_move hK) rfl rfl (fun _ => hR) ?_
      refine HK_readP 5 (v := .agg #[.int .i64 u160.1, .int .i64 u160.2.1, .slice A161 u160.2.2.1.length c161, .int .i64 u160.2.2.2.1, .int .i64 u160.2.2.2.2.1]) rfl (by kernel_rfl) hQp rfl (fun s' K hK => o_extract rfl rfl hK) rfl rfl (fun _ => hR) ?_
      refine HK_readP 6 (v := .bool u160.2.2.2.2.2) rfl (by kernel_rfl) hQp rfl (fun s' K hK => o_extract rfl rfl hK) rfl rfl (fun _ => hR) ?_
      try dsimp only [putL, setL, evL, getL]
      refine HK_more [8] (by kernel_rfl) rfl (fun _ => hR) ⟨⟨_, rfl, Or.inl ⟨rfl, ?_⟩⟩, trivial⟩
      skip
      refine o_stvH (vs := [.int .i64 u160.1, .int .i64 u160.2.1, .slice A161 u160.2.2.1.length c161, .int .i64 u160.2.2.2.1, .int .i64 u160.2.2.2.2.1]) (us' := [.int .i64 u160.1, .int .i64 u160.2.1, .slice A161 u160.2.2.1.length c161, .int .i64 u160.2.2.2.1, .int .i64 u160.2.2.2.2.1]) hH 8 rfl rfl rfl rfl rfl tI66 rfl (List.cons_ne_nil _ _) rfl rfl rfl ?_
      clear hH
      intro s162 hH
      refine HK_free (by kernel_rfl) ?_
      refine HX_lim (R := fun _ => True) (k := 0) (fun s' => Gro s162 s') 11 ?_
      have hR := Gro.refl s162
      have hH0 := hH
      try dsimp only [putL, setL, evL, getL]
      refine HK_more [9] (by kernel_rfl) rfl (fun _ => hR) ⟨⟨_, rfl, Or.inl ⟨rfl, ?_⟩⟩, trivial⟩
      skip
      refine o_assign ?_
      refine HK_done (fun _ => hR) (by kernel_rfl) ?_
      exact hK106 _ _ ⟨b159, u160.2.2.2.2.2, u153.2.1, u153.2.2, u160.1, u160.2.1, u160.2.2.1, A161, c161, u160.2.2.2.1, u160.2.2.2.2.1, H, rfl, hH.sel [9, 4, 7, 1, 5, 8] (by decide)⟩
    ·skip
     refine o_allocH hH tI66 ?_
     clear hH
     intro b163 s163 hH hG
     replace hR := hR.trans hG
     refine HK_more [2] (by kernel_rfl) rfl (fun _ => hR) ⟨⟨_, rfl, Or.inl ⟨rfl, ?_⟩⟩, trivial⟩
     replace H := headE H
     obtain ⟨u164, hu164, H⟩ := H
     obtain ⟨F1, hA, hB⟩ := hH.take [3] (by decide)
     dsimp only [addC, setC, rmC, selC, getC] at hA
     skip
     refine o_call (args := #[.pointer (some ⟨bp0, 0, none⟩), .int .i64 12]) Try.func140 rfl rfl rfl (spec_l1Cur_shown.ok sb s163 F1 bp0 A0_0p c0_0p p0_0 u5.2.1 u5.2.2 12 HRp0_0 hA _ hu164) ?_
     rintro _ s164 ⟨A165, c165, rfl, hD⟩
     replace hH := hB _ _ _ (Up.refl _ _ _) hD
     clear hD hA hB
     try dsimp only [putL, setL, evL, getL]
     refine HK_free (by kernel_rfl) ?_
     refine HX_lim (R := fun _ => True) (k := 0) (fun s' => Gro s164 s') 8 ?_
     have hR := Gro.refl s164
     have hH0 := hH
     refine HK_more [3] (by kernel_rfl) rfl (fun _ => hR) ⟨⟨_, rfl, Or.inl ⟨rfl, ?_⟩⟩, trivial⟩
     replace H := headE H
     obtain ⟨u166, hu166, H⟩ := H
     skip
     refine o_call (args := #[.agg #[.int .i64 u6.1, .int .i64 u6.2.1, .slice A7 u6.2.2.1.length c7, .int .i64 u6.2.2.2.1, .int .i64 u6.2.2.2.2.1], .slice A165 u164.1.length c165]) Try.func50 rfl rfl rfl (spec_PutRunes.ok s164 s164 no u6.1 u6.2.1 A7 c7 u6.2.2.1 u6.2.2.2.1 u6.2.2.2.2.1 A165 c165 u164.1 (hH.rd 4 rfl) (hH.rd 7 rfl) (Hp.own (Bs.refl s164)) _ hu166) ?_
     rintro _ s166 ⟨A167, c167, rfl, hD⟩
     replace hR := hR.trans hD.gro
     replace hH := hH.back0T hD
     clear hD
     try dsimp only [putL, setL, evL, getL]
     refine HK_readP 4 (v := .tuple #[.agg #[.int .i64 u166.1, .int .i64 u166.2.1, .slice A167 u166.2.2.1.length c167, .int .i64 u166.2.2.2.1, .int .i64 u166.2.2.2.2.1], .bool u166.2.2.2.2.2]) rfl (by kernel_rfl) hQp rfl (fun s' K hK => o_move hK) rfl rfl (fun _ => hR) ?_
     refine HK_readP 5 (v := .agg #[.int .i64 u166.1, .int .i64 u166.2.1, .slice A167 u166.2.2.1.length c167, .int .i64 u166.2.2.2.1, .int .i64 u166.2.2.2.2.1]) rfl (by kernel_rfl) hQp rfl (fun s' K hK => o_extract rfl rfl hK) rfl rfl (fun _ => hR) ?_
     refine HK_readP 6 (v := .bool u166.2.2.2.2.2) rfl (by kernel_rfl) hQp rfl (fun s' K hK => o_extract rfl rfl hK) rfl rfl (fun _ => hR) ?_
     try dsimp only [putL, setL, evL, getL]
     refine HK_more [8] (by kernel_rfl) rfl (fun _ => hR) ⟨⟨_, rfl, Or.inl ⟨rfl, ?_⟩⟩, trivial⟩
     skip
     refine o_stvH (vs := [.int .i64 u166.1, .int .i64 u166.2.1, .slice A167 u166.2.2.1.length c167, .int .i64 u166.2.2.2.1, .int .i64 u166.2.2.2.2.1]) (us' := [.int .i64 u166.1, .int .i64 u166.2.1, .slice A167 u166.2.2.1.length c167, .int .i64 u166.2.2.2.1, .int .i64 u166.2.2.2.2.1]) hH 6 rfl rfl rfl rfl rfl tI66 rfl (List.cons_ne_nil _ _) rfl rfl rfl ?_
     clear hH
     intro s168 hH
     refine HK_free (by kernel_rfl) ?_
     refine HX_lim (R := fun _ => True) (k := 0) (fun s' => Gro s168 s') 11 ?_
     have hR := Gro.refl s168
     have hH0 := hH
     try dsimp only [putL, setL, evL, getL]
     refine HK_more [9] (by kernel_rfl) rfl (fun _ => hR) ⟨⟨_, rfl, Or.inl ⟨rfl, ?_⟩⟩, trivial⟩
     skip
     refine o_assign ?_
     refine HK_done (fun _ => hR) (by kernel_rfl) ?_
     exact hK106 _ _ ⟨b163, u166.2.2.2.2.2, u164.2.1, u164.2.2, u166.1, u166.2.1, u166.2.2.1, A167, c167, u166.2.2.2.1, u166.2.2.2.2.1, H, rfl, hH.sel [9, 4, 8, 1, 5, 6] (by decide)⟩
   ·replace H := headE H
    obtain ⟨u169, hu169, H⟩ := H
    obtain ⟨F1, hA, hB⟩ := hH.take [3] (by decide)
    dsimp only [addC, setC, rmC, selC, getC] at hA
    skip
    refine o_call (args := #[.pointer (some ⟨bp0, 0, none⟩), .int .i64 12]) Try.func140 rfl rfl rfl (spec_l1Cur_shown.ok sb s9 F1 bp0 A0_0p c0_0p p0_0 u5.2.1 u5.2.2 12 HRp0_0 hA _ hu169) ?_
    rintro _ s169 ⟨A170, c170, rfl, hD⟩
    replace hH := hB _ _ _ (Up.refl _ _ _) hD
    clear hD hA hB
    refine HK_free (by kernel_rfl) ?_
    try dsimp only [putL, setL, evL, getL]
    refine HX_lim (R := fun _ => True) (k := 0) (fun s' => Gro s169 s') 8 ?_
    have hR := Gro.refl s169
    have hH0 := hH
    refine HK_read 0 (v := .agg #[.int .i64 u6.1, .int .i64 u6.2.1, .slice A7 u6.2.2.1.length c7, .int .i64 u6.2.2.2.1, .int .i64 u6.2.2.2.2.1]) rfl (by kernel_rfl) hQp rfl (fun s' hR' K hK => o_loads' [.int .i64 u6.1, .int .i64 u6.2.1, .slice A7 u6.2.2.1.length c7, .int .i64 u6.2.2.2.1, .int .i64 u6.2.2.2.2.1] rfl Try.underlying66 rfl tI66 rfl (fun j v hj => has_gro hR' ((hH0.partv 5 rfl (0) [.int .i64 u6.1, .int .i64 u6.2.1, .slice A7 u6.2.2.1.length c7, .int .i64 u6.2.2.2.1, .int .i64 u6.2.2.2.2.1] rfl) j v hj)) hK) rfl rfl hR ?_
    refine HK_more [3, 7] (by kernel_rfl) rfl (fun _ => hR) ⟨⟨_, rfl, Or.inl ⟨rfl, ?_⟩⟩, ⟨_, rfl, Or.inl ⟨rfl, ?_⟩⟩, trivial⟩
    ·replace H := headE H
     obtain ⟨u171, hu171, H⟩ := H
     skip
     refine o_call (args := #[.agg #[.int .i64 u6.1, .int .i64 u6.2.1, .slice A7 u6.2.2.1.length c7, .int .i64 u6.2.2.2.1, .int .i64 u6.2.2.2.2.1], .slice A170 u169.1.length c170]) Try.func50 rfl rfl rfl (spec_PutRunes.ok s169 s169 no u6.1 u6.2.1 A7 c7 u6.2.2.1 u6.2.2.2.1 u6.2.2.2.2.1 A170 c170 u169.1 (hH.rd 4 rfl) (hH.rd 6 rfl) (Hp.own (Bs.refl s169)) _ hu171) ?_
     rintro _ s171 ⟨A172, c172, rfl, hD⟩
     replace hR := hR.trans hD.gro
     replace hH := hH.back0T hD
     clear hD
     try dsimp only [putL, setL, evL, getL]
     refine HK_readP 4 (v := .tuple #[.agg #[.int .i64 u171.1, .int .i64 u171.2.1, .slice A172 u171.2.2.1.length c172, .int .i64 u171.2.2.2.1, .int .i64 u171.2.2.2.2.1], .bool u171.2.2.2.2.2]) rfl (by kernel_rfl) hQp rfl (fun s' K hK => o_move hK) rfl rfl (fun _ => hR) ?_
     refine HK_readP 5 (v := .agg #[.int .i64 u171.1, .int .i64 u171.2.1, .slice A172 u171.2.2.1.length c172, .int .i64 u171.2.2.2.1, .int .i64 u171.2.2.2.2.1]) rfl (by kernel_rfl) hQp rfl (fun s' K hK => o_extract rfl rfl hK) rfl rfl (fun _ => hR) ?_
     refine HK_readP 6 (v := .bool u171.2.2.2.2.2) rfl (by kernel_rfl) hQp rfl (fun s' K hK => o_extract rfl rfl hK) rfl rfl (fun _ => hR) ?_
     try dsimp only [putL, setL, evL, getL]
     refine HK_more [7] (by kernel_rfl) rfl (fun _ => hR) ⟨⟨_, rfl, Or.inl ⟨rfl, ?_⟩⟩, trivial⟩
     skip
     refine o_allocH hH tI66 ?_
     clear hH
     intro b173 s173 hH hG
     replace hR := hR.trans hG
     refine HK_more [8] (by kernel_rfl) rfl (fun _ => hR) ⟨⟨_, rfl, Or.inl ⟨rfl, ?_⟩⟩, trivial⟩
     skip
     refine o_stvH (vs := [.int .i64 u171.1, .int .i64 u171.2.1, .slice A172 u171.2.2.1.length c172, .int .i64 u171.2.2.2.1, .int .i64 u171.2.2.2.2.1]) (us' := [.int .i64 u171.1, .int .i64 u171.2.1, .slice A172 u171.2.2.1.length c172, .int .i64 u171.2.2.2.1, .int .i64 u171.2.2.2.2.1]) hH 9 rfl rfl rfl rfl rfl tI66 rfl (List.cons_ne_nil _ _) rfl rfl rfl ?_
     clear hH
     intro s174 hH
     refine HK_free (by kernel_rfl) ?_
     try dsimp only [putL, setL, evL, getL]
     refine HX_lim (R := fun _ => True) (k := 0) (fun s' => Gro s174 s') 11 ?_
     have hR := Gro.refl s174
     have hH0 := hH
     refine HK_more [9] (by kernel_rfl) rfl (fun _ => hR) ⟨⟨_, rfl, Or.inl ⟨rfl, ?_⟩⟩, trivial⟩
     skip
     refine o_assign ?_
     refine HK_done (fun _ => hR) (by kernel_rfl) ?_
     exact hK106 _ _ ⟨b173, u171.2.2.2.2.2, u169.2.1, u169.2.2, u171.1, u171.2.1, u171.2.2.1, A172, c172, u171.2.2.2.1, u171.2.2.2.2.1, H, rfl, hH.sel [8, 4, 7, 1, 5, 9] (by decide)⟩
    ·skip
     refine o_allocH hH tI66 ?_
     clear hH
     intro b175 s175 hH hG
     replace hR := hR.trans hG
     try dsimp only [putL, setL, evL, getL]
     refine HK_more [3] (by kernel_rfl) rfl (fun _ => hR) ⟨⟨_, rfl, Or.inl ⟨rfl, ?_⟩⟩, trivial⟩
     replace H := headE H
     obtain ⟨u176, hu176, H⟩ := H
     skip
     refine o_call (args := #[.agg #[.int .i64 u6.1, .int .i64 u6.2.1, .slice A7 u6.2.2.1.length c7, .int .i64 u6.2.2.2.1, .int .i64 u6.2.2.2.2.1], .slice A170 u169.1.length c170]) Try.func50 rfl rfl rfl (spec_PutRunes.ok s175 s175 no u6.1 u6.2.1 A7 c7 u6.2.2.1 u6.2.2.2.1 u6.2.2.2.2.1 A170 c170 u169.1 (hH.rd 4 rfl) (hH.rd 6 rfl) (Hp.own (Bs.refl s175)) _ hu176) ?_
     rintro _ s176 ⟨A177, c177, rfl, hD⟩
     replace hR := hR.trans hD.gro
     replace hH := hH.back0T hD
     clear hD
     refine HK_readP 4 (v := .tuple #[.agg #[.int .i64 u176.1, .int .i64 u176.2.1, .slice A177 u176.2.2.1.length c177, .int .i64 u176.2.2.2.1, .int .i64 u176.2.2.2.2.1], .bool u176.2.2.2.2.2]) rfl (by kernel_rfl) hQp rfl (fun s' K hK => o_move hK) rfl rfl (fun _ => hR) ?_
     refine HK_readP 5 (v := .agg #[.int .i64 u176.1, .int .i64 u176.2.1, .slice A177 u176.2.2.1.length c177, .int .i64 u176.2.2.2.1, .int .i64 u176.2.2.2.2.1]) rfl (by kernel_rfl) hQp rfl (fun s' K hK => o_extract rfl rfl hK) rfl rfl (fun _ => hR) ?_
     try dsimp only [putL, setL, evL, getL]
     refine HK_readP 6 (v := .bool u176.2.2.2.2.2) rfl (by kernel_rfl) hQp rfl (fun s' K hK => o_extract rfl rfl hK) rfl rfl (fun _ => hR) ?_
     refine HK_more [8] (by kernel_rfl) rfl (fun _ => hR) ⟨⟨_, rfl, Or.inl ⟨rfl, ?_⟩⟩, trivial⟩
     skip
     refine o_stvH (vs := [.int .i64 u176.1, .int .i64 u176.2.1, .slice A177 u176.2.2.1.length c177, .int .i64 u176.2.2.2.1, .int .i64 u176.2.2.2.2.1]) (us' := [.int .i64 u176.1, .int .i64 u176.2.1, .slice A177 u176.2.2.1.length c177, .int .i64 u176.2.2.2.1, .int .i64 u176.2.2.2.2.1]) hH 8 rfl rfl rfl rfl rfl tI66 rfl (List.cons_ne_nil _ _) rfl rfl rfl ?_
     clear hH
     intro s178 hH
     refine HK_free (by kernel_rfl) ?_
     try dsimp only [putL, setL, evL, getL]
     refine HX_lim (R := fun _ => True) (k := 0) (fun s' => Gro s178 s') 11 ?_
     have hR := Gro.refl s178
     have hH0 := hH
     refine HK_more [9] (by kernel_rfl) rfl (fun _ => hR) ⟨⟨_, rfl, Or.inl ⟨rfl, ?_⟩⟩, trivial⟩
     skip
     refine o_assign ?_
     refine HK_done (fun _ => hR) (by kernel_rfl) ?_
     exact hK106 _ _ ⟨b175, u176.2.2.2.2.2, u169.2.1, u169.2.2, u176.1, u176.2.1, u176.2.2.1, A177, c177, u176.2.2.2.1, u176.2.2.2.2.1, H, rfl, hH.sel [9, 4, 7, 1, 5, 8] (by decide)⟩
   ·skip
    refine o_allocH hH tI66 ?_
    clear hH
    intro b179 s179 hH hG
    replace hR := hR.trans hG
    try dsimp only [putL, setL, evL, getL]
    refine HK_more [0, 2] (by kernel_rfl) rfl (fun _ => hR) ⟨⟨_, rfl, Or.inl ⟨rfl, ?_⟩⟩, ⟨_, rfl, Or.inl ⟨rfl, ?_⟩⟩, trivial⟩
    ·skip
     refine o_loads' [.int .i64 u6.1, .int .i64 u6.2.1, .slice A7 u6.2.2.1.length c7, .int .i64 u6.2.2.2.1, .int .i64 u6.2.2.2.2.1] rfl Try.underlying66 rfl tI66 rfl (hH.partv 5 rfl (0) [.int .i64 u6.1, .int .i64 u6.2.1, .slice A7 u6.2.2.1.length c7, .int .i64 u6.2.2.2.1, .int .i64 u6.2.2.2.2.1] rfl) ?_
     refine HK_more [2] (by kernel_rfl) rfl (fun _ => hR) ⟨⟨_, rfl, Or.inl ⟨rfl, ?_⟩⟩, trivial⟩
     replace H := headE H
     obtain ⟨u180, hu180, H⟩ := H
     obtain ⟨F1, hA, hB⟩ := hH.take [3] (by decide)
     dsimp only [addC, setC, rmC, selC, getC] at hA
     skip
     refine o_call (args := #[.pointer (some ⟨bp0, 0, none⟩), .int .i64 12]) Try.func140 rfl rfl rfl (spec_l1Cur_shown.ok sb s179 F1 bp0 A0_0p c0_0p p0_0 u5.2.1 u5.2.2 12 HRp0_0 hA _ hu180) ?_
     rintro _ s180 ⟨A181, c181, rfl, hD⟩
     replace hH := hB _ _ _ (Up.refl _ _ _) hD
     clear hD hA hB
     refine HK_free (by kernel_rfl) ?_
     try dsimp only [putL, setL, evL, getL]
     refine HX_lim (R := fun _ => True) (k := 0) (fun s' => Gro s180 s') 8 ?_
     have hR := Gro.refl s180
     have hH0 := hH
     refine HK_more [3] (by kernel_rfl) rfl (fun _ => hR) ⟨⟨_, rfl, Or.inl ⟨rfl, ?_⟩⟩, trivial⟩
     replace H := headE H
     obtain ⟨u182, hu182, H⟩ := H
     skip
     refine o_call (args := #[.agg #[.int .i64 u6.1, .int .i64 u6.2.1, .slice A7 u6.2.2.1.length c7, .int .i64 u6.2.2.2.1, .int .i64 u6.2.2.2.2.1], .slice A181 u180.1.length c181]) Try.func50 rfl rfl rfl (spec_PutRunes.ok s180 s180 no u6.1 u6.2.1 A7 c7 u6.2.2.1 u6.2.2.2.1 u6.2.2.2.2.1 A181 c181 u180.1 (hH.rd 4 rfl) (hH.rd 7 rfl) (Hp.own (Bs.refl s180)) _ hu182) ?_
     rintro _ s182 ⟨A183, c183, rfl, hD⟩
     replace hR := hR.trans hD.gro
     replace hH := hH.back0T hD
     clear hD
     refine HK_readP 4 (v := .tuple #[.agg #[.int .i64 u182.1, .int .i64 u182.2.1, .slice A183 u182.2.2.1.length c183, .int .i64 u182.2.2.2.1, .int .i64 u182.2.2.2.2.1], .bool u182.2.2.2.2.2]) rfl (by kernel_rfl) hQp rfl (fun s' K hK => o_move hK) rfl rfl (fun _ => hR) ?_
     try dsimp only [putL, setL, evL, getL]
     refine HK_readP 5 (v := .agg #[.int .i64 u182.1, .int .i64 u182.2.1, .slice A183 u182.2.2.1.length c183, .int .i64 u182.2.2.2.1, .int .i64 u182.2.2.2.2.1]) rfl (by kernel_rfl) hQp rfl (fun s' K hK => o_extract rfl rfl hK) rfl rfl (fun _ => hR) ?_
     refine HK_readP 6 (v := .bool u182.2.2.2.2.2) rfl (by kernel_rfl) hQp rfl (fun s' K hK => o_extract rfl rfl hK) rfl rfl (fun _ => hR) ?_
     refine HK_more [8] (by kernel_rfl) rfl (fun _ => hR) ⟨⟨_, rfl, Or.inl ⟨rfl, ?_⟩⟩, trivial⟩
     skip
     refine o_stvH (vs := [.int .i64 u182.1, .int .i64 u182.2.1, .slice A183 u182.2.2.1.length c183, .int .i64 u182.2.2.2.1, .int .i64 u182.2.2.2.2.1]) (us' := [.int .i64 u182.1, .int .i64 u182.2.1, .slice A183 u182.2.2.1.length c183, .int .i64 u182.2.2.2.1, .int .i64 u182.2.2.2.2.1]) hH 6 rfl rfl rfl rfl rfl tI66 rfl (List.cons_ne_nil _ _) rfl rfl rfl ?_
     clear hH
     intro s184 hH
     try dsimp only [putL, setL, evL, getL]
     refine HK_free (by kernel_rfl) ?_
     refine HX_lim (R := fun _ => True) (k := 0) (fun s' => Gro s184 s') 11 ?_
     have hR := Gro.refl s184
     have hH0 := hH
     refine HK_more [9] (by kernel_rfl) rfl (fun _ => hR) ⟨⟨_, rfl, Or.inl ⟨rfl, ?_⟩⟩, trivial⟩
     skip
     refine o_assign ?_
     try dsimp only [putL, setL, evL, getL]
     refine HK_done (fun _ => hR) (by kernel_rfl) ?_
     exact hK106 _ _ ⟨b179, u182.2.2.2.2.2, u180.2.1, u180.2.2, u182.1, u182.2.1, u182.2.2.1, A183, c183, u182.2.2.2.1, u182.2.2.2.2.1, H, rfl, hH.sel [9, 4, 8, 1, 5, 6] (by decide)⟩
    ·replace H := headE H
     obtain ⟨u185, hu185, H⟩ := H
     obtain ⟨F1, hA, hB⟩ := hH.take [3] (by decide)
     dsimp only [addC, setC, rmC, selC, getC] at hA
     skip
     refine o_call (args := #[.pointer (some ⟨bp0, 0, none⟩), .int .i64 12]) Try.func140 rfl rfl rfl (spec_l1Cur_shown.ok sb s179 F1 bp0 A0_0p c0_0p p0_0 u5.2.1 u5.2.2 12 HRp0_0 hA _ hu185) ?_
     rintro _ s185 ⟨A186, c186, rfl, hD⟩
     replace hH := hB _ _ _ (Up.refl _ _ _) hD
     clear hD hA hB
     refine HK_free (by kernel_rfl) ?_
     refine HX_lim (R := fun _ => True) (k := 0) (fun s' => Gro s185 s') 8 ?_
     have hR := Gro.refl s185
     have hH0 := hH
     try dsimp only [putL, setL, evL, getL]
     refine HK_read 0 (v := .agg #[.int .i64 u6.1, .int .i64 u6.2.1, .slice A7 u6.2.2.1.length c7, .int .i64 u6.2.2.2.1, .int .i64 u6.2.2.2.2.1]) rfl (by kernel_rfl) hQp rfl (fun s' hR' K hK => o_loads' [.int .i64 u6.1, .int .i64 u6.2.1, .slice A7 u6.2.2.1.length c7, .int .i64 u6.2.2.2.1, .int .i64 u6.2.2.2.2.1] rfl Try.underlying66 rfl tI66 rfl (fun j v hj => has_gro hR' ((hH0.partv 5 rfl (0) [.int .i64 u6.1, .int .i64 u6.2.1, .slice A7 u6.2.2.1.length c7, .int .i64 u6.2.2.2.1, .int .i64 u6.2.2.2.2.1] rfl) j v hj)) hK) rfl rfl hR ?_
     refine HK_more [3] (by kernel_rfl) rfl (fun _ => hR) ⟨⟨_, rfl, Or.inl ⟨rfl, ?_⟩⟩, trivial⟩
     replace H := headE H
     obtain ⟨u187, hu187, H⟩ := H
     skip
     refine o_call (args := #[.agg #[.int .i64 u6.1, .int .i64 u6.2.1, .slice A7 u6.2.2.1.length c7, .int .i64 u6.2.2.2.1, .int .i64 u6.2.2.2.2.1], .slice A186 u185.1.length c186]) Try.func50 rfl rfl rfl (spec_PutRunes.ok s185 s185 no u6.1 u6.2.1 A7 c7 u6.2.2.1 u6.2.2.2.1 u6.2.2.2.2.1 A186 c186 u185.1 (hH.rd 4 rfl) (hH.rd 7 rfl) (Hp.own (Bs.refl s185)) _ hu187) ?_
     rintro _ s187 ⟨A188, c188, rfl, hD⟩
     replace hR := hR.trans hD.gro
     replace hH := hH.back0T hD
     clear hD
     refine HK_readP 4 (v := .tuple #[.agg #[.int .i64 u187.1, .int .i64 u187.2.1, .slice A188 u187.2.2.1.length c188, .int .i64 u187.2.2.2.1, .int .i64 u187.2.2.2.2.1], .bool u187.2.2.2.2.2]) rfl (by kernel_rfl) hQp rfl (fun s' K hK => o_move hK) rfl rfl (fun _ => hR) ?_
     try dsimp only [putL, setL, evL, getL]
     refine HK_readP 5 (v := .agg #[.int .i64 u187.1, .int .i64 u187.2.1, .slice A188 u187.2.2.1.length c188, .int .i64 u187.2.2.2.1, .int .i64 u187.2.2.2.2.1]) rfl (by kernel_rfl) hQp rfl (fun s' K hK => o_extract rfl rfl hK) rfl rfl (fun _ => hR) ?_
     refine HK_readP 6 (v := .bool u187.2.2.2.2.2) rfl (by kernel_rfl) hQp rfl (fun s' K hK => o_extract rfl rfl hK) rfl rfl (fun _ => hR) ?_
     refine HK_more [8] (by kernel_rfl) rfl (fun _ => hR) ⟨⟨_, rfl, Or.inl ⟨rfl, ?_⟩⟩, trivial⟩
     skip
     refine o_stvH (vs := [.int .i64 u187.1, .int .i64 u187.2.1, .slice A188 u187.2.2.1.length c188, .int .i64 u187.2.2.2.1, .int .i64 u187.2.2.2.2.1]) (us' := [.int .i64 u187.1, .int .i64 u187.2.1, .slice A188 u187.2.2.1.length c188, .int .i64 u187.2.2.2.1, .int .i64 u187.2.2.2.2.1]) hH 6 rfl rfl rfl rfl rfl tI66 rfl (List.cons_ne_nil _ _) rfl rfl rfl ?_
     clear hH
     intro s189 hH
     try dsimp only [putL, setL, evL, getL]
     refine HK_free (by kernel_rfl) ?_
     refine HX_lim (R := fun _ => True) (k := 0) (fun s' => Gro s189 s') 11 ?_
     have hR := Gro.refl s189
     have hH0 := hH
     refine HK_more [9] (by kernel_rfl) rfl (fun _ => hR) ⟨⟨_, rfl, Or.inl ⟨rfl, ?_⟩⟩, trivial⟩
     skip
     refine o_assign ?_
     try dsimp only [putL, setL, evL, getL]
     refine HK_done (fun _ => hR) (by kernel_rfl) ?_
     exact hK106 _ _ ⟨b179, u187.2.2.2.2.2, u185.2.1, u185.2.2, u187.1, u187.2.1, u187.2.2.1, A188, c188, u187.2.2.2.1, u187.2.2.2.2.1, H, rfl, hH.sel [9, 4, 8, 1, 5, 6] (by decide)⟩
  ·rintro l' s190 ⟨b144, x145, x146, x147, x148, x149, x150, A150, c150, x151, x152, H, hl, hH⟩
   revert l'
   refine skA ?_
   dsimp only [Al, Sk]
   intros
   replace H := hG106 _ H
   try dsimp only at H
   refine sr fun K191 hK191 => mv (HL_nil (hK191 _ _ ?_))
   dsimp only [putL, setL, evL, getL]
   revert H
   refine ct rfl (fun hb192 H => ?_) (fun hb192 H => ?_)
   ·refine HT_region ?_
    refine hc (o_loads' [.int .i64 x148, .int .i64 x149, .slice A150 x150.length c150, .int .i64 x151, .int .i64 x152] rfl Try.underlying66 rfl tI66 rfl (hH.partv 5 rfl (0) [.int .i64 x148, .int .i64 x149, .slice A150 x150.length c150, .int .i64 x151, .int .i64 x152] rfl) (hc (o_stvH (vs := [.int .i64 x148, .int .i64 x149, .slice A150 x150.length c150, .int .i64 x151, .int .i64 x152]) (us' := [.int .i64 x148, .int .i64 x149, .slice A150 x150.length c150, .int .i64 x151, .int .i64 x152]) hH 4 rfl rfl rfl rfl rfl tI66 rfl (List.cons_ne_nil _ _) rfl rfl rfl ?_)))
    clear hH
    intro s193 hH
    refine HL_nil ?_
    exact hK10 _ _ ⟨x146, x147, x148, x149, x150, A150, c150, x151, x152, H, rfl, hH.sel [0, 2, 3, 4] (by decide)⟩
   ·refine HT_skip ?_
    exact hK10 _ _ ⟨x146, x147, u6.1, u6.2.1, u6.2.2.1, A7, c7, u6.2.2.2.1, u6.2.2.2.2.1, H, rfl, hH.sel [1, 2, 3, 4] (by decide)⟩
 ·rintro l' s194 ⟨x99, x100, x101, x102, x103, A103, c103, x104, x105, H, hl, hH⟩
  revert l'
  refine skA ?_
  dsimp only [Al, Sk]
  intros
  replace H := hG10 _ H
  try dsimp only at H
  refine joinH H fun G195 hG195 H => ?_
  refine HT_joinK (fun l' s' => ∃ (x214 : List (Int)) (x215 : Int) (x216 : Int) (x217 : Int), G195 (x214, x215, x216, x217) = some r ∧ skim [2, 0] l' = ([.pointer (some ⟨b2, 0, none⟩), .pointer (some ⟨b8, 0, none⟩)], 40) ∧ Hp sb s F0 s' [Ck.ol OI 3 A103 c103 x214, Ck.ov b2 [.int .i64 0, .int .i64 0, .slice none 0 0, .int .i64 0, .int .i64 0] 66, Ck.ov b8 [.int .i64 x101, .int .i64 x102, .slice A103 x103.length c103, .int .i64 x215, .int .i64 x105] 66, Ck.ov bp0 [.slice A0_0p p0_0.length c0_0p, .int .i64 x216, .int .u64 x217] 113] ∧ x214.length = x103.length) ?_ ?_
  ·intro K195 hK195
   refine sr fun K218 hK218 => mv ?_
   replace H := headE H
   obtain ⟨u219, hu219, H⟩ := H
   obtain ⟨F1, hA, hB⟩ := hH.take [1] (by decide)
   dsimp only [addC, setC, rmC, selC, getC] at hA
   try dsimp only [putL, setL, evL, getL]
   refine hc (o_call (args := #[.pointer (some ⟨bp0, 0, none⟩), .int .i64 40]) Try.func112 rfl rfl rfl (spec_l1Cur_pick.ok sb s194 F1 bp0 A0_0p c0_0p p0_0 x99 x100 40 HRp0_0 hA _ hu219) ?_)
   rintro _ s219 ⟨rfl, hD⟩
   replace hH := hB _ _ _ (Up.refl _ _ _) hD
   clear hD hA hB
   refine HL_nil (hK218 _ _ ?_)
   try dsimp only [putL, setL, evL, getL]
   refine HT_block (sr fun K220 hK220 => (bn rfl rfl rfl (ag (HL_nil (hK220 _ _ ?_)))))
   dsimp only [putL, setL, evL, getL]
   revert H
   refine ct rfl (fun hb221 H => ?_) (fun hb221 H => ?_)
   ·refine HT_region ?_
    refine hc (o_faddr' (ft := 3) (off := 0) rfl Try.underlying66 rfl tI3 (by decide) (hc (o_load' rfl Try.underlying3 rfl (hH.hasv 3 rfl rfl) (bn rfl rfl rfl ?_))))
    dsimp only [putL, setL, evL, getL]
    refine hc (o_faddr' (ft := 3) (off := 3) rfl Try.underlying66 rfl tI3 (by decide) (hc (o_stvH (vs := [.int .i64 (IntKind.i64.wrap (x101 + 1))]) (us' := [.int .i64 x101, .int .i64 x102, .slice A103 x103.length c103, .int .i64 (IntKind.i64.wrap (x101 + 1)), .int .i64 x105]) hH 3 rfl rfl rfl rfl rfl tI3 rfl (List.cons_ne_nil _ _) rfl rfl rfl ?_)))
    clear hH
    intro s222 hH
    refine HL_nil ?_
    exact hK195 _ _ ⟨x103, IntKind.i64.wrap (x101 + 1), u219.2.1, u219.2.2, H, rfl, hH.sel [0, 2, 3, 4] (by decide), rfl⟩
   ·refine sr fun K223 hK223 => bn rfl rfl rfl ?_
    dsimp only [putL, setL, evL, getL]
    refine ag (HL_nil (hK223 _ _ ?_))
    dsimp only [putL, setL, evL, getL]
    revert H
    refine ct rfl (fun hb224 H => ?_) (fun hb224 H => ?_)
    ·refine HX_draw hMix ?_
     refine HX_lim (R := fun _ => True) (k := 0) (fun s' => Gro s219 s') 4 ?_
     have hR := Gro.refl s219
     have hH0 := hH
     refine HK_readP 2 (v := .pointer (some ⟨bp0, 0, none⟩)) rfl (by kernel_rfl) hQp rfl (fun s' K hK => o_move hK) rfl rfl (fun _ => hR) ?_
     try dsimp only [putL, setL, evL, getL]
     refine HK_readP 0 (v := .pointer (some ⟨b8, 0 + 2, none⟩)) rfl (by kernel_rfl) hQp rfl (fun s' K hK => o_faddr' (ft := 24) (off := 2) rfl Try.underlying66 rfl tI24 (by decide) hK) rfl rfl (fun _ => hR) ?_
     refine HK_more [1, 3] (by kernel_rfl) rfl (fun _ => hR) ⟨⟨_, rfl, Or.inl ⟨rfl, ?_⟩⟩, ⟨_, rfl, Or.inl ⟨rfl, ?_⟩⟩, trivial⟩
     ·skip
      refine o_load' rfl Try.underlying24 rfl (hH.hasv 3 rfl rfl) ?_
      refine HK_more [3] (by kernel_rfl) rfl (fun _ => hR) ⟨⟨_, rfl, Or.inl ⟨rfl, ?_⟩⟩, trivial⟩
      skip
      refine o_litF (K := KI) (O := OI) (ca := #[.int .i64 7, .int .i64 55296]) [[.int .i64 7], [.int .i64 55296]] [7, 55296] hH Try.underlying24 tI3 rfl (by decide) rfl rfl (by kernel_rfl) rfl ⟨rfl, Ent.own (Ent.flat rfl), rfl, Ent.own (Ent.flat rfl), trivial⟩ ?_
      clear hH
      intro A225 s225 hH hG
      replace hR := hR.trans hG
      try dsimp only [putL, setL, evL, getL]
      refine HK_more [4] (by kernel_rfl) rfl (fun _ => hR) ⟨⟨_, rfl, Or.inl ⟨rfl, ?_⟩⟩, trivial⟩
      replace H := headE H
      obtain ⟨u226, hu226, H⟩ := H
      obtain ⟨F1, sx, hx, hC, hA, hB⟩ := hH.takeT [4] (by decide)
      dsimp only [addC, setC, rmC, selC, getC] at hA
      skip
      refine o_call (args := #[.pointer (some ⟨bp0, 0, none⟩), .slice A225 [7, 55296].length 2]) Try.func104 rfl rfl rfl (spec_l1Cur_among.ok sx s225 F1 bp0 A0_0p c0_0p p0_0 u219.2.1 u219.2.2 A225 2 [7, 55296] (HRp0_0.mono hx.mono) (Ck.rdT hx (hC 5 (by decide)) rfl) hA _ hu226) ?_
      rintro _ s226 ⟨rfl, hD⟩
      replace hH := hB _ _ _ inferInstance hD
      clear hD hA hB hx hC
      refine HK_free (by kernel_rfl) ?_
      refine HX_lim (R := fun _ => True) (k := 0) (fun s' => Gro s226 s') 6 ?_
      have hR := Gro.refl s226
      have hH0 := hH
      replace H := headE H
      obtain ⟨u227, hu227, H⟩ := H
      obtain ⟨b227, o227, cs227, hA227, hr227, hh227, hel227⟩ := hH0.elo 0 rfl hu227
      obtain rfl := hr227
      try dsimp only [putL, setL, evL, getL]
      refine HK_readP 5 (v := .pointer (some ⟨b227, o227 + Int.toNat 0 * Kd.sz KI, none⟩)) rfl (by kernel_rfl) hQp rfl (fun s' K hK => hel227 s' rfl rfl Try.underlying24 tI3 hK) rfl rfl (fun _ => hR) ?_
      refine HK_more [6] (by kernel_rfl) rfl (fun _ => hR) ⟨⟨_, rfl, Or.inl ⟨rfl, ?_⟩⟩, trivial⟩
      replace H := headE H
      obtain ⟨x228, hx228, H⟩ := H
      skip
      refine o_setF (vs := [.int .i64 u226.1]) (u := u226.1) hH 0 rfl rfl rfl rfl rfl tI3 hA227 hx228 (Ent.own (Ent.flat rfl)) ?_
      clear hH
      intro s228 hH
      have hl228 := st?_len hx228
      refine HK_free (by kernel_rfl) ?_
      try dsimp only [putL, setL, evL, getL]
      refine HX_done (by kernel_rfl) ?_
      exact hK195 _ _ ⟨x228, x104, u226.2.1, u226.2.2, H, rfl, (by first | exact hH.sel [0, 2, 3, 6] (by decide) | (rw [hl228]; exact hH.sel [0, 2, 3, 6] (by decide))), hl228⟩
     ·skip
      refine o_litF (K := KI) (O := OI) (ca := #[.int .i64 7, .int .i64 55296]) [[.int .i64 7], [.int .i64 55296]] [7, 55296] hH Try.underlying24 tI3 rfl (by decide) rfl rfl (by kernel_rfl) rfl ⟨rfl, Ent.own (Ent.flat rfl), rfl, Ent.own (Ent.flat rfl), trivial⟩ ?_
      clear hH
      intro A229 s229 hH hG
      replace hR := hR.trans hG
      refine HK_more [1, 4] (by kernel_rfl) rfl (fun _ => hR) ⟨⟨_, rfl, Or.inl ⟨rfl, ?_⟩⟩, ⟨_, rfl, Or.inl ⟨rfl, ?_⟩⟩, trivial⟩
      ·skip
       refine o_load' rfl Try.underlying24 rfl (hH.hasv 3 rfl rfl) ?_
       refine HK_more [4] (by kernel_rfl) rfl (fun _ => hR) ⟨⟨_, rfl, Or.inl ⟨rfl, ?_⟩⟩, trivial⟩
       replace H := headE H
       obtain ⟨u230, hu230, H⟩ := H
       obtain ⟨F1, sx, hx, hC, hA, hB⟩ := hH.takeT [4] (by decide)
       dsimp only [addC, setC, rmC, selC, getC] at hA
       skip
       refine o_call (args := #[.pointer (some ⟨bp0, 0, none⟩), .slice A229 [7, 55296].length 2]) Try.func104 rfl rfl rfl (spec_l1Cur_among.ok sx s229 F1 bp0 A0_0p c0_0p p0_0 u219.2.1 u219.2.2 A229 2 [7, 55296] (HRp0_0.mono hx.mono) (Ck.rdT hx (hC 5 (by decide)) rfl) hA _ hu230) ?_
       rintro _ s230 ⟨rfl, hD⟩
       replace hH := hB _ _ _ inferInstance hD
       clear hD hA hB hx hC
       try dsimp only [putL, setL, evL, getL]
       refine HK_free (by kernel_rfl) ?_
       refine HX_lim (R := fun _ => True) (k := 0) (fun s' => Gro s230 s') 6 ?_
       have hR := Gro.refl s230
       have hH0 := hH
       replace H := headE H
       obtain ⟨u231, hu231, H⟩ := H
       obtain ⟨b231, o231, cs231, hA231, hr231, hh231, hel231⟩ := hH0.elo 0 rfl hu231
       obtain rfl := hr231
       refine HK_readP 5 (v := .pointer (some ⟨b231, o231 + Int.toNat 0 * Kd.sz KI, none⟩)) rfl (by kernel_rfl) hQp rfl (fun s' K hK => hel231 s' rfl rfl Try.underlying24 tI3 hK) rfl rfl (fun _ => hR) ?_
       try dsimp only [putL, setL, evL, getL]
       refine HK_more [6] (by kernel_rfl) rfl (fun _ => hR) ⟨⟨_, rfl, Or.inl ⟨rfl, ?_⟩⟩, trivial⟩
       replace H := headE H
       obtain ⟨x232, hx232, H⟩ := H
       skip
       refine o_setF (vs := [.int .i64 u230.1]) (u := u230.1) hH 0 rfl rfl rfl rfl rfl tI3 hA231 hx232 (Ent.own (Ent.flat rfl)) ?_
       clear hH
       intro s232 hH
       have hl232 := st?_len hx232
       refine HK_free (by kernel_rfl) ?_
       refine HX_done (by kernel_rfl) ?_
       exact hK195 _ _ ⟨x232, x104, u230.2.1, u230.2.2, H, rfl, (by first | exact hH.sel [0, 2, 3, 6] (by decide) | (rw [hl232]; exact hH.sel [0, 2, 3, 6] (by decide))), hl232⟩
      ·replace H := headE H
       obtain ⟨u233, hu233, H⟩ := H
       obtain ⟨F1, sx, hx, hC, hA, hB⟩ := hH.takeT [4] (by decide)
       dsimp only [addC, setC, rmC, selC, getC] at hA
       skip
       refine o_call (args := #[.pointer (some ⟨bp0, 0, none⟩), .slice A229 [7, 55296].length 2]) Try.func104 rfl rfl rfl (spec_l1Cur_among.ok sx s229 F1 bp0 A0_0p c0_0p p0_0 u219.2.1 u219.2.2 A229 2 [7, 55296] (HRp0_0.mono hx.mono) (Ck.rdT hx (hC 5 (by decide)) rfl) hA _ hu233) ?_
       rintro _ s233 ⟨rfl, hD⟩
       replace hH := hB _ _ _ inferInstance hD
       clear hD hA hB hx hC
       try dsimp only [putL, setL, evL, getL]
       refine HK_free (by kernel_rfl) ?_
       refine HX_lim (R := fun _ => True) (k := 0) (fun s' => Gro s233 s') 6 ?_
       have hR := Gro.refl s233
       have hH0 := hH
       refine HK_read 1 (v := .slice A103 x103.length c103) rfl (by kernel_rfl) hQp rfl (fun s' hR' K hK => o_load' rfl Try.underlying24 rfl (has_gro hR' (hH0.hasv 3 rfl rfl)) hK) rfl rfl hR ?_
       replace H := headE H
       obtain ⟨u234, hu234, H⟩ := H
       obtain ⟨b234, o234, cs234, hA234, hr234, hh234, hel234⟩ := hH0.elo 0 rfl hu234
       obtain rfl := hr234
       try dsimp only [putL, setL, evL, getL]
       refine HK_readP 5 (v := .pointer (some ⟨b234, o234 + Int.toNat 0 * Kd.sz KI, none⟩)) rfl (by kernel_rfl) hQp rfl (fun s' K hK => hel234 s' rfl rfl Try.underlying24 tI3 hK) rfl rfl (fun _ => hR) ?_
       refine HK_more [6] (by kernel_rfl) rfl (fun _ => hR) ⟨⟨_, rfl, Or.inl ⟨rfl, ?_⟩⟩, trivial⟩
       replace H := headE H
       obtain ⟨x235, hx235, H⟩ := H
       skip
       refine o_setF (vs := [.int .i64 u233.1]) (u := u233.1) hH 0 rfl rfl rfl rfl rfl tI3 hA234 hx235 (Ent.own (Ent.flat rfl)) ?_
       clear hH
       intro s235 hH
       have hl235 := st?_len hx235
       refine HK_free (by kernel_rfl) ?_
       try dsimp only [putL, setL, evL, getL]
       refine HX_done (by kernel_rfl) ?_
       exact hK195 _ _ ⟨x235, x104, u233.2.1, u233.2.2, H, rfl, (by first | exact hH.sel [0, 2, 3, 6] (by decide) | (rw [hl235]; exact hH.sel [0, 2, 3, 6] (by decide))), hl235⟩
    ·refine HT_skip ?_
     exact hK195 _ _ ⟨x103, x104, u219.2.1, u219.2.2, H, rfl, hH.sel [0, 2, 3, 4] (by decide), rfl⟩
  ·rintro l' s236 ⟨x214, x215, x216, x217, H, hl, hH, hl214⟩
   revert l'
   refine skA ?_
   dsimp only [Al, Sk]
   intros
   replace H := hG195 _ H
   try dsimp only at H
   refine sr fun K237 hK237 => hc (o_loads' [.int .i64 x101, .int .i64 x102, .slice A103 x103.length c103, .int .i64 x215, .int .i64 x105] rfl Try.underlying66 rfl tI66 rfl (hH.partv 2 rfl (0) [.int .i64 x101, .int .i64 x102, .slice A103 x103.length c103, .int .i64 x215, .int .i64 x105] rfl) (hc (o_stvH (vs := [.int .i64 x101, .int .i64 x102, .slice A103 x103.length c103, .int .i64 x215, .int .i64 x105]) (us' := [.int .i64 x101, .int .i64 x102, .slice A103 x103.length c103, .int .i64 x215, .int .i64 x105]) hH 1 rfl rfl rfl rfl rfl tI66 rfl (List.cons_ne_nil _ _) rfl rfl rfl ?_)))
   clear hH
   intro s238 hH
   refine HL_nil (hK237 _ _ ?_)
   try dsimp only [putL, setL, evL, getL]
   refine HT_ret ?_
   exact hQr _ _ [.agg #[.int .i64 x101, .int .i64 x102, .slice A103 x103.length c103, .int .i64 x215, .int .i64 x105]] _ ⟨ResV.cells rfl Try.underlying66 rfl tI66 (hH.var 1 rfl) rfl, trivial⟩ H ⟨A103, c103, (by first | (rw [hl214]; first | done | rfl) | rfl), hH.sel [0, 3] (by decide)⟩
def spec_l1Cur_small.l1 (p0_0 : List (Int)) : Nat → (List (Int)) → Int → Int → Int → Option ((List (Int)) × Int × Int)
 | 0, _, _, _, _ => none
 | kf + 1, x53, x54, x55, x56 => if (decide (x54 > 0)) = true then ((spec_l1Cur_among.f p0_0 x55 x56 [97, 98, 97, 98, 99, 12354]).bind fun u75 => (app? 17592186044416 x53 [u75.1]).bind fun x77 => spec_l1Cur_small.l1 p0_0 kf x77 (IntKind.i64.wrap (x54 - 1)) u75.2.1 u75.2.2) else (some (x53, x55, x56))
def spec_l1Cur_small.f (p0_0 : List (Int)) (p0_1 : Int) (p0_2 : Int) (p1 : Int) : Option ((List (Int)) × Int × Int) := (spec_l1Cur_pick.f p0_0 p0_1 p0_2 (IntKind.i64.wrap (p1 + 1))).bind fun u5 => (spec_l1Cur_small.l1 p0_0 (((u5.1) - (0)).toNat + 2) [] u5.1 u5.2.1 u5.2.2).bind fun (o : (List (Int)) × Int × Int) => match o with | (x41, x42, x43) => (some (x41, x42, x43))
def spec_l1Cur_small.post (sb s : St) (F0 : Fp) (bp0 : Nat) (A0_0p : Option Addr) (c0_0p : Nat) (p0_0 : List (Int)) (r : (List (Int)) × Int × Int) : Value → St → Prop := fun v s' => ∃ (A0 : Option Addr) (c0 : Nat), v = .slice A0 r.1.length c0 ∧ Hp sb s F0 s' [Ck.ol OI 3 A0 c0 r.1, Ck.ov bp0 [.slice A0_0p p0_0.length c0_0p, .int .i64 r.2.1, .int .u64 r.2.2] 113]
set_option maxRecDepth 100000 in
set_option maxHeartbeats 4000000 in
theorem spec_l1Cur_small.ok (sb s : St) (F0 : Fp) (bp0 : Nat) (A0_0p : Option Addr) (c0_0p : Nat) (p0_0 : List (Int)) (p0_1 : Int) (p0_2 : Int) (p1 : Int) (HRp0_0 : Rd (Kd.int .u8) sb A0_0p c0_0p p0_0) (hH : Hp sb s F0 s [Ck.ov bp0 [.slice A0_0p p0_0.length c0_0p, .int .i64 p0_1, .int .u64 p0_2] 113]) (r : (List (Int)) × Int × Int) (H : spec_l1Cur_small.f p0_0 p0_1 p0_2 p1 = some r) : GCall Try.prog 103 #[.pointer (some ⟨bp0, 0, none⟩), .int .i64 p1] s (spec_l1Cur_small.post sb s F0 bp0 A0_0p c0_0p p0_0 r) := by
 refine GCall_ofr (spec_l1Cur_small.post sb s F0 bp0 A0_0p c0_0p p0_0) [.tmp 4] (ud [.pointer (some ⟨bp0, 0, none⟩), .int .i64 p1] 20) Try.func103 rfl rfl rfl fun w Q hQr hQn hQp => ?_
 replace H := topE H
 unfold spec_l1Cur_small.f at H
 dsimp only [ud, un]
 refine sr fun K1 hK1 => ag (HL_nil (hK1 _ _ ?_))
 dsimp only [putL, setL, evL, getL]
 refine sr fun K2 hK2 => ag (HL_nil (hK2 _ _ ?_))
 dsimp only [putL, setL, evL, getL]
 refine HT_seq_k fun K3 hK3 => sr fun K4 hK4 => mv (mv (bn rfl rfl rfl ?_))
 replace H := headE H
 obtain ⟨u5, hu5, H⟩ := H
 obtain ⟨F1, hA, hB⟩ := hH.take [0] (by decide)
 dsimp only [addC, setC, rmC, selC, getC] at hA
 try dsimp only [putL, setL, evL, getL]
 refine hc (o_call (args := #[.pointer (some ⟨bp0, 0, none⟩), .int .i64 (IntKind.i64.wrap (p1 + 1))]) Try.func112 rfl rfl rfl (spec_l1Cur_pick.ok sb s F1 bp0 A0_0p c0_0p p0_0 p0_1 p0_2 (IntKind.i64.wrap (p1 + 1)) HRp0_0 hA _ hu5) ?_)
 rintro _ s5 ⟨rfl, hD⟩
 replace hH := hB _ _ _ (Up.refl _ _ _) hD
 clear hD hA hB
 refine ag (HL_nil (hK4 _ _ ?_))
 dsimp only [putL, setL, evL, getL]
 refine joinH H fun G6 hG6 H => ?_
 refine HT_toK (fun l' s' => ∃ (x41 : List (Int)) (A41 : Option Addr) (c41 : Nat) (x42 : Int) (x43 : Int), G6 (x41, x42, x43) = some r ∧ skim [5] l' = ([.slice A41 x41.length c41], 17) ∧ Hp sb s F0 s' [Ck.ol OI 3 A41 c41 x41, Ck.ov bp0 [.slice A0_0p p0_0.length c0_0p, .int .i64 x42, .int .u64 x43] 113]) ?_ ?_
 ·intro K6 hK6
  refine HT_block ?_
  refine HT_loopK (fun kf l' s' => ∃ (x53 : List (Int)) (A53 : Option Addr) (c53 : Nat) (x54 : Int) (x55 : Int) (x56 : Int), (spec_l1Cur_small.l1 p0_0 kf x53 x54 x55 x56).bind G6 = some r ∧ skim [0, 4, 0] l' = ([.pointer (some ⟨bp0, 0, none⟩), .slice A53 x53.length c53, .int .i64 x54], 16) ∧ Hp sb s F0 s' [Ck.ol OI 3 A53 c53 x53, Ck.ov bp0 [.slice A0_0p p0_0.length c0_0p, .int .i64 x55, .int .u64 x56] 113]) (((u5.1) - (0)).toNat + 2) ⟨[], none, 0, u5.1, u5.2.1, u5.2.2, H, rfl, (hH.nil (K := KI) OI 3).sel [2, 1] (by decide)⟩ ?_
  rintro kf l' s69 ⟨x53, A53, c53, x54, x55, x56, H, hl, hH⟩ K69 hK69
  revert l'
  refine skA ?_
  dsimp only [Al, Sk]
  intros
  cases kf with
  | zero => simp [spec_l1Cur_small.l1] at H
  | succ kf =>
   rw [spec_l1Cur_small.l1] at H
   refine HT_seq_k fun K70 hK70 => sr fun K71 hK71 => mv (bn rfl rfl rfl (HL_nil (hK71 _ _ ?_)))
   dsimp only [putL, setL, evL, getL]
   revert H
   refine ct rfl (fun hb72 H => ?_) (fun hb72 H => ?_)
   ·refine HT_skip (hK70 _ _ (HT_seq_k fun K73 hK73 => (HT_block ?_)))
    refine HT_region ?_
    refine mv (mv (hc (o_litF (K := KI) (O := OI) (ca := #[.int .i64 97, .int .i64 98, .int .i64 97, .int .i64 98, .int .i64 99, .int .i64 12354]) [[.int .i64 97], [.int .i64 98], [.int .i64 97], [.int .i64 98], [.int .i64 99], [.int .i64 12354]] [97, 98, 97, 98, 99, 12354] hH Try.underlying24 tI3 rfl (by decide) rfl rfl (by kernel_rfl) rfl ⟨rfl, Ent.own (Ent.flat rfl), rfl, Ent.own (Ent.flat rfl), rfl, Ent.own (Ent.flat rfl), rfl, Ent.own (Ent.flat rfl), rfl, Ent.own (Ent.flat rfl), rfl, Ent.own (Ent.flat rfl), trivial⟩ ?_)))
    clear hH
    intro A74 s74 hH _
    replace H := headE H
    obtain ⟨u75, hu75, H⟩ := H
    obtain ⟨F1, sx, hx, hC, hA, hB⟩ := hH.takeT [1] (by decide)
    dsimp only [addC, setC, rmC, selC, getC] at hA
    try dsimp only [putL, setL, evL, getL]
    refine hc (o_call (args := #[.pointer (some ⟨bp0, 0, none⟩), .slice A74 [97, 98, 97, 98, 99, 12354].length 6]) Try.func104 rfl rfl rfl (spec_l1Cur_among.ok sx s74 F1 bp0 A0_0p c0_0p p0_0 x55 x56 A74 6 [97, 98, 97, 98, 99, 12354] (HRp0_0.mono hx.mono) (Ck.rdT hx (hC 2 (by decide)) rfl) hA _ hu75) ?_)
    rintro _ s75 ⟨rfl, hD⟩
    replace hH := hB _ _ _ inferInstance hD
    clear hD hA hB hx hC
    refine hc (o_litF (K := KI) (O := OI) (ca := #[.int .i64 u75.1]) [[.int .i64 u75.1]] [u75.1] hH Try.underlying24 tI3 rfl (by decide) rfl rfl (by kernel_rfl) rfl ⟨rfl, Ent.own (Ent.flat rfl), trivial⟩ ?_)
    clear hH
    intro A76 s76 hH _
    replace H := headE H
    obtain ⟨x77, hx77, H⟩ := H
    refine hc (o_appF (K := KI) (n := 17592186044416) (A := A53) (c := c53) (xs := x53) (ys := [u75.1]) (B := A76) (c2 := 1) hH 0 rfl rfl rfl rfl Try.underlying24 tI3 rfl (by decide) (by decide) (by decide) (Src.flat (hH.rd 4 rfl)) hx77 ?_)
    clear hH
    intro A77 c77 s77 hH
    try dsimp only [putL, setL, evL, getL]
    refine ag (HL_nil (hK73 _ _ ?_))
    dsimp only [putL, setL, evL, getL]
    refine HT_region ?_
    refine mv (bn rfl rfl rfl (ag (HL_nil ?_)))
    exact hK69 _ _ ⟨kf, Nat.lt_succ_self kf, x77, A77, c77, IntKind.i64.wrap (x54 - 1), u75.2.1, u75.2.2, H, rfl, hH.sel [0, 3] (by decide)⟩
   ·refine HT_exit ?_
    exact hK6 _ _ ⟨x53, A53, c53, x55, x56, H, rfl, hH⟩
 ·rintro l' s78 ⟨x41, A41, c41, x42, x43, H, hl, hH⟩
  revert l'
  refine skA ?_
  dsimp only [Al, Sk]
  intros
  replace H := hG6 _ H
  try dsimp only at H
  refine hK3 _ _ ?_
  refine sr fun K79 hK79 => ?_
  try dsimp only [putL, setL, evL, getL]
  refine mv (ag (HL_nil (hK79 _ _ ?_)))
  dsimp only [putL, setL, evL, getL]
  refine HT_ret ?_
  exact hQr _ _ [.slice A41 x41.length c41] _ ⟨rfl, trivial⟩ H ⟨A41, c41, rfl, hH⟩
def spec_DrawShowsAt.f (p0 : List (Int)) : Option (Int × Int × (List (Int)) × Int × Int × (List (Int))) := (spec_l1Cur_screen.f p0 0 0).bind fun u6 => (spec_l1Cur_small.f p0 u6.2.2.2.2.2.1 u6.2.2.2.2.2.2 3).bind fun u11 => some (u6.1, u6.2.1, u6.2.2.1, u6.2.2.2.1, u6.2.2.2.2.1, u11.1)
def spec_DrawShowsAt.post (sb s : St) (F0 : Fp) (r : Int × Int × (List (Int)) × Int × Int × (List (Int))) : Value → St → Prop := fun v s' => ∃ (A2 : Option Addr) (c2 : Nat) (A5 : Option Addr) (c5 : Nat), v = .tuple #[.agg #[.int .i64 r.1, .int .i64 r.2.1, .slice A2 r.2.2.1.length c2, .int .i64 r.2.2.2.1, .int .i64 r.2.2.2.2.1], .slice A5 r.2.2.2.2.2.length c5] ∧ Hp sb s F0 s' [Ck.ol OI 3 A2 c2 r.2.2.1, Ck.ol OI 3 A5 c5 r.2.2.2.2.2]
set_option maxRecDepth 100000 in
set_option maxHeartbeats 4000000 in
theorem spec_DrawShowsAt.ok (sb s : St) (F0 : Fp) (A0p : Option Addr) (c0p : Nat) (p0 : List (Int)) (HRp0 : Rd (Kd.int .u8) sb A0p c0p p0) (hH : Hp sb s F0 s []) (r : Int × Int × (List (Int)) × Int × Int × (List (Int))) (H : spec_DrawShowsAt.f p0 = some r) : GCall Try.prog 78 #[.slice A0p p0.length c0p] s (spec_DrawShowsAt.post sb s F0 r) := by
 refine GCall_ofr (spec_DrawShowsAt.post sb s F0) [.cell 2 66, .tmp 3] (ud [.slice A0p p0.length c0p] 13) Try.func78 rfl rfl rfl fun w Q hQr hQn hQp => ?_
 replace H := topE H
 unfold spec_DrawShowsAt.f at H
 dsimp only [ud, un]
 refine sr fun K1 hK1 => hc (o_allocH hH tI66 ?_)
 clear hH
 intro b2 s2 hH _
 refine ag (HL_nil (hK1 _ _ ?_))
 dsimp only [putL, setL, evL, getL]
 refine sr fun K3 hK3 => mv (hc (o_build (pl := [(0, 1), (1, 1), (2, 1)]) (cs := #[.slice A0p p0.length c0p, .int .i64 0, .int .u64 0]) Try.underlying113 tI113 (by kernel_rfl) (by kernel_rfl) rfl (hc (o_boxH hH rfl ?_))))
 clear hH
 intro b4 s4 hH _
 try dsimp only [putL, setL, evL, getL]
 refine ag (HL_nil (hK3 _ _ ?_))
 dsimp only [putL, setL, evL, getL]
 refine sr fun K5 hK5 => mv ?_
 replace H := headE H
 obtain ⟨u6, hu6, H⟩ := H
 obtain ⟨F1, hA, hB⟩ := hH.take [1] (by decide)
 dsimp only [addC, setC, rmC, selC, getC] at hA
 refine hc (o_call (args := #[.pointer (some ⟨b4, 0, none⟩)]) Try.func139 rfl rfl rfl (spec_l1Cur_screen.ok sb s4 F1 b4 A0p c0p p0 0 0 HRp0 hA _ hu6) ?_)
 rintro _ s6 ⟨A7, c7, rfl, hD⟩
 replace hH := hB _ _ _ (Up.refl _ _ _) hD
 clear hD hA hB
 refine hc (o_allocH hH tI66 ?_)
 clear hH
 intro b8 s8 hH _
 try dsimp only [putL, setL, evL, getL]
 refine hc (o_stvH (vs := [.int .i64 u6.1, .int .i64 u6.2.1, .slice A7 u6.2.2.1.length c7, .int .i64 u6.2.2.2.1, .int .i64 u6.2.2.2.2.1]) (us' := [.int .i64 u6.1, .int .i64 u6.2.1, .slice A7 u6.2.2.1.length c7, .int .i64 u6.2.2.2.1, .int .i64 u6.2.2.2.2.1]) hH 4 rfl rfl rfl rfl rfl tI66 rfl (List.cons_ne_nil _ _) rfl rfl rfl ?_)
 clear hH
 intro s9 hH
 refine HL_nil (hK5 _ _ ?_)
 try dsimp only [putL, setL, evL, getL]
 refine sx hMix fun K10 hK10 => ?_
 refine HX_lim (R := fun _ => True) (k := 0) (fun s' => Gro s9 s') 2 ?_
 have hR := Gro.refl s9
 have hH0 := hH
 refine HK_readP 1 (v := .pointer (some ⟨b4, 0, none⟩)) rfl (by kernel_rfl) hQp rfl (fun s' K hK => o_move hK) rfl rfl (fun _ => hR) ?_
 refine HK_more [0, 2] (by kernel_rfl) rfl (fun _ => hR) ⟨⟨_, rfl, Or.inl ⟨rfl, ?_⟩⟩, ⟨_, rfl, Or.inl ⟨rfl, ?_⟩⟩, trivial⟩
 ·skip
  refine o_loads' [.int .i64 u6.1, .int .i64 u6.2.1, .slice A7 u6.2.2.1.length c7, .int .i64 u6.2.2.2.1, .int .i64 u6.2.2.2.2.1] rfl Try.underlying66 rfl tI66 rfl (hH.partv 4 rfl (0) [.int .i64 u6.1, .int .i64 u6.2.1, .slice A7 u6.2.2.1.length c7, .int .i64 u6.2.2.2.1, .int .i64 u6.2.2.2.2.1] rfl) ?_
  try dsimp only [putL, setL, evL, getL]
  refine HK_more [2] (by kernel_rfl) rfl (fun _ => hR) ⟨⟨_, rfl, Or.inl ⟨rfl, ?_⟩⟩, trivial⟩
  replace H := headE H
  obtain ⟨u11, hu11, H⟩ := H
  obtain ⟨F1, hA, hB⟩ := hH.take [3] (by decide)
  dsimp only [addC, setC, rmC, selC, getC] at hA
  skip
  refine o_call (args := #[.pointer (some ⟨b4, 0, none⟩), .int .i64 3]) Try.func103 rfl rfl rfl (spec_l1Cur_small.ok sb s9 F1 b4 A0p c0p p0 u6.2.2.2.2.2.1 u6.2.2.2.2.2.2 3 HRp0 hA _ hu11) ?_
  rintro _ s11 ⟨A12, c12, rfl, hD⟩
  replace hH := hB _ _ _ (Up.refl _ _ _) hD
  clear hD hA hB
  refine HK_free (by kernel_rfl) ?_
  refine HX_lim (R := fun _ => True) (k := 0) (fun s' => Gro s11 s') 3 ?_
  have hR := Gro.refl s11
  have hH0 := hH
  try dsimp only [putL, setL, evL, getL]
  refine HK_more [3] (by kernel_rfl) rfl (fun _ => hR) ⟨⟨_, rfl, Or.inl ⟨rfl, ?_⟩⟩, trivial⟩
  skip
  refine o_stvH (vs := [.int .i64 u6.1, .int .i64 u6.2.1, .slice A7 u6.2.2.1.length c7, .int .i64 u6.2.2.2.1, .int .i64 u6.2.2.2.2.1]) (us' := [.int .i64 u6.1, .int .i64 u6.2.1, .slice A7 u6.2.2.1.length c7, .int .i64 u6.2.2.2.1, .int .i64 u6.2.2.2.2.1]) hH 0 rfl rfl rfl rfl rfl tI66 rfl (List.cons_ne_nil _ _) rfl rfl rfl ?_
  clear hH
  intro s13 hH
  refine HK_free (by kernel_rfl) ?_
  refine HX_lim (R := fun _ => True) (k := 0) (fun s' => Gro s13 s') 6 ?_
  have hR := Gro.refl s13
  have hH0 := hH
  try dsimp only [putL, setL, evL, getL]
  refine HK_more [4] (by kernel_rfl) rfl (fun _ => hR) ⟨⟨_, rfl, Or.inl ⟨rfl, ?_⟩⟩, trivial⟩
  skip
  refine o_assign ?_
  refine HK_done (fun _ => hR) (by kernel_rfl) ?_
  refine hK10 _ _ ?_
  try dsimp only [putL, setL, evL, getL]
  refine HT_ret ?_
  exact hQr _ _ [.agg #[.int .i64 u6.1, .int .i64 u6.2.1, .slice A7 u6.2.2.1.length c7, .int .i64 u6.2.2.2.1, .int .i64 u6.2.2.2.2.1], .slice A12 u11.1.length c12] _ ⟨ResV.cells rfl Try.underlying66 rfl tI66 (hH.var 0 rfl) rfl, rfl, trivial⟩ H ⟨A7, c7, A12, c12, rfl, hH.sel [2, 5] (by decide)⟩
 ·replace H := headE H
  obtain ⟨u14, hu14, H⟩ := H
  obtain ⟨F1, hA, hB⟩ := hH.take [3] (by decide)
  dsimp only [addC, setC, rmC, selC, getC] at hA
  skip
  refine o_call (args := #[.pointer (some ⟨b4, 0, none⟩), .int .i64 3]) Try.func103 rfl rfl rfl (spec_l1Cur_small.ok sb s9 F1 b4 A0p c0p p0 u6.2.2.2.2.2.1 u6.2.2.2.2.2.2 3 HRp0 hA _ hu14) ?_
  rintro _ s14 ⟨A15, c15, rfl, hD⟩
  replace hH := hB _ _ _ (Up.refl _ _ _) hD
  clear hD hA hB
  refine HK_free (by kernel_rfl) ?_
  refine HX_lim (R := fun _ => True) (k := 0) (fun s' => Gro s14 s') 3 ?_
  have hR := Gro.refl s14
  have hH0 := hH
  refine HK_read 0 (v := .agg #[.int .i64 u6.1, .int .i64 u6.2.1, .slice A7 u6.2.2.1.length c7, .int .i64 u6.2.2.2.1, .int .i64 u6.2.2.2.2.1]) rfl (by kernel_rfl) hQp rfl (fun s' hR' K hK => o_loads' [.int .i64 u6.1, .int .i64 u6.2.1, .slice A7 u6.2.2.1.length c7, .int .i64 u6.2.2.2.1, .int .i64 u6.2.2.2.2.1] rfl Try.underlying66 rfl tI66 rfl (fun j v hj => has_gro hR' ((hH0.partv 4 rfl (0) [.int .i64 u6.1, .int .i64 u6.2.1, .slice A7 u6.2.2.1.length c7, .int .i64 u6.2.2.2.1, .int .i64 u6.2.2.2.2.1] rfl) j v hj)) hK) rfl rfl hR ?_
  try dsimp only [putL, setL, evL, getL]
  refine HK_more [3] (by kernel_rfl) rfl (fun _ => hR) ⟨⟨_, rfl, Or.inl ⟨rfl, ?_⟩⟩, trivial⟩
  skip
  refine o_stvH (vs := [.int .i64 u6.1, .int .i64 u6.2.1, .slice A7 u6.2.2.1.length c7, .int .i64 u6.2.2.2.1, .int .i64 u6.2.2.2.2.1]) (us' := [.int .i64 u6.1, .int .i64 u6.2.1, .slice A7 u6.2.2.1.length c7, .int .i64 u6.2.2.2.1, .int .i64 u6.2.2.2.2.1]) hH 0 rfl rfl rfl rfl rfl tI66 rfl (List.cons_ne_nil _ _) rfl rfl rfl ?_
  clear hH
  intro s16 hH
  refine HK_free (by kernel_rfl) ?_
  refine HX_lim (R := fun _ => True) (k := 0) (fun s' => Gro s16 s') 6 ?_
  have hR := Gro.refl s16
  have hH0 := hH
  try dsimp only [putL, setL, evL, getL]
  refine HK_more [4] (by kernel_rfl) rfl (fun _ => hR) ⟨⟨_, rfl, Or.inl ⟨rfl, ?_⟩⟩, trivial⟩
  skip
  refine o_assign ?_
  refine HK_done (fun _ => hR) (by kernel_rfl) ?_
  refine hK10 _ _ ?_
  try dsimp only [putL, setL, evL, getL]
  refine HT_ret ?_
  exact hQr _ _ [.agg #[.int .i64 u6.1, .int .i64 u6.2.1, .slice A7 u6.2.2.1.length c7, .int .i64 u6.2.2.2.1, .int .i64 u6.2.2.2.2.1], .slice A15 u14.1.length c15] _ ⟨ResV.cells rfl Try.underlying66 rfl tI66 (hH.var 0 rfl) rfl, rfl, trivial⟩ H ⟨A7, c7, A15, c15, rfl, hH.sel [2, 5] (by decide)⟩
def impl_inRange.f (p0 : Int) (p1 : Int) (p2 : Int) : Option Bool := if (decide (p1 ≤ p0)) = true then (some (decide (p0 ≤ p2))) else (some false)
def impl_inRange.post (sb s : St) (F0 : Fp) (r : Bool) : Value → St → Prop := fun v s' => v = .bool r ∧ Hp sb s F0 s' []
set_option maxRecDepth 100000 in
set_option maxHeartbeats 4000000 in
theorem impl_inRange.ok (sb s : St) (F0 : Fp) (p0 : Int) (p1 : Int) (p2 : Int) (hH : Hp sb s F0 s []) (r : Bool) (H : impl_inRange.f p0 p1 p2 = some r) : GCall Try.prog 105 #[.int .i64 p0, .int .i64 p1, .int .i64 p2] s (impl_inRange.post sb s F0 r) := by
 refine GCall_ofr (impl_inRange.post sb s F0) [.tmp 6] (ud [.int .i64 p0, .int .i64 p1, .int .i64 p2] 12) Try.func105 rfl rfl rfl fun w Q hQr hQn hQp => ?_
 replace H := topE H
 unfold impl_inRange.f at H
 dsimp only [ud, un]
 refine sr fun K1 hK1 => ag (HL_nil (hK1 _ _ ?_))
 dsimp only [putL, setL, evL, getL]
 refine sr fun K2 hK2 => mv (mv (bn rfl rfl rfl ?_))
 dsimp only [putL, setL, evL, getL]
 refine mv ?_
 revert H
 refine it (fun hb3 H => ?_) (fun hb3 H => ?_)
 ·refine wt rfl rfl rfl rfl hb3 (o_move (wt rfl rfl rfl rfl hb3 (o_move ?_)))
  dsimp only [putL, setL, evL, getL]
  refine wt rfl rfl rfl rfl hb3 (o_bin rfl rfl rfl (hc (o_pickT rfl hb3 (ag (HL_nil (hK2 _ _ ?_))))))
  dsimp only [putL, setL, evL, getL]
  refine HT_ret ?_
  exact hQr _ _ [.bool (decide (p0 ≤ p2))] _ ⟨rfl, trivial⟩ H ⟨rfl, hH⟩
 ·refine wf rfl rfl rfl rfl hb3 (wf rfl rfl rfl rfl hb3 (wf rfl rfl rfl rfl hb3 ?_))
  dsimp only [putL, setL, evL, getL]
  refine hc (o_pickF rfl hb3 (ag (HL_nil (hK2 _ _ ?_))))
  dsimp only [putL, setL, evL, getL]
  refine HT_ret ?_
  exact hQr _ _ [.bool false] _ ⟨rfl, trivial⟩ H ⟨rfl, hH⟩
def impl_isPlace.f (p0 : Int) (p1 : Int) : Option Bool := (impl_inRange.f p0 0 (IntKind.i64.wrap (p1 - 1))).bind fun u3 => some u3
def impl_isPlace.post (sb s : St) (F0 : Fp) (r : Bool) : Value → St → Prop := fun v s' => v = .bool r ∧ Hp sb s F0 s' []
set_option maxRecDepth 100000 in
set_option maxHeartbeats 4000000 in
theorem impl_isPlace.ok (sb s : St) (F0 : Fp) (p0 : Int) (p1 : Int) (hH : Hp sb s F0 s []) (r : Bool) (H : impl_isPlace.f p0 p1 = some r) : GCall Try.prog 133 #[.int .i64 p0, .int .i64 p1] s (impl_isPlace.post sb s F0 r) := by
 refine GCall_ofr (impl_isPlace.post sb s F0) [.tmp 4] (ud [.int .i64 p0, .int .i64 p1] 7) Try.func133 rfl rfl rfl fun w Q hQr hQn hQp => ?_
 replace H := topE H
 unfold impl_isPlace.f at H
 dsimp only [ud, un]
 refine sr fun K1 hK1 => ag (HL_nil (hK1 _ _ ?_))
 dsimp only [putL, setL, evL, getL]
 refine sr fun K2 hK2 => mv (mv (bn rfl rfl rfl ?_))
 replace H := headE H
 obtain ⟨u3, hu3, H⟩ := H
 try dsimp only [putL, setL, evL, getL]
 refine hc (o_call (args := #[.int .i64 p0, .int .i64 0, .int .i64 (IntKind.i64.wrap (p1 - 1))]) Try.func105 rfl rfl rfl (impl_inRange.ok sb s no p0 0 (IntKind.i64.wrap (p1 - 1)) (Hp.own hH.bs) _ hu3) ?_)
 rintro _ s3 ⟨rfl, hD⟩
 replace hH := hH.back0 hD (Up.refl _ _ _)
 clear hD
 refine ag (HL_nil (hK2 _ _ ?_))
 dsimp only [putL, setL, evL, getL]
 refine HT_ret ?_
 exact hQr _ _ [.bool u3] _ ⟨rfl, trivial⟩ H ⟨rfl, hH⟩
def impl_GoodRune.f (p0 : Int) : Option Bool := (impl_inRange.f p0 0 1114111).bind fun u3 => if u3 = true then ((impl_inRange.f p0 55296 57343).bind fun u5 => some (!u5)) else (some false)
def impl_GoodRune.post (sb s : St) (F0 : Fp) (r : Bool) : Value → St → Prop := fun v s' => v = .bool r ∧ Hp sb s F0 s' []
set_option maxRecDepth 100000 in
set_option maxHeartbeats 4000000 in
theorem impl_GoodRune.ok (sb s : St) (F0 : Fp) (p0 : Int) (hH : Hp sb s F0 s []) (r : Bool) (H : impl_GoodRune.f p0 = some r) : GCall Try.prog 146 #[.int .i64 p0] s (impl_GoodRune.post sb s F0 r) := by
 refine GCall_ofr (impl_GoodRune.post sb s F0) [.tmp 2] (ud [.int .i64 p0] 9) Try.func146 rfl rfl rfl fun w Q hQr hQn hQp => ?_
 replace H := topE H
 unfold impl_GoodRune.f at H
 dsimp only [ud, un]
 refine sr fun K1 hK1 => ag (HL_nil (hK1 _ _ ?_))
 dsimp only [putL, setL, evL, getL]
 refine sr fun K2 hK2 => mv ?_
 replace H := headE H
 obtain ⟨u3, hu3, H⟩ := H
 refine hc (o_call (args := #[.int .i64 p0, .int .i64 0, .int .i64 1114111]) Try.func105 rfl rfl rfl (impl_inRange.ok sb s no p0 0 1114111 (Hp.own hH.bs) _ hu3) ?_)
 rintro _ s3 ⟨rfl, hD⟩
 replace hH := hH.back0 hD (Up.refl _ _ _)
 clear hD
 refine mv ?_
 revert H
 refine it (fun hb4 H => ?_) (fun hb4 H => ?_)
 ·refine wt rfl rfl rfl rfl hb4 (o_move ?_)
  replace H := headE H
  obtain ⟨u5, hu5, H⟩ := H
  try dsimp only [putL, setL, evL, getL]
  refine wt rfl rfl rfl rfl hb4 (o_call (args := #[.int .i64 p0, .int .i64 55296, .int .i64 57343]) Try.func105 rfl rfl rfl (impl_inRange.ok sb s3 no p0 55296 57343 (Hp.own hH.bs) _ hu5) ?_)
  rintro _ s5 ⟨rfl, hD⟩
  replace hH := hH.back0 hD (Up.refl _ _ _)
  clear hD
  refine wt rfl rfl rfl rfl hb4 (o_not rfl (hc (o_pickT rfl hb4 ?_)))
  dsimp only [putL, setL, evL, getL]
  refine ag (HL_nil (hK2 _ _ ?_))
  dsimp only [putL, setL, evL, getL]
  refine HT_ret ?_
  exact hQr _ _ [.bool (!u5)] _ ⟨rfl, trivial⟩ H ⟨rfl, hH⟩
 ·refine wf rfl rfl rfl rfl hb4 (wf rfl rfl rfl rfl hb4 (wf rfl rfl rfl rfl hb4 ?_))
  dsimp only [putL, setL, evL, getL]
  refine hc (o_pickF rfl hb4 (ag (HL_nil (hK2 _ _ ?_))))
  dsimp only [putL, setL, evL, getL]
  refine HT_ret ?_
  exact hQr _ _ [.bool false] _ ⟨rfl, trivial⟩ H ⟨rfl, hH⟩
def impl_GoodScreen_1.f (p0 : Int) : Option Bool := if (decide (p0 < 32)) = true then (some true) else ((impl_GoodRune.f p0).bind fun u4 => some (!u4))
def impl_GoodScreen_1.post (sb s : St) (F0 : Fp) (r : Bool) : Value → St → Prop := fun v s' => v = .bool r ∧ Hp sb s F0 s' []
set_option maxRecDepth 100000 in
set_option maxHeartbeats 4000000 in
theorem impl_GoodScreen_1.ok (sb s : St) (F0 : Fp) (p0 : Int) (hH : Hp sb s F0 s []) (r : Bool) (H : impl_GoodScreen_1.f p0 = some r) : GCall Try.prog 145 #[.int .i64 p0] s (impl_GoodScreen_1.post sb s F0 r) := by
 refine GCall_ofr (impl_GoodScreen_1.post sb s F0) [.tmp 2] (ud [.int .i64 p0] 9) Try.func145 rfl rfl rfl fun w Q hQr hQn hQp => ?_
 replace H := topE H
 unfold impl_GoodScreen_1.f at H
 dsimp only [ud, un]
 refine sr fun K1 hK1 => ag (HL_nil (hK1 _ _ ?_))
 dsimp only [putL, setL, evL, getL]
 refine sr fun K2 hK2 => mv (bn rfl rfl rfl (mv ?_))
 revert H
 refine it (fun hb3 H => ?_) (fun hb3 H => ?_)
 ·refine wf rfl rfl rfl rfl hb3 ?_
  dsimp only [putL, setL, evL, getL]
  refine wf rfl rfl rfl rfl hb3 (wf rfl rfl rfl rfl hb3 (hc (o_pickT rfl hb3 ?_)))
  dsimp only [putL, setL, evL, getL]
  refine ag (HL_nil (hK2 _ _ ?_))
  dsimp only [putL, setL, evL, getL]
  refine HT_ret ?_
  exact hQr _ _ [.bool true] _ ⟨rfl, trivial⟩ H ⟨rfl, hH⟩
 ·refine wt rfl rfl rfl rfl hb3 (o_move ?_)
  replace H := headE H
  obtain ⟨u4, hu4, H⟩ := H
  refine wt rfl rfl rfl rfl hb3 (o_call (args := #[.int .i64 p0]) Try.func146 rfl rfl rfl (impl_GoodRune.ok sb s no p0 (Hp.own hH.bs) _ hu4) ?_)
  rintro _ s4 ⟨rfl, hD⟩
  replace hH := hH.back0 hD (Up.refl _ _ _)
  clear hD
  refine wt rfl rfl rfl rfl hb3 (o_not rfl ?_)
  dsimp only [putL, setL, evL, getL]
  refine hc (o_pickF rfl hb3 (ag (HL_nil (hK2 _ _ ?_))))
  dsimp only [putL, setL, evL, getL]
  refine HT_ret ?_
  exact hQr _ _ [.bool (!u4)] _ ⟨rfl, trivial⟩ H ⟨rfl, hH⟩
def slices_IndexFunc_int_int_impl_GoodScreen_1.l1 (p0 : List (Int)) : Nat → Int → Option (Lo Unit Int)
 | 0, _ => none
 | kf + 1, x48 => if (decide (x48 < (p0.length : Int))) = true then ((rd? p0 x48).bind fun u67 => (impl_GoodScreen_1.f u67).bind fun u68 => if u68 = true then ((some x48).bind fun z => some (Lo.ret z)) else (slices_IndexFunc_int_int_impl_GoodScreen_1.l1 p0 kf (IntKind.i64.wrap (x48 + 1)))) else (some (Lo.go ()))
def slices_IndexFunc_int_int_impl_GoodScreen_1.f (p0 : List (Int)) : Option Int := (slices_IndexFunc_int_int_impl_GoodScreen_1.l1 p0 ((((p0.length : Int)) - (0)).toNat + 2) 0).bind fun (o : Lo Unit Int) => match o with | .go () => (some (-1)) | .ret z => some z
def slices_IndexFunc_int_int_impl_GoodScreen_1.post (sb s : St) (F0 : Fp) (r : Int) : Value → St → Prop := fun v s' => v = .int .i64 r ∧ Hp sb s F0 s' []
set_option maxRecDepth 100000 in
set_option maxHeartbeats 4000000 in
theorem slices_IndexFunc_int_int_impl_GoodScreen_1.ok (sb s : St) (F0 : Fp) (A0p : Option Addr) (c0p : Nat) (p0 : List (Int)) (HRp0 : Rd KI sb A0p c0p p0) (hH : Hp sb s F0 s []) (r : Int) (H : slices_IndexFunc_int_int_impl_GoodScreen_1.f p0 = some r) : GCall Try.prog 184 #[.slice A0p p0.length c0p, .func (.func 145) #[] #[]] s (slices_IndexFunc_int_int_impl_GoodScreen_1.post sb s F0 r) := by
 refine GCall_ofr (slices_IndexFunc_int_int_impl_GoodScreen_1.post sb s F0) [.tmp 4] (ud [.slice A0p p0.length c0p, .func (.func 145) #[] #[]] 17) Try.func184 rfl rfl rfl fun w Q hQr hQn hQp => ?_
 replace H := topE H
 unfold slices_IndexFunc_int_int_impl_GoodScreen_1.f at H
 dsimp only [ud, un]
 refine sr fun K1 hK1 => ag (HL_nil (hK1 _ _ ?_))
 dsimp only [putL, setL, evL, getL]
 refine HT_seq_k fun K2 hK2 => sr fun K3 hK3 => mv (hc (o_len rfl Try.underlying24 (mv (HL_nil (hK3 _ _ ?_)))))
 dsimp only [putL, setL, evL, getL]
 refine joinH H fun G4 hG4 H => ?_
 refine HT_toK (fun l' s' => G4 (.go ()) = some r ∧ skim [] l' = ([], 20) ∧ Hp sb s F0 s' []) ?_ ?_
 ·intro K4 hK4
  refine HT_block ?_
  refine HT_loopK (fun kf l' s' => ∃ (x48 : Int), (slices_IndexFunc_int_int_impl_GoodScreen_1.l1 p0 kf x48).bind G4 = some r ∧ skim [0, 0, 5, 0] l' = ([.slice A0p p0.length c0p, .func (.func 145) #[] #[], .int .i64 (p0.length : Int), .int .i64 x48], 11) ∧ Hp sb s F0 s' []) ((((p0.length : Int)) - (0)).toNat + 2) ⟨0, H, rfl, hH⟩ ?_
  rintro kf l' s60 ⟨x48, H, hl, hH⟩ K60 hK60
  revert l'
  refine skA ?_
  dsimp only [Al, Sk]
  intros
  cases kf with
  | zero => simp [slices_IndexFunc_int_int_impl_GoodScreen_1.l1] at H
  | succ kf =>
   rw [slices_IndexFunc_int_int_impl_GoodScreen_1.l1] at H
   refine sr fun K61 hK61 => bn rfl rfl rfl (HL_nil (hK61 _ _ ?_))
   dsimp only [putL, setL, evL, getL]
   refine HT_seq_k fun K62 hK62 => ?_
   revert H
   refine ct rfl (fun hb63 H => ?_) (fun hb63 H => ?_)
   ·refine HT_skip (hK62 _ _ (HT_seq_k fun K64 hK64 => (HT_block (sr fun K65 hK65 => (mv (ag (HL_nil (hK65 _ _ ?_))))))))
    dsimp only [putL, setL, evL, getL]
    refine sr fun K66 hK66 => mv (mv (mv ?_))
    replace H := headE H
    obtain ⟨u67, hu67, H⟩ := H
    obtain ⟨b67, o67, cs67, hr67, hh67, hel67⟩ := Rd.elb HRp0 hu67
    obtain rfl := hr67
    try dsimp only [putL, setL, evL, getL]
    refine hc (hel67 s60 rfl rfl Try.underlying24 tI3 (hc (o_load' rfl Try.underlying3 rfl ((hh67 hH.bs.mono) 0 _ rfl) ?_)))
    replace H := headE H
    obtain ⟨u68, hu68, H⟩ := H
    refine hc (o_callv (first := #[]) (cap := #[]) (args := #[.int .i64 u67]) rfl Try.func145 rfl rfl [.int .i64 u67] rfl (by simp) (impl_GoodScreen_1.ok sb s60 no u67 (Hp.own hH.bs) _ hu68) ?_)
    rintro _ s68 ⟨rfl, hD⟩
    replace hH := hH.back0 hD (Up.refl _ _ _)
    clear hD
    refine HL_nil (hK66 _ _ ?_)
    try dsimp only [putL, setL, evL, getL]
    revert H
    refine ct rfl (fun hb69 H => ?_) (fun hb69 H => ?_)
    ·refine sr fun K70 hK70 => mv (ag (HL_nil (hK70 _ _ ?_)))
     dsimp only [putL, setL, evL, getL]
     refine HT_ret ?_
     replace H := escH (fun z hz => hG4 _ hz) H
     exact hQr _ _ [.int .i64 x48] _ ⟨rfl, trivial⟩ H ⟨rfl, hH⟩
    ·refine HT_skip (hK64 _ _ ?_)
     refine HT_region ?_
     refine bn rfl rfl rfl (mv (HL_nil ?_))
     exact hK60 _ _ ⟨kf, Nat.lt_succ_self kf, IntKind.i64.wrap (x48 + 1), H, rfl, hH⟩
   ·refine HT_exit ?_
    exact hK4 _ _ ⟨H, rfl, hH⟩
 ·rintro l' s71 ⟨H, hl, hH⟩
  revert l'
  refine skA ?_
  dsimp only [Al, Sk]
  intros
  replace H := hG4 _ H
  try dsimp only at H
  refine hK2 _ _ ?_
  refine sr fun K72 hK72 => ag (HL_nil (hK72 _ _ ?_))
  dsimp only [putL, setL, evL, getL]
  refine HT_ret ?_
  exact hQr _ _ [.int .i64 (-1)] _ ⟨rfl, trivial⟩ H ⟨rfl, hH⟩
end Go.Proofs.Ytkieinlcpkpcjaa
