/- The functions that the law reaches, as plain functions, each with its contract: printed by a program of the prover's. No conditions: lemmas. -/
import Derived.Test.YtkieinlcpkpcjaaWLShown1
set_option linter.unusedVariables false
set_option linter.unusedSimpArgs false
namespace Go.Proofs.Ytkieinlcpkpcjaa
open Go Go.Proofs.GL
attribute [local irreducible] HL HT HX HK
def slices_Repeat_int_int.l1 (x25 : List (Int)) : Nat → (List (Int)) → Int → Option (List (Int))
 | 0, _, _ => none
 | kf + 1, x59, x60 => if (decide (x60 < (x25.length : Int))) = true then ((cut? x59 x60 (x59.length : Int)).bind fun x73 => (cut? x59 0 x60).bind fun x74 => (some (cpy x59 (Int.toNat x60) x73.length x74)).bind fun x75 => slices_Repeat_int_int.l1 x25 kf x75 (IntKind.i64.wrap (x60 + ((min x74.length x73.length : Nat) : Int)))) else (some x59)
def slices_Repeat_int_int.f (p0 : List (Int)) (p1 : Int) : Option (List (Int)) := if (decide (p1 < 0)) = true then none else ((bits_Mul.f (IntKind.u64.wrap (p0.length : Int)) (IntKind.u64.wrap p1)).bind fun u9 => (if (decide (u9.1 > 0)) = true then (some true) else (some (decide (u9.2 > 9223372036854775807)))).bind fun (o : Bool) => match o with | x20 => (if x20 = true then none else ((mk? 17592186044416 0 (IntKind.i64.wrap u9.2)).bind fun x25 => (some (cpy x25 (Int.toNat 0) x25.length p0)).bind fun x27 => (slices_Repeat_int_int.l1 x25 ((((x25.length : Int)) - (((min p0.length x25.length : Nat) : Int))).toNat + 2) x27 ((min p0.length x25.length : Nat) : Int)).bind fun (o : (List (Int))) => match o with | x52 => (some x52))))
def slices_Repeat_int_int.post (sb s : St) (F0 : Fp) (r : (List (Int))) : Value → St → Prop := fun v s' => ∃ (A0 : Option Addr) (c0 : Nat), v = .slice A0 r.length c0 ∧ Hp sb s F0 s' [Ck.ol OI 3 A0 c0 r]
set_option maxRecDepth 100000 in
set_option maxHeartbeats 4000000 in
theorem slices_Repeat_int_int.ok (sb s : St) (F0 : Fp) (A0p : Option Addr) (c0p : Nat) (p0 : List (Int)) (p1 : Int) (HRp0 : Rd KI sb A0p c0p p0) (hH : Hp sb s F0 s []) (r : (List (Int))) (H : slices_Repeat_int_int.f p0 p1 = some r) : GCall Try.prog 198 #[.slice A0p p0.length c0p, .int .i64 p1] s (slices_Repeat_int_int.post sb s F0 r) := by
 refine GCall_ofr (slices_Repeat_int_int.post sb s F0) [.tmp 4] (ud [.slice A0p p0.length c0p, .int .i64 p1] 46) Try.func198 rfl rfl rfl fun w Q hQr hQn hQp => ?_
 replace H := topE H
 unfold slices_Repeat_int_int.f at H
 dsimp only [ud, un]
 refine sr fun K1 hK1 => ag (HL_nil (hK1 _ _ ?_))
 dsimp only [putL, setL, evL, getL]
 refine HT_seq_k fun K5 hK5 => sr fun K6 hK6 => mv (bn rfl rfl rfl (HL_nil (hK6 _ _ ?_)))
 dsimp only [putL, setL, evL, getL]
 revert H
 refine ct rfl (fun hb7 H => ?_) (fun hb7 H => ?_)
 ·cases H
 ·refine HT_skip (hK5 _ _ (sr fun K8 hK8 => (mv (hc (o_len rfl Try.underlying24 (hc (o_conv rfl Try.underlying3 Try.underlying119 ?_)))))))
  dsimp only [putL, setL, evL, getL]
  refine mv (hc (o_conv rfl Try.underlying3 Try.underlying119 ?_))
  replace H := headE H
  obtain ⟨u9, hu9, H⟩ := H
  refine hc (o_call (args := #[.int .u64 (IntKind.u64.wrap (p0.length : Int)), .int .u64 (IntKind.u64.wrap p1)]) Try.func222 rfl rfl rfl (bits_Mul.ok sb s no (IntKind.u64.wrap (p0.length : Int)) (IntKind.u64.wrap p1) (Hp.own hH.bs) _ hu9) ?_)
  rintro _ s9 ⟨rfl, hD⟩
  replace hH := hH.back0 hD (Up.refl _ _ _)
  clear hD
  try dsimp only [putL, setL, evL, getL]
  refine mv (hc (o_extract rfl rfl (hc (o_extract rfl rfl ?_))))
  dsimp only [putL, setL, evL, getL]
  refine ag (ag (HL_nil (hK8 _ _ ?_)))
  dsimp only [putL, setL, evL, getL]
  refine HT_seq_k fun K17 hK17 => ?_
  refine joinH H fun G18 hG18 H => ?_
  refine HT_joinK (fun l' s' => ∃ (x20 : Bool), G18 x20 = some r ∧ skim [0, 5, 19] l' = ([.slice A0p p0.length c0p, .int .u64 u9.2, .bool x20], 22) ∧ Hp sb s F0 s' []) ?_ ?_
  ·intro K18 hK18
   refine HT_region ?_
   refine mv (bn rfl rfl rfl (mv ?_))
   revert H
   refine it (fun hb21 H => ?_) (fun hb21 H => ?_)
   ·refine wf rfl rfl rfl rfl hb21 ?_
    dsimp only [putL, setL, evL, getL]
    refine wf rfl rfl rfl rfl hb21 (hc (o_pickT rfl hb21 (HL_nil ?_)))
    exact hK18 _ _ ⟨true, H, rfl, hH⟩
   ·refine wt rfl rfl rfl rfl hb21 (o_move ?_)
    dsimp only [putL, setL, evL, getL]
    refine wt rfl rfl rfl rfl hb21 (o_bin rfl rfl rfl (hc (o_pickF rfl hb21 (HL_nil ?_))))
    exact hK18 _ _ ⟨decide (u9.2 > 9223372036854775807), H, rfl, hH⟩
  ·rintro l' s22 ⟨x20, H, hl, hH⟩
   revert l'
   refine skA ?_
   dsimp only [Al, Sk]
   intros
   replace H := hG18 _ H
   try dsimp only at H
   revert H
   refine ct rfl (fun hb23 H => ?_) (fun hb23 H => ?_)
   ·cases H
   ·refine HT_skip (hK17 _ _ (sr fun K24 hK24 => (mv ?_)))
    dsimp only [putL, setL, evL, getL]
    refine hc (o_conv rfl Try.underlying119 Try.underlying3 ?_)
    replace H := headE H
    obtain ⟨x25, hx25, H⟩ := H
    refine hc (o_makeH (K := KI) (O := OI) (x0 := 0) hH rfl Try.underlying24 tI3 rfl (by decide) (by decide) (by decide) (Own0.fl fun _ => rfl) hx25 ?_)
    clear hH
    intro A25 c25 s25 hH _
    refine ag (HL_nil (hK24 _ _ ?_))
    dsimp only [putL, setL, evL, getL]
    refine sr fun K26 hK26 => mv (mv ?_)
    replace H := headE H
    obtain ⟨x27, hx27, H⟩ := H
    refine hc (o_copyF (K := KI) (lo := Int.toNat 0) (n := x25.length) (ys := p0) hH 0 rfl rfl rfl rfl Try.underlying24 tI3 (.inl ⟨rfl, rfl⟩) (Nat.le_of_eq (Nat.zero_add _)) (HRp0.mono hH.bs.mono) hx27 ?_)
    clear hH
    intro s27 hH
    have hl27 := cpy_len (Nat.le_of_eq (Nat.zero_add _)) hx27
    try dsimp only [putL, setL, evL, getL]
    refine ag (HL_nil (hK26 _ _ ?_))
    dsimp only [putL, setL, evL, getL]
    refine joinH H fun G28 hG28 H => ?_
    refine HT_joinK (fun l' s' => ∃ (x52 : List (Int)), G28 x52 = some r ∧ skim [7] l' = ([.slice A25 x25.length c25], 41) ∧ Hp sb s F0 s' [Ck.ol OI 3 A25 c25 x52] ∧ x52.length = x25.length) ?_ ?_
    ·intro K28 hK28
     refine HT_block ?_
     refine HT_loopK (fun kf l' s' => ∃ (x59 : List (Int)) (x60 : Int), (slices_Repeat_int_int.l1 x25 kf x59 x60).bind G28 = some r ∧ skim [7, 0] l' = ([.slice A25 x25.length c25, .int .i64 x60], 40) ∧ Hp sb s F0 s' [Ck.ol OI 3 A25 c25 x59] ∧ x59.length = x25.length) ((((x25.length : Int)) - (((min p0.length x25.length : Nat) : Int))).toNat + 2) ⟨x27, ((min p0.length x25.length : Nat) : Int), H, rfl, hH, hl27⟩ ?_
     rintro kf l' s69 ⟨x59, x60, H, hl, hH, hl59⟩ K69 hK69
     revert l'
     refine skA ?_
     dsimp only [Al, Sk]
     intros
     cases kf with
     | zero => simp [slices_Repeat_int_int.l1] at H
     | succ kf =>
      rw [slices_Repeat_int_int.l1] at H
      refine HT_seq_k fun K70 hK70 => sr fun K71 hK71 => mv (mv (hc (o_len rfl Try.underlying24 ?_)))
      dsimp only [putL, setL, evL, getL]
      refine bn rfl rfl rfl (HL_nil (hK71 _ _ ?_))
      dsimp only [putL, setL, evL, getL]
      revert H
      refine ct rfl (fun hb72 H => ?_) (fun hb72 H => ?_)
      ·refine HT_skip (hK70 _ _ (HT_block ?_))
       refine HX_draw hMix ?_
       refine HX_lim (R := fun _ => True) (k := 0) (fun s' => Gro s69 s') 7 ?_
       have hR := Gro.refl s69
       have hH0 := hH
       refine HK_readP 0 (v := .int .i64 x60) rfl (by kernel_rfl) hQp rfl (fun s' K hK => o_move hK) rfl rfl (fun _ => hR) ?_
       try dsimp only [putL, setL, evL, getL]
       refine HK_readP 1 (v := .slice A25 x25.length c25) rfl (by kernel_rfl) hQp rfl (fun s' K hK => o_move hK) rfl rfl (fun _ => hR) ?_
       refine HK_readP 2 (v := .int .i64 x60) rfl (by kernel_rfl) hQp rfl (fun s' K hK => o_move hK) rfl rfl (fun _ => hR) ?_
       replace H := headE H
       obtain ⟨x73, hx73, H⟩ := H
       refine HK_readP 3 (v := .slice (cutA A25 c25 (Int.toNat x60) (Kd.sz KI)) x73.length (c25 - Int.toNat x60)) rfl (by kernel_rfl) hQp rfl (fun s' K hK => o_cutA (xs := x59) (kl := .i64) (kh := .i64) (L := x60) (H := (x59.length : Int)) (sliceLen hl59) rfl rfl Try.underlying24 tI3 (hH.rd 0 rfl).1 hx73 hK) rfl rfl (fun _ => hR) ?_
       have D73 := @Der.cut _ _ OI 3 A25 c25 _ _ _ _ hx73
       try dsimp only [putL, setL, evL, getL]
       refine HK_readP 4 (v := .slice A25 x25.length c25) rfl (by kernel_rfl) hQp rfl (fun s' K hK => o_move hK) rfl rfl (fun _ => hR) ?_
       refine HK_readP 5 (v := .int .i64 x60) rfl (by kernel_rfl) hQp rfl (fun s' K hK => o_move hK) rfl rfl (fun _ => hR) ?_
       replace H := headE H
       obtain ⟨x74, hx74, H⟩ := H
       refine HK_readP 6 (v := .slice (cutA A25 c25 (Int.toNat 0) (Kd.sz KI)) x74.length (c25 - Int.toNat 0)) rfl (by kernel_rfl) hQp rfl (fun s' K hK => o_cutA (xs := x59) (kl := .i64) (kh := .i64) (L := 0) (H := x60) (sliceLen hl59) rfl rfl Try.underlying24 tI3 (hH.rd 0 rfl).1 hx74 hK) rfl rfl (fun _ => hR) ?_
       have D74 := @Der.cut _ _ OI 3 A25 c25 _ _ _ _ hx74
       try dsimp only [putL, setL, evL, getL]
       refine HK_more [7] (by kernel_rfl) rfl (fun _ => hR) ⟨⟨_, rfl, Or.inl ⟨rfl, ?_⟩⟩, trivial⟩
       replace H := headE H
       obtain ⟨x75, hx75, H⟩ := H
       skip
       refine o_copyF (K := KI) (lo := Int.toNat x60) (n := x73.length) (ys := x74) hH 0 rfl rfl rfl rfl Try.underlying24 tI3 (.inr rfl) (cut?_room hx73) (D74 _ _ hH.bs (hH.ckP 0)) hx75 ?_
       clear hH
       intro s75 hH
       have hl75 := (cpy_len (cut?_room hx73) hx75).trans hl59
       refine HK_free (by kernel_rfl) ?_
       refine HX_lim (R := fun _ => True) (k := 0) (fun s' => Gro s75 s') 11 ?_
       have hR := Gro.refl s75
       have hH0 := hH
       try dsimp only [putL, setL, evL, getL]
       refine HK_readP 8 (v := .int .i64 (IntKind.i64.wrap (x60 + ((min x74.length x73.length : Nat) : Int)))) rfl (by kernel_rfl) hQp rfl (fun s' K hK => o_bin rfl rfl rfl hK) rfl rfl (fun _ => hR) ?_
       refine HK_more [9] (by kernel_rfl) rfl (fun _ => hR) ⟨⟨_, rfl, Or.inl ⟨rfl, ?_⟩⟩, trivial⟩
       skip
       refine o_assign ?_
       refine HK_done (fun _ => hR) (by kernel_rfl) ?_
       exact hK69 _ _ ⟨kf, Nat.lt_succ_self kf, x75, IntKind.i64.wrap (x60 + ((min x74.length x73.length : Nat) : Int)), H, rfl, hH, hl75⟩
      ·refine HT_exit ?_
       exact hK28 _ _ ⟨x59, H, rfl, hH, hl59⟩
    ·rintro l' s76 ⟨x52, H, hl, hH, hl52⟩
     revert l'
     refine skA ?_
     dsimp only [Al, Sk]
     intros
     replace H := hG28 _ H
     try dsimp only at H
     refine sr fun K77 hK77 => ?_
     try dsimp only [putL, setL, evL, getL]
     refine mv (ag (HL_nil (hK77 _ _ ?_)))
     dsimp only [putL, setL, evL, getL]
     refine HT_ret ?_
     exact hQr _ _ [.slice A25 x25.length c25] _ ⟨rfl, trivial⟩ H ⟨A25, c25, (by first | (rw [hl52]; first | done | rfl) | rfl), hH⟩
def slices_Grow_int_int_nil.f (p1 : Int) : Option (List (Int)) := if (decide (p1 < 0)) = true then none else ((if (decide ((IntKind.i64.wrap (p1 - (IntKind.i64.wrap (0 - 0)))) > 0)) = true then ((cut? ([] : List (Int)) 0 0).bind fun x19 => (mk? 17592186044416 0 (IntKind.i64.wrap (p1 - (IntKind.i64.wrap (0 - 0))))).bind fun x20 => (cut? x20 0 0).bind fun x21 => some x21) else (some [])).bind fun (o : (List (Int))) => match o with | x15 => (some x15))
def slices_Grow_int_int_nil.post (sb s : St) (F0 : Fp) (r : (List (Int))) : Value → St → Prop := fun v s' => ∃ (A0 : Option Addr) (c0 : Nat), v = .slice A0 r.length c0 ∧ Hp sb s F0 s' [Ck.ol OI 3 A0 c0 r]
set_option maxRecDepth 100000 in
set_option maxHeartbeats 4000000 in
theorem slices_Grow_int_int_nil.ok (sb s : St) (F0 : Fp) (p1 : Int) (hH : Hp sb s F0 s []) (r : (List (Int))) (H : slices_Grow_int_int_nil.f p1 = some r) : GCall Try.prog 219 #[.slice none 0 0, .int .i64 p1] s (slices_Grow_int_int_nil.post sb s F0 r) := by
 refine GCall_ofr (slices_Grow_int_int_nil.post sb s F0) [.tmp 4] (ud [.slice none 0 0, .int .i64 p1] 25) Try.func219 rfl rfl rfl fun w Q hQr hQn hQp => ?_
 replace H := topE H
 unfold slices_Grow_int_int_nil.f at H
 dsimp only [ud, un]
 refine sr fun K1 hK1 => ag (HL_nil (hK1 _ _ ?_))
 dsimp only [putL, setL, evL, getL]
 refine HT_seq_k fun K5 hK5 => sr fun K6 hK6 => mv (bn rfl rfl rfl (HL_nil (hK6 _ _ ?_)))
 dsimp only [putL, setL, evL, getL]
 revert H
 refine ct rfl (fun hb7 H => ?_) (fun hb7 H => ?_)
 ·cases H
 ·refine HT_skip (hK5 _ _ ?_)
  refine joinH H fun G8 hG8 H => ?_
  refine HT_joinK (fun l' s' => ∃ (x15 : List (Int)) (A15 : Option Addr) (c15 : Nat), G8 x15 = some r ∧ skim [0] l' = ([.slice A15 x15.length c15], 27) ∧ Hp sb s F0 s' [Ck.ol OI 3 A15 c15 x15]) ?_ ?_
  ·intro K8 hK8
   refine sr fun K16 hK16 => mv (mv (hc (o_cap rfl Try.underlying24 ?_)))
   dsimp only [putL, setL, evL, getL]
   refine mv (hc (o_len rfl Try.underlying24 (bn rfl rfl rfl ?_)))
   dsimp only [putL, setL, evL, getL]
   refine bn rfl rfl rfl (ag (HL_nil (hK16 _ _ ?_)))
   dsimp only [putL, setL, evL, getL]
   refine sr fun K17 hK17 => mv (bn rfl rfl rfl (HL_nil (hK17 _ _ ?_)))
   dsimp only [putL, setL, evL, getL]
   revert H
   refine ct rfl (fun hb18 H => ?_) (fun hb18 H => ?_)
   ·refine HT_region ?_
    refine mv (mv (hc (o_cap rfl Try.underlying24 ?_)))
    replace H := headE H
    obtain ⟨x19, hx19, H⟩ := H
    obtain rfl := cut?_nil hx19
    try dsimp only [putL, setL, evL, getL]
    refine hc (o_cutA (xs := ([] : List (Int))) (kl := .i64) (kh := .i64) (L := 0) (H := 0) rfl rfl rfl Try.underlying24 tI3 (Nat.le_refl 0) (ys := []) hx19 (mv ?_))
    replace H := headE H
    obtain ⟨x20, hx20, H⟩ := H
    refine hc (o_appM (K := KI) (O := OI) (x0 := 0) hH rfl rfl Try.underlying24 Try.underlying3 tI3 rfl (by decide) (by decide) (by decide) (Own0.fl fun _ => rfl) hx20 ?_)
    clear hH
    intro A20 c20 s20 hH _
    try dsimp only [putL, setL, evL, getL]
    refine mv (hc (o_len rfl Try.underlying24 ?_))
    replace H := headE H
    obtain ⟨x21, hx21, H⟩ := H
    refine hc (o_cutA (xs := x20) (kl := .i64) (kh := .i64) (L := 0) (H := 0) rfl rfl rfl Try.underlying24 tI3 (hH.rd 0 rfl).1 hx21 ?_)
    have D21 := @Der.cut _ _ OI 3 A20 c20 _ _ _ _ hx21
    try dsimp only [putL, setL, evL, getL]
    refine ag (HL_nil ?_)
    exact hK8 _ _ ⟨x21, (cutA A20 c20 (Int.toNat 0) (Kd.sz KI)), c20 - Int.toNat 0, H, rfl, (hH.cut 0 rfl rfl hx21)⟩
   ·refine HT_skip ?_
    exact hK8 _ _ ⟨[], none, 0, H, rfl, (hH.nil (K := KI) OI 3)⟩
  ·rintro l' s22 ⟨x15, A15, c15, H, hl, hH⟩
   revert l'
   refine skA ?_
   dsimp only [Al, Sk]
   intros
   replace H := hG8 _ H
   try dsimp only at H
   refine sr fun K23 hK23 => mv (ag (HL_nil (hK23 _ _ ?_)))
   dsimp only [putL, setL, evL, getL]
   refine HT_ret ?_
   exact hQr _ _ [.slice A15 x15.length c15] _ ⟨rfl, trivial⟩ H ⟨A15, c15, rfl, hH⟩
def slices_Concat_int_int.l1 (p0 : List (List (Int))) : Nat → Int → Int → Option Int
 | 0, _, _ => none
 | kf + 1, x80, x81 => if (decide (x81 < (p0.length : Int))) = true then ((rd? p0 x81).bind fun u114 => if (decide ((IntKind.i64.wrap (x80 + (u114.length : Int))) < 0)) = true then none else (slices_Concat_int_int.l1 p0 kf (IntKind.i64.wrap (x80 + (u114.length : Int))) (IntKind.i64.wrap (x81 + 1)))) else (some x80)
def slices_Concat_int_int.l2 (p0 : List (List (Int))) : Nat → (List (Int)) → Int → Option (List (Int))
 | 0, _, _ => none
 | kf + 1, x164, x165 => if (decide (x165 < (p0.length : Int))) = true then ((rd? p0 x165).bind fun u182 => (app? 17592186044416 x164 u182).bind fun x184 => slices_Concat_int_int.l2 p0 kf x184 (IntKind.i64.wrap (x165 + 1))) else (some x164)
def slices_Concat_int_int.f (p0 : List (List (Int))) : Option (List (Int)) := (slices_Concat_int_int.l1 p0 ((((p0.length : Int)) - (0)).toNat + 2) 0 0).bind fun (o : Int) => match o with | x62 => ((slices_Grow_int_int_nil.f x62).bind fun u121 => (slices_Concat_int_int.l2 p0 ((((p0.length : Int)) - (0)).toNat + 2) u121 0).bind fun (o : (List (Int))) => match o with | x155 => (some x155))
def slices_Concat_int_int.post (sb s : St) (F0 : Fp) (r : (List (Int))) : Value → St → Prop := fun v s' => ∃ (A0 : Option Addr) (c0 : Nat), v = .slice A0 r.length c0 ∧ Hp sb s F0 s' [Ck.ol OI 3 A0 c0 r]
set_option maxRecDepth 100000 in
set_option maxHeartbeats 4000000 in
theorem slices_Concat_int_int.ok (sb s : St) (F0 : Fp) (A0p : Option Addr) (c0p : Nat) (p0 : List (List (Int))) (HRp0 : Rd (Kd.sl KI) sb A0p c0p p0) (hH : Hp sb s F0 s []) (r : (List (Int))) (H : slices_Concat_int_int.f p0 = some r) : GCall Try.prog 185 #[.slice A0p p0.length c0p] s (slices_Concat_int_int.post sb s F0 r) := by
 refine GCall_ofr (slices_Concat_int_int.post sb s F0) [.tmp 2] (ud [.slice A0p p0.length c0p] 35) Try.func185 rfl rfl rfl fun w Q hQr hQn hQp => ?_
 replace H := topE H
 unfold slices_Concat_int_int.f at H
 dsimp only [ud, un]
 refine sr fun K1 hK1 => ag (HL_nil (hK1 _ _ ?_))
 dsimp only [putL, setL, evL, getL]
 refine sr fun K2 hK2 => ag (HL_nil (hK2 _ _ ?_))
 dsimp only [putL, setL, evL, getL]
 refine HT_seq_k fun K3 hK3 => sr fun K4 hK4 => mv (hc (o_len rfl Try.underlying105 (mv (HL_nil (hK4 _ _ ?_)))))
 dsimp only [putL, setL, evL, getL]
 refine joinH H fun G5 hG5 H => ?_
 refine HT_toK (fun l' s' => ∃ (x62 : Int), G5 x62 = some r ∧ skim [0, 2] l' = ([.slice A0p p0.length c0p, .int .i64 x62], 33) ∧ Hp sb s F0 s' []) ?_ ?_
 ·intro K5 hK5
  refine HT_block ?_
  refine HT_loopK (fun kf l' s' => ∃ (x80 : Int) (x81 : Int), (slices_Concat_int_int.l1 p0 kf x80 x81).bind G5 = some r ∧ skim [0, 2, 5, 0, 0] l' = ([.slice A0p p0.length c0p, .int .i64 x80, .slice A0p p0.length c0p, .int .i64 (p0.length : Int), .int .i64 x81], 25) ∧ Hp sb s F0 s' []) ((((p0.length : Int)) - (0)).toNat + 2) ⟨0, 0, H, rfl, hH⟩ ?_
  rintro kf l' s101 ⟨x80, x81, H, hl, hH⟩ K101 hK101
  revert l'
  refine skA ?_
  dsimp only [Al, Sk]
  intros
  cases kf with
  | zero => simp [slices_Concat_int_int.l1] at H
  | succ kf =>
   rw [slices_Concat_int_int.l1] at H
   refine sr fun K102 hK102 => bn rfl rfl rfl (HL_nil (hK102 _ _ ?_))
   dsimp only [putL, setL, evL, getL]
   refine HT_seq_k fun K103 hK103 => ?_
   revert H
   refine ct rfl (fun hb104 H => ?_) (fun hb104 H => ?_)
   ·refine HT_skip (hK103 _ _ (HT_seq_k fun K112 hK112 => (HT_block (sr fun K113 hK113 => ?_))))
    replace H := headE H
    obtain ⟨u114, hu114, H⟩ := H
    obtain ⟨b114, o114, cs114, hr114, hh114, hel114⟩ := Rd.elb HRp0 hu114
    obtain ⟨A115, c115, rfl, D115⟩ := hr114
    refine hc (hel114 s101 rfl rfl Try.underlying105 tI24 (hc (o_load' rfl Try.underlying24 rfl ((hh114 hH.bs.mono) 0 _ rfl) (ag (HL_nil (hK113 _ _ ?_))))))
    dsimp only [putL, setL, evL, getL]
    refine sr fun K116 hK116 => mv (mv (hc (o_len rfl Try.underlying24 ?_)))
    dsimp only [putL, setL, evL, getL]
    refine bn rfl rfl rfl (ag (HL_nil (hK116 _ _ ?_)))
    dsimp only [putL, setL, evL, getL]
    refine sr fun K117 hK117 => mv (bn rfl rfl rfl (HL_nil (hK117 _ _ ?_)))
    dsimp only [putL, setL, evL, getL]
    revert H
    refine ct rfl (fun hb118 H => ?_) (fun hb118 H => ?_)
    ·cases H
    ·refine HT_skip (hK112 _ _ ?_)
     refine HT_region ?_
     refine bn rfl rfl rfl (mv (HL_nil ?_))
     exact hK101 _ _ ⟨kf, Nat.lt_succ_self kf, IntKind.i64.wrap (x80 + (u114.length : Int)), IntKind.i64.wrap (x81 + 1), H, rfl, hH⟩
   ·refine HT_exit ?_
    exact hK5 _ _ ⟨x80, H, rfl, hH⟩
 ·rintro l' s119 ⟨x62, H, hl, hH⟩
  revert l'
  refine skA ?_
  dsimp only [Al, Sk]
  intros
  replace H := hG5 _ H
  try dsimp only at H
  refine hK3 _ _ ?_
  refine sr fun K120 hK120 => mv ?_
  replace H := headE H
  obtain ⟨u121, hu121, H⟩ := H
  try dsimp only [putL, setL, evL, getL]
  refine hc (o_call (args := #[.slice none 0 0, .int .i64 x62]) Try.func219 rfl rfl rfl (slices_Grow_int_int_nil.ok sb s119 no x62 (Hp.own hH.bs) _ hu121) ?_)
  rintro _ s121 ⟨A122, c122, rfl, hD⟩
  replace hH := hH.back0 hD (Up.refl _ _ _)
  clear hD
  refine ag (HL_nil (hK120 _ _ ?_))
  dsimp only [putL, setL, evL, getL]
  refine HT_seq_k fun K123 hK123 => sr fun K124 hK124 => mv (hc (o_len rfl Try.underlying105 (mv (HL_nil (hK124 _ _ ?_)))))
  dsimp only [putL, setL, evL, getL]
  refine joinH H fun G125 hG125 H => ?_
  refine HT_toK (fun l' s' => ∃ (x155 : List (Int)) (A155 : Option Addr) (c155 : Nat), G125 x155 = some r ∧ skim [6] l' = ([.slice A155 x155.length c155], 30) ∧ Hp sb s F0 s' [Ck.ol OI 3 A155 c155 x155]) ?_ ?_
  ·intro K125 hK125
   refine HT_block ?_
   refine HT_loopK (fun kf l' s' => ∃ (x164 : List (Int)) (A164 : Option Addr) (c164 : Nat) (x165 : Int), (slices_Concat_int_int.l2 p0 kf x164 x165).bind G125 = some r ∧ skim [6, 18, 0, 0] l' = ([.slice A164 x164.length c164, .slice A0p p0.length c0p, .int .i64 (p0.length : Int), .int .i64 x165], 9) ∧ Hp sb s F0 s' [Ck.ol OI 3 A164 c164 x164]) ((((p0.length : Int)) - (0)).toNat + 2) ⟨u121, A122, c122, 0, H, rfl, hH⟩ ?_
   rintro kf l' s176 ⟨x164, A164, c164, x165, H, hl, hH⟩ K176 hK176
   revert l'
   refine skA ?_
   dsimp only [Al, Sk]
   intros
   cases kf with
   | zero => simp [slices_Concat_int_int.l2] at H
   | succ kf =>
    rw [slices_Concat_int_int.l2] at H
    refine sr fun K177 hK177 => bn rfl rfl rfl (HL_nil (hK177 _ _ ?_))
    dsimp only [putL, setL, evL, getL]
    refine HT_seq_k fun K178 hK178 => ?_
    revert H
    refine ct rfl (fun hb179 H => ?_) (fun hb179 H => ?_)
    ·refine HT_skip (hK178 _ _ (HT_seq_k fun K180 hK180 => (HT_block (sr fun K181 hK181 => ?_))))
     replace H := headE H
     obtain ⟨u182, hu182, H⟩ := H
     obtain ⟨b182, o182, cs182, hr182, hh182, hel182⟩ := Rd.elb HRp0 hu182
     obtain ⟨A183, c183, rfl, D183⟩ := hr182
     refine hc (hel182 s176 rfl rfl Try.underlying105 tI24 (hc (o_load' rfl Try.underlying24 rfl ((hh182 hH.bs.mono) 0 _ rfl) (ag (HL_nil (hK181 _ _ ?_))))))
     dsimp only [putL, setL, evL, getL]
     refine HT_region ?_
     refine mv (mv ?_)
     replace H := headE H
     obtain ⟨x184, hx184, H⟩ := H
     refine hc (o_appF (K := KI) (n := 17592186044416) (A := A164) (c := c164) (xs := x164) (ys := u182) (B := A183) (c2 := c183) hH 0 rfl rfl rfl rfl Try.underlying24 tI3 rfl (by decide) (by decide) (by decide) (Src.flat (D183.mono hH.bs.mono)) hx184 ?_)
     clear hH
     intro A184 c184 s184 hH
     try dsimp only [putL, setL, evL, getL]
     refine ag (HL_nil (hK180 _ _ ?_))
     dsimp only [putL, setL, evL, getL]
     refine HT_region ?_
     refine bn rfl rfl rfl (mv (HL_nil ?_))
     exact hK176 _ _ ⟨kf, Nat.lt_succ_self kf, x184, A184, c184, IntKind.i64.wrap (x165 + 1), H, rfl, hH⟩
    ·refine HT_exit ?_
     exact hK125 _ _ ⟨x164, A164, c164, H, rfl, hH⟩
  ·rintro l' s185 ⟨x155, A155, c155, H, hl, hH⟩
   revert l'
   refine skA ?_
   dsimp only [Al, Sk]
   intros
   replace H := hG125 _ H
   try dsimp only at H
   refine hK123 _ _ ?_
   refine sr fun K186 hK186 => mv ?_
   dsimp only [putL, setL, evL, getL]
   refine ag (HL_nil (hK186 _ _ ?_))
   dsimp only [putL, setL, evL, getL]
   refine HT_ret ?_
   exact hQr _ _ [.slice A155 x155.length c155] _ ⟨rfl, trivial⟩ H ⟨A155, c155, rfl, hH⟩
def impl_Screen_down.f (p0_0 : Int) (p0_1 : Int) (p0_2 : List (Int)) (p0_3 : Int) (p0_4 : Int) : Option ((List (Int)) × Int × Int) := if (decide (p0_4 < (IntKind.i64.wrap (p0_1 - 1)))) = true then (some (p0_2, 0, (IntKind.i64.wrap (p0_4 + 1)))) else ((cut? p0_2 p0_0 (p0_2.length : Int)).bind fun x8 => (slices_Repeat_int_int.f [32] p0_0).bind fun u10 => (slices_Concat_int_int.f [x8, u10]).bind fun u16 => some (u16, 0, p0_4))
def impl_Screen_down.post (sb s : St) (F0 : Fp) (bp0 : Nat) (p0_0 : Int) (p0_1 : Int) (r : (List (Int)) × Int × Int) : Value → St → Prop := fun v s' => ∃ (A0 : Option Addr) (c0 : Nat), v = .tuple #[] ∧ Hp sb s F0 s' [Ck.ol OI 3 A0 c0 r.1, Ck.ov bp0 [.int .i64 p0_0, .int .i64 p0_1, .slice A0 r.1.length c0, .int .i64 r.2.1, .int .i64 r.2.2] 66]
set_option maxRecDepth 100000 in
set_option maxHeartbeats 4000000 in
theorem impl_Screen_down.ok (sb s : St) (F0 : Fp) (bp0 : Nat) (p0_0 : Int) (p0_1 : Int) (A0_2p : Option Addr) (c0_2p : Nat) (p0_2 : List (Int)) (p0_3 : Int) (p0_4 : Int) (hH : Hp sb s F0 s [Ck.ov bp0 [.int .i64 p0_0, .int .i64 p0_1, .slice A0_2p p0_2.length c0_2p, .int .i64 p0_3, .int .i64 p0_4] 66, Ck.ol OI 3 A0_2p c0_2p p0_2]) (r : (List (Int)) × Int × Int) (H : impl_Screen_down.f p0_0 p0_1 p0_2 p0_3 p0_4 = some r) : GCall Try.prog 196 #[.pointer (some ⟨bp0, 0, none⟩)] s (impl_Screen_down.post sb s F0 bp0 p0_0 p0_1 r) := by
 refine GCall_ofr (impl_Screen_down.post sb s F0 bp0 p0_0 p0_1) [] (ud [.pointer (some ⟨bp0, 0, none⟩)] 41) Try.func196 rfl rfl rfl fun w Q hQr hQn hQp => ?_
 replace H := topE H
 unfold impl_Screen_down.f at H
 dsimp only [ud, un]
 refine sr fun K1 hK1 => mv (hc (o_nilck rfl (hc (o_faddr' (ft := 3) (off := 3) rfl Try.underlying66 rfl tI3 (by decide) ?_))))
 dsimp only [putL, setL, evL, getL]
 refine hc (o_stvH (vs := [.int .i64 0]) (us' := [.int .i64 p0_0, .int .i64 p0_1, .slice A0_2p p0_2.length c0_2p, .int .i64 0, .int .i64 p0_4]) hH 0 rfl rfl rfl rfl rfl tI3 rfl (List.cons_ne_nil _ _) rfl rfl rfl ?_)
 clear hH
 intro s2 hH
 refine HL_nil (hK1 _ _ ?_)
 try dsimp only [putL, setL, evL, getL]
 refine HT_seq_k fun K3 hK3 => ?_
 refine sx hMix fun K4 hK4 => ?_
 refine HX_lim (R := fun _ => True) (k := 0) (fun s' => Gro s2 s') 11 ?_
 have hR := Gro.refl s2
 have hH0 := hH
 refine HK_readP 0 (v := .pointer (some ⟨bp0, 0, none⟩)) rfl (by kernel_rfl) hQp rfl (fun s' K hK => o_move hK) rfl rfl (fun _ => hR) ?_
 refine HK_readP 1 (v := .pointer (some ⟨bp0, 0, none⟩)) rfl (by kernel_rfl) hQp rfl (fun s' K hK => o_nilck rfl hK) rfl rfl (fun _ => hR) ?_
 try dsimp only [putL, setL, evL, getL]
 refine HK_readP 2 (v := .pointer (some ⟨bp0, 0 + 4, none⟩)) rfl (by kernel_rfl) hQp rfl (fun s' K hK => o_faddr' (ft := 3) (off := 4) rfl Try.underlying66 rfl tI3 (by decide) hK) rfl rfl (fun _ => hR) ?_
 refine HK_read 3 (v := .int .i64 p0_4) rfl (by kernel_rfl) hQp rfl (fun s' hR' K hK => o_load' rfl Try.underlying3 rfl (has_gro hR' (hH0.hasv 0 rfl rfl)) hK) rfl rfl hR ?_
 refine HK_readP 4 (v := .pointer (some ⟨bp0, 0, none⟩)) rfl (by kernel_rfl) hQp rfl (fun s' K hK => o_move hK) rfl rfl (fun _ => hR) ?_
 try dsimp only [putL, setL, evL, getL]
 refine HK_readP 5 (v := .pointer (some ⟨bp0, 0, none⟩)) rfl (by kernel_rfl) hQp rfl (fun s' K hK => o_nilck rfl hK) rfl rfl (fun _ => hR) ?_
 refine HK_readP 6 (v := .pointer (some ⟨bp0, 0 + 1, none⟩)) rfl (by kernel_rfl) hQp rfl (fun s' K hK => o_faddr' (ft := 3) (off := 1) rfl Try.underlying66 rfl tI3 (by decide) hK) rfl rfl (fun _ => hR) ?_
 refine HK_read 7 (v := .int .i64 p0_1) rfl (by kernel_rfl) hQp rfl (fun s' hR' K hK => o_load' rfl Try.underlying3 rfl (has_gro hR' (hH0.hasv 0 rfl rfl)) hK) rfl rfl hR ?_
 try dsimp only [putL, setL, evL, getL]
 refine HK_readP 8 (v := .int .i64 (IntKind.i64.wrap (p0_1 - 1))) rfl (by kernel_rfl) hQp rfl (fun s' K hK => o_bin rfl rfl rfl hK) rfl rfl (fun _ => hR) ?_
 refine HK_readP 9 (v := .bool (decide (p0_4 < (IntKind.i64.wrap (p0_1 - 1))))) rfl (by kernel_rfl) hQp rfl (fun s' K hK => o_bin rfl rfl rfl hK) rfl rfl (fun _ => hR) ?_
 refine HK_done (fun _ => hR) (by kernel_rfl) ?_
 refine hK4 _ _ ?_
 try dsimp only [putL, setL, evL, getL]
 revert H
 refine ct rfl (fun hb5 H => ?_) (fun hb5 H => ?_)
 ·refine sr fun K6 hK6 => mv (hc (o_nilck rfl (hc (o_faddr' (ft := 3) (off := 4) rfl Try.underlying66 rfl tI3 (by decide) ?_))))
  dsimp only [putL, setL, evL, getL]
  refine hc (o_load' rfl Try.underlying3 rfl (hH.hasv 0 rfl rfl) (bn rfl rfl rfl (hc (o_nilck rfl ?_))))
  dsimp only [putL, setL, evL, getL]
  refine hc (o_faddr' (ft := 3) (off := 4) rfl Try.underlying66 rfl tI3 (by decide) (hc (o_stvH (vs := [.int .i64 (IntKind.i64.wrap (p0_4 + 1))]) (us' := [.int .i64 p0_0, .int .i64 p0_1, .slice A0_2p p0_2.length c0_2p, .int .i64 0, .int .i64 (IntKind.i64.wrap (p0_4 + 1))]) hH 0 rfl rfl rfl rfl rfl tI3 rfl (List.cons_ne_nil _ _) rfl rfl rfl ?_)))
  clear hH
  intro s7 hH
  refine HL_nil (hK6 _ _ ?_)
  try dsimp only [putL, setL, evL, getL]
  refine HT_ret ?_
  exact hQr _ _ [] _ trivial H ⟨A0_2p, c0_2p, rfl, hH.sel [1, 0] (by decide)⟩
 ·refine HT_skip (hK3 _ _ ?_)
  refine HX_draw hMix ?_
  refine HX_lim (R := fun _ => True) (k := 0) (fun s' => Gro s2 s') 20 ?_
  have hR := Gro.refl s2
  have hH0 := hH
  refine HK_readP 1 (v := .pointer (some ⟨bp0, 0, none⟩)) rfl (by kernel_rfl) hQp rfl (fun s' K hK => o_move hK) rfl rfl (fun _ => hR) ?_
  try dsimp only [putL, setL, evL, getL]
  refine HK_readP 2 (v := .pointer (some ⟨bp0, 0, none⟩)) rfl (by kernel_rfl) hQp rfl (fun s' K hK => o_nilck rfl hK) rfl rfl (fun _ => hR) ?_
  refine HK_readP 3 (v := .pointer (some ⟨bp0, 0 + 2, none⟩)) rfl (by kernel_rfl) hQp rfl (fun s' K hK => o_faddr' (ft := 24) (off := 2) rfl Try.underlying66 rfl tI24 (by decide) hK) rfl rfl (fun _ => hR) ?_
  refine HK_read 4 (v := .slice A0_2p p0_2.length c0_2p) rfl (by kernel_rfl) hQp rfl (fun s' hR' K hK => o_load' rfl Try.underlying24 rfl (has_gro hR' (hH0.hasv 0 rfl rfl)) hK) rfl rfl hR ?_
  try dsimp only [putL, setL, evL, getL]
  refine HK_readP 5 (v := .pointer (some ⟨bp0, 0, none⟩)) rfl (by kernel_rfl) hQp rfl (fun s' K hK => o_move hK) rfl rfl (fun _ => hR) ?_
  refine HK_readP 6 (v := .pointer (some ⟨bp0, 0, none⟩)) rfl (by kernel_rfl) hQp rfl (fun s' K hK => o_nilck rfl hK) rfl rfl (fun _ => hR) ?_
  refine HK_readP 7 (v := .pointer (some ⟨bp0, 0 + 0, none⟩)) rfl (by kernel_rfl) hQp rfl (fun s' K hK => o_faddr' (ft := 3) (off := 0) rfl Try.underlying66 rfl tI3 (by decide) hK) rfl rfl (fun _ => hR) ?_
  try dsimp only [putL, setL, evL, getL]
  refine HK_read 8 (v := .int .i64 p0_0) rfl (by kernel_rfl) hQp rfl (fun s' hR' K hK => o_load' rfl Try.underlying3 rfl (has_gro hR' (hH0.hasv 0 rfl rfl)) hK) rfl rfl hR ?_
  replace H := headE H
  obtain ⟨x8, hx8, H⟩ := H
  refine HK_readP 9 (v := .slice (cutA A0_2p c0_2p (Int.toNat p0_0) (Kd.sz KI)) x8.length (c0_2p - Int.toNat p0_0)) rfl (by kernel_rfl) hQp rfl (fun s' K hK => o_cutA (xs := p0_2) (kl := .i64) (kh := .i64) (L := p0_0) (H := (p0_2.length : Int)) rfl rfl rfl Try.underlying24 tI3 (hH.rd 1 rfl).1 hx8 hK) rfl rfl (fun _ => hR) ?_
  have D8 := @Der.cut _ _ OI 3 A0_2p c0_2p _ _ _ _ hx8
  refine HK_readP 11 (v := .pointer (some ⟨bp0, 0, none⟩)) rfl (by kernel_rfl) hQp rfl (fun s' K hK => o_move hK) rfl rfl (fun _ => hR) ?_
  try dsimp only [putL, setL, evL, getL]
  refine HK_readP 12 (v := .pointer (some ⟨bp0, 0, none⟩)) rfl (by kernel_rfl) hQp rfl (fun s' K hK => o_nilck rfl hK) rfl rfl (fun _ => hR) ?_
  refine HK_readP 13 (v := .pointer (some ⟨bp0, 0 + 0, none⟩)) rfl (by kernel_rfl) hQp rfl (fun s' K hK => o_faddr' (ft := 3) (off := 0) rfl Try.underlying66 rfl tI3 (by decide) hK) rfl rfl (fun _ => hR) ?_
  refine HK_read 14 (v := .int .i64 p0_0) rfl (by kernel_rfl) hQp rfl (fun s' hR' K hK => o_load' rfl Try.underlying3 rfl (has_gro hR' (hH0.hasv 0 rfl rfl)) hK) rfl rfl hR ?_
  try dsimp only [putL, setL, evL, getL]
  refine HK_readP 0 (v := .pointer (some ⟨bp0, 0, none⟩)) rfl (by kernel_rfl) hQp rfl (fun s' K hK => o_move hK) rfl rfl (fun _ => hR) ?_
  refine HK_more [10] (by kernel_rfl) rfl (fun _ => hR) ⟨⟨_, rfl, Or.inl ⟨rfl, ?_⟩⟩, trivial⟩
  skip
  refine o_litF (K := KI) (O := OI) (ca := #[.int .i64 32]) [[.int .i64 32]] [32] hH Try.underlying24 tI3 rfl (by decide) rfl rfl (by kernel_rfl) rfl ⟨rfl, Ent.own (Ent.flat rfl), trivial⟩ ?_
  clear hH
  intro A9 s9 hH hG
  replace hR := hR.trans hG
  refine HK_more [15] (by kernel_rfl) rfl (fun _ => hR) ⟨⟨_, rfl, Or.inl ⟨rfl, ?_⟩⟩, trivial⟩
  replace H := headE H
  obtain ⟨u10, hu10, H⟩ := H
  skip
  refine o_call (args := #[.slice A9 [32].length 1, .int .i64 p0_0]) Try.func198 rfl rfl rfl (slices_Repeat_int_int.ok s9 s9 no A9 1 [32] p0_0 (hH.rd 2 rfl) (Hp.own (Bs.refl s9)) _ hu10) ?_
  rintro _ s10 ⟨A11, c11, rfl, hD⟩
  replace hR := hR.trans hD.gro
  replace hH := hH.back0T hD
  clear hD
  try dsimp only [putL, setL, evL, getL]
  refine HK_more [16] (by kernel_rfl) rfl (fun _ => hR) ⟨⟨_, rfl, Or.inl ⟨rfl, ?_⟩⟩, trivial⟩
  replace hH := hH.cut 1 rfl rfl hx8
  obtain ⟨sb14, hU14, D14, hH⟩ := hH.freeze 1 rfl rfl
  obtain ⟨sb15, hU15, D15, hH⟩ := hH.freeze 3 rfl rfl
  skip
  refine o_litF (K := (Kd.sl KI)) (O := (Ow.lent (Kd.sl KI))) (ca := #[.slice (cutA A0_2p c0_2p (Int.toNat p0_0) (Kd.sz KI)) x8.length (c0_2p - Int.toNat p0_0), .slice A11 u10.length c11]) [[.slice (cutA A0_2p c0_2p (Int.toNat p0_0) (Kd.sz KI)) x8.length (c0_2p - Int.toNat p0_0)], [.slice A11 u10.length c11]] [x8, u10] hH Try.underlying105 tI24 rfl (by decide) rfl rfl (by kernel_rfl) rfl ⟨rfl, Ent.own (Ent.lent ⟨_, _, rfl, (D14.mono hU15.bs.mono)⟩), rfl, Ent.own (Ent.lent ⟨_, _, rfl, D15⟩), trivial⟩ ?_
  clear hH
  intro A12 s12 hH hG
  replace hR := hR.trans hG
  refine HK_more [17] (by kernel_rfl) rfl (fun _ => hR) ⟨⟨_, rfl, Or.inl ⟨rfl, ?_⟩⟩, trivial⟩
  replace H := headE H
  obtain ⟨u16, hu16, H⟩ := H
  skip
  refine o_call (args := #[.slice A12 [x8, u10].length 2]) Try.func185 rfl rfl rfl (slices_Concat_int_int.ok s12 s12 no A12 2 [x8, u10] (hH.rd 4 rfl) (Hp.own (Bs.refl s12)) _ hu16) ?_
  rintro _ s16 ⟨A17, c17, rfl, hD⟩
  replace hR := hR.trans hD.gro
  replace hH := hH.back0T hD
  clear hD
  refine HK_readP 18 (v := .pointer (some ⟨bp0, 0, none⟩)) rfl (by kernel_rfl) hQp rfl (fun s' K hK => o_nilck rfl hK) rfl rfl (fun _ => hR) ?_
  try dsimp only [putL, setL, evL, getL]
  refine HK_readP 19 (v := .pointer (some ⟨bp0, 0 + 2, none⟩)) rfl (by kernel_rfl) hQp rfl (fun s' K hK => o_faddr' (ft := 24) (off := 2) rfl Try.underlying66 rfl tI24 (by decide) hK) rfl rfl (fun _ => hR) ?_
  refine HK_more [20] (by kernel_rfl) rfl (fun _ => hR) ⟨⟨_, rfl, Or.inl ⟨rfl, ?_⟩⟩, trivial⟩
  skip
  refine o_stvH (vs := [.slice A17 u16.length c17]) (us' := [.int .i64 p0_0, .int .i64 p0_1, .slice A17 u16.length c17, .int .i64 0, .int .i64 p0_4]) hH 0 rfl rfl rfl rfl rfl tI24 rfl (List.cons_ne_nil _ _) rfl rfl rfl ?_
  clear hH
  intro s18 hH
  refine HK_free (by kernel_rfl) ?_
  try dsimp only [putL, setL, evL, getL]
  refine HX_done (by kernel_rfl) ?_
  replace hH := hH.drop 4 rfl
  dsimp only [addC, setC, rmC, selC, getC] at hH
  replace hH : Hp sb s F0 s18 [Ck.ov bp0 [.int .i64 p0_0, .int .i64 p0_1, .slice A17 u16.length c17, .int .i64 0, .int .i64 p0_4] 66, Ck.emp, Ck.ol OI 3 A9 1 [32], Ck.emp, Ck.emp, Ck.ol OI 3 A17 c17 u16] := hH.down (hU14.bs.trans hU15.bs)
  exact hQn _ _ [] _ trivial H ⟨A17, c17, rfl, hH.sel [5, 0] (by decide)⟩
def impl_newScreen.f (p0 : Int) (p1 : Int) : Option (Int × Int × (List (Int)) × Int × Int) := (slices_Repeat_int_int.f [32] (IntKind.i64.wrap (p0 * p1))).bind fun u5 => some (p0, p1, u5, 0, 0)
def impl_newScreen.post (sb s : St) (F0 : Fp) (r : Int × Int × (List (Int)) × Int × Int) : Value → St → Prop := fun v s' => ∃ (A2 : Option Addr) (c2 : Nat), v = .agg #[.int .i64 r.1, .int .i64 r.2.1, .slice A2 r.2.2.1.length c2, .int .i64 r.2.2.2.1, .int .i64 r.2.2.2.2] ∧ Hp sb s F0 s' [Ck.ol OI 3 A2 c2 r.2.2.1]
set_option maxRecDepth 100000 in
set_option maxHeartbeats 4000000 in
theorem impl_newScreen.ok (sb s : St) (F0 : Fp) (p0 : Int) (p1 : Int) (hH : Hp sb s F0 s []) (r : Int × Int × (List (Int)) × Int × Int) (H : impl_newScreen.f p0 p1 = some r) : GCall Try.prog 147 #[.int .i64 p0, .int .i64 p1] s (impl_newScreen.post sb s F0 r) := by
 refine GCall_ofr (impl_newScreen.post sb s F0) [.cell 4 66] (ud [.int .i64 p0, .int .i64 p1] 11) Try.func147 rfl rfl rfl fun w Q hQr hQn hQp => ?_
 replace H := topE H
 unfold impl_newScreen.f at H
 dsimp only [ud, un]
 refine sr fun K1 hK1 => hc (o_allocH hH tI66 ?_)
 clear hH
 intro b2 s2 hH _
 refine HL_nil (hK1 _ _ ?_)
 try dsimp only [putL, setL, evL, getL]
 refine sr fun K3 hK3 => mv (mv (hc (o_litF (K := KI) (O := OI) (ca := #[.int .i64 32]) [[.int .i64 32]] [32] hH Try.underlying24 tI3 rfl (by decide) rfl rfl (by kernel_rfl) rfl ⟨rfl, Ent.own (Ent.flat rfl), trivial⟩ ?_)))
 clear hH
 intro A4 s4 hH _
 try dsimp only [putL, setL, evL, getL]
 refine mv (mv (bn rfl rfl rfl ?_))
 replace H := headE H
 obtain ⟨u5, hu5, H⟩ := H
 try dsimp only [putL, setL, evL, getL]
 refine hc (o_call (args := #[.slice A4 [32].length 1, .int .i64 (IntKind.i64.wrap (p0 * p1))]) Try.func198 rfl rfl rfl (slices_Repeat_int_int.ok s4 s4 no A4 1 [32] (IntKind.i64.wrap (p0 * p1)) (hH.rd 1 rfl) (Hp.own (Bs.refl s4)) _ hu5) ?_)
 rintro _ s5 ⟨A6, c6, rfl, hD⟩
 replace hH := hH.back0T hD
 clear hD
 refine hc (o_build (pl := [(0, 1), (1, 1), (2, 1), (3, 1), (4, 1)]) (cs := #[.int .i64 p0, .int .i64 p1, .slice A6 u5.length c6, .int .i64 0, .int .i64 0]) Try.underlying66 tI66 (by kernel_rfl) (by kernel_rfl) rfl (hc (o_stvH (vs := [.int .i64 p0, .int .i64 p1, .slice A6 u5.length c6, .int .i64 0, .int .i64 0]) (us' := [.int .i64 p0, .int .i64 p1, .slice A6 u5.length c6, .int .i64 0, .int .i64 0]) hH 0 rfl rfl rfl rfl rfl tI66 rfl (List.cons_ne_nil _ _) rfl rfl rfl ?_)))
 clear hH
 intro s7 hH
 refine HL_nil (hK3 _ _ ?_)
 try dsimp only [putL, setL, evL, getL]
 refine HT_ret ?_
 exact hQr _ _ [.agg #[.int .i64 p0, .int .i64 p1, .slice A6 u5.length c6, .int .i64 0, .int .i64 0]] _ ⟨ResV.cells rfl Try.underlying66 rfl tI66 (hH.var 0 rfl) rfl, trivial⟩ H ⟨A6, c6, rfl, hH.sel [2] (by decide)⟩
def impl_Screen_put.f (p0_0 : Int) (p0_1 : Int) (p0_2 : List (Int)) (p0_3 : Int) (p0_4 : Int) (p1 : Int) : Option (Int × Int × (List (Int)) × Int × Int) := if (p1 == 8) = true then (some (p0_0, p0_1, p0_2, (max (IntKind.i64.wrap (p0_3 - 1)) 0), p0_4)) else (if (p1 == 9) = true then ((quo? .i64 p0_3 4).bind fun u6 => some (p0_0, p0_1, p0_2, (min (IntKind.i64.wrap ((IntKind.i64.wrap (u6 + 1)) * 4)) p0_0), p0_4)) else (if (p1 == 10) = true then ((impl_Screen_down.f p0_0 p0_1 p0_2 p0_3 p0_4).bind fun u10 => some (p0_0, p0_1, u10.1, u10.2.1, u10.2.2)) else (if (p1 == 12) = true then ((impl_newScreen.f p0_0 p0_1).bind fun u14 => some (u14.1, u14.2.1, u14.2.2.1, u14.2.2.2.1, u14.2.2.2.2)) else (if (p1 == 13) = true then (some (p0_0, p0_1, p0_2, 0, p0_4)) else (if (decide (p1 ≥ 32)) = true then ((if (p0_3 == p0_0) = true then ((impl_Screen_down.f p0_0 p0_1 p0_2 p0_3 p0_4).bind fun u32 => some (u32.1, u32.2.1, u32.2.2)) else (some (p0_2, p0_3, p0_4))).bind fun (o : (List (Int)) × Int × Int) => match o with | (x27, x28, x29) => ((rd? x27 (IntKind.i64.wrap ((IntKind.i64.wrap (x29 * p0_0)) + x28))).bind fun u36 => (st? x27 (IntKind.i64.wrap ((IntKind.i64.wrap (x29 * p0_0)) + x28)) p1).bind fun x37 => some (p0_0, p0_1, x37, (IntKind.i64.wrap (x28 + 1)), x29))) else (some (p0_0, p0_1, p0_2, p0_3, p0_4)))))))
def impl_Screen_put.post (sb s : St) (F0 : Fp) (bp0 : Nat) (r : Int × Int × (List (Int)) × Int × Int) : Value → St → Prop := fun v s' => ∃ (A2 : Option Addr) (c2 : Nat), v = .tuple #[] ∧ Hp sb s F0 s' [Ck.ol OI 3 A2 c2 r.2.2.1, Ck.ov bp0 [.int .i64 r.1, .int .i64 r.2.1, .slice A2 r.2.2.1.length c2, .int .i64 r.2.2.2.1, .int .i64 r.2.2.2.2] 66]
set_option maxRecDepth 100000 in
set_option maxHeartbeats 4000000 in
theorem impl_Screen_put.ok (sb s : St) (F0 : Fp) (bp0 : Nat) (p0_0 : Int) (p0_1 : Int) (A0_2p : Option Addr) (c0_2p : Nat) (p0_2 : List (Int)) (p0_3 : Int) (p0_4 : Int) (p1 : Int) (hH : Hp sb s F0 s [Ck.ov bp0 [.int .i64 p0_0, .int .i64 p0_1, .slice A0_2p p0_2.length c0_2p, .int .i64 p0_3, .int .i64 p0_4] 66, Ck.ol OI 3 A0_2p c0_2p p0_2]) (r : Int × Int × (List (Int)) × Int × Int) (H : impl_Screen_put.f p0_0 p0_1 p0_2 p0_3 p0_4 p1 = some r) : GCall Try.prog 142 #[.pointer (some ⟨bp0, 0, none⟩), .int .i64 p1] s (impl_Screen_put.post sb s F0 bp0 r) := by
 refine GCall_ofr (impl_Screen_put.post sb s F0 bp0) [] (ud [.pointer (some ⟨bp0, 0, none⟩), .int .i64 p1] 98) Try.func142 rfl rfl rfl fun w Q hQr hQn hQp => ?_
 replace H := topE H
 unfold impl_Screen_put.f at H
 dsimp only [ud, un]
 refine HT_block (sr fun K1 hK1 => (mv (bn rfl rfl rfl (ag (HL_nil (hK1 _ _ ?_))))))
 dsimp only [putL, setL, evL, getL]
 revert H
 refine ct rfl (fun hb2 H => ?_) (fun hb2 H => ?_)
 ·refine HT_region ?_
  refine mv (mv (hc (o_nilck rfl ?_)))
  dsimp only [putL, setL, evL, getL]
  refine hc (o_faddr' (ft := 3) (off := 3) rfl Try.underlying66 rfl tI3 (by decide) (hc (o_load' rfl Try.underlying3 rfl (hH.hasv 0 rfl rfl) (bn rfl rfl rfl ?_))))
  dsimp only [putL, setL, evL, getL]
  refine hc (o_max2 rfl rfl (hc (o_nilck rfl (hc (o_faddr' (ft := 3) (off := 3) rfl Try.underlying66 rfl tI3 (by decide) ?_)))))
  dsimp only [putL, setL, evL, getL]
  refine hc (o_stvH (vs := [.int .i64 (max (IntKind.i64.wrap (p0_3 - 1)) 0)]) (us' := [.int .i64 p0_0, .int .i64 p0_1, .slice A0_2p p0_2.length c0_2p, .int .i64 (max (IntKind.i64.wrap (p0_3 - 1)) 0), .int .i64 p0_4]) hH 0 rfl rfl rfl rfl rfl tI3 rfl (List.cons_ne_nil _ _) rfl rfl rfl ?_)
  clear hH
  intro s3 hH
  refine HL_nil ?_
  exact hQn _ _ [] _ trivial H ⟨A0_2p, c0_2p, rfl, hH.sel [1, 0] (by decide)⟩
 ·refine sr fun K4 hK4 => mv (bn rfl rfl rfl ?_)
  dsimp only [putL, setL, evL, getL]
  refine ag (HL_nil (hK4 _ _ ?_))
  dsimp only [putL, setL, evL, getL]
  revert H
  refine ct rfl (fun hb5 H => ?_) (fun hb5 H => ?_)
  ·refine HX_draw hMix ?_
   refine HX_lim (R := fun _ => True) (k := 0) (fun s' => Gro s s') 15 ?_
   have hR := Gro.refl s
   have hH0 := hH
   refine HK_readP 1 (v := .pointer (some ⟨bp0, 0, none⟩)) rfl (by kernel_rfl) hQp rfl (fun s' K hK => o_move hK) rfl rfl (fun _ => hR) ?_
   try dsimp only [putL, setL, evL, getL]
   refine HK_readP 2 (v := .pointer (some ⟨bp0, 0, none⟩)) rfl (by kernel_rfl) hQp rfl (fun s' K hK => o_nilck rfl hK) rfl rfl (fun _ => hR) ?_
   refine HK_readP 3 (v := .pointer (some ⟨bp0, 0 + 3, none⟩)) rfl (by kernel_rfl) hQp rfl (fun s' K hK => o_faddr' (ft := 3) (off := 3) rfl Try.underlying66 rfl tI3 (by decide) hK) rfl rfl (fun _ => hR) ?_
   refine HK_read 4 (v := .int .i64 p0_3) rfl (by kernel_rfl) hQp rfl (fun s' hR' K hK => o_load' rfl Try.underlying3 rfl (has_gro hR' (hH0.hasv 0 rfl rfl)) hK) rfl rfl hR ?_
   replace H := headE H
   obtain ⟨u6, hu6, H⟩ := H
   try dsimp only [putL, setL, evL, getL]
   refine HK_readP 5 (v := .int .i64 u6) rfl (by kernel_rfl) hQp rfl (fun s' K hK => o_quo' rfl rfl hu6 hK) rfl rfl (fun _ => hR) ?_
   refine HK_readP 6 (v := .int .i64 (IntKind.i64.wrap (u6 + 1))) rfl (by kernel_rfl) hQp rfl (fun s' K hK => o_bin rfl rfl rfl hK) rfl rfl (fun _ => hR) ?_
   refine HK_readP 7 (v := .int .i64 (IntKind.i64.wrap ((IntKind.i64.wrap (u6 + 1)) * 4))) rfl (by kernel_rfl) hQp rfl (fun s' K hK => o_bin rfl rfl rfl hK) rfl rfl (fun _ => hR) ?_
   try dsimp only [putL, setL, evL, getL]
   refine HK_readP 8 (v := .pointer (some ⟨bp0, 0, none⟩)) rfl (by kernel_rfl) hQp rfl (fun s' K hK => o_move hK) rfl rfl (fun _ => hR) ?_
   refine HK_readP 9 (v := .pointer (some ⟨bp0, 0, none⟩)) rfl (by kernel_rfl) hQp rfl (fun s' K hK => o_nilck rfl hK) rfl rfl (fun _ => hR) ?_
   refine HK_readP 10 (v := .pointer (some ⟨bp0, 0 + 0, none⟩)) rfl (by kernel_rfl) hQp rfl (fun s' K hK => o_faddr' (ft := 3) (off := 0) rfl Try.underlying66 rfl tI3 (by decide) hK) rfl rfl (fun _ => hR) ?_
   try dsimp only [putL, setL, evL, getL]
   refine HK_read 11 (v := .int .i64 p0_0) rfl (by kernel_rfl) hQp rfl (fun s' hR' K hK => o_load' rfl Try.underlying3 rfl (has_gro hR' (hH0.hasv 0 rfl rfl)) hK) rfl rfl hR ?_
   refine HK_readP 12 (v := .int .i64 (min (IntKind.i64.wrap ((IntKind.i64.wrap (u6 + 1)) * 4)) p0_0)) rfl (by kernel_rfl) hQp rfl (fun s' K hK => o_min2 rfl rfl hK) rfl rfl (fun _ => hR) ?_
   refine HK_readP 0 (v := .pointer (some ⟨bp0, 0, none⟩)) rfl (by kernel_rfl) hQp rfl (fun s' K hK => o_move hK) rfl rfl (fun _ => hR) ?_
   try dsimp only [putL, setL, evL, getL]
   refine HK_readP 13 (v := .pointer (some ⟨bp0, 0, none⟩)) rfl (by kernel_rfl) hQp rfl (fun s' K hK => o_nilck rfl hK) rfl rfl (fun _ => hR) ?_
   refine HK_readP 14 (v := .pointer (some ⟨bp0, 0 + 3, none⟩)) rfl (by kernel_rfl) hQp rfl (fun s' K hK => o_faddr' (ft := 3) (off := 3) rfl Try.underlying66 rfl tI3 (by decide) hK) rfl rfl (fun _ => hR) ?_
   refine HK_more [15] (by kernel_rfl) rfl (fun _ => hR) ⟨⟨_, rfl, Or.inl ⟨rfl, ?_⟩⟩, trivial⟩
   skip
   refine o_stvH (vs := [.int .i64 (min (IntKind.i64.wrap ((IntKind.i64.wrap (u6 + 1)) * 4)) p0_0)]) (us' := [.int .i64 p0_0, .int .i64 p0_1, .slice A0_2p p0_2.length c0_2p, .int .i64 (min (IntKind.i64.wrap ((IntKind.i64.wrap (u6 + 1)) * 4)) p0_0), .int .i64 p0_4]) hH 0 rfl rfl rfl rfl rfl tI3 rfl (List.cons_ne_nil _ _) rfl rfl rfl ?_
   clear hH
   intro s7 hH
   try dsimp only [putL, setL, evL, getL]
   refine HK_free (by kernel_rfl) ?_
   refine HX_done (by kernel_rfl) ?_
   exact hQn _ _ [] _ trivial H ⟨A0_2p, c0_2p, rfl, hH.sel [1, 0] (by decide)⟩
  ·refine sr fun K8 hK8 => mv ?_
   dsimp only [putL, setL, evL, getL]
   refine bn rfl rfl rfl (ag (HL_nil (hK8 _ _ ?_)))
   dsimp only [putL, setL, evL, getL]
   revert H
   refine ct rfl (fun hb9 H => ?_) (fun hb9 H => ?_)
   ·refine HT_region ?_
    refine mv ?_
    replace H := headE H
    obtain ⟨u10, hu10, H⟩ := H
    obtain ⟨F1, hA, hB⟩ := hH.take [0, 1] (by decide)
    dsimp only [addC, setC, rmC, selC, getC] at hA
    refine hc (o_call (args := #[.pointer (some ⟨bp0, 0, none⟩)]) Try.func196 rfl rfl rfl (impl_Screen_down.ok sb s F1 bp0 p0_0 p0_1 A0_2p c0_2p p0_2 p0_3 p0_4 hA _ hu10) ?_)
    rintro _ s10 ⟨A11, c11, rfl, hD⟩
    replace hH := hB _ _ _ (Up.refl _ _ _) hD
    clear hD hA hB
    refine HL_nil ?_
    exact hQn _ _ [] _ trivial H ⟨A11, c11, rfl, hH.sel [2, 3] (by decide)⟩
   ·refine sr fun K12 hK12 => mv ?_
    dsimp only [putL, setL, evL, getL]
    refine bn rfl rfl rfl (ag (HL_nil (hK12 _ _ ?_)))
    dsimp only [putL, setL, evL, getL]
    revert H
    refine ct rfl (fun hb13 H => ?_) (fun hb13 H => ?_)
    ·refine HX_draw hMix ?_
     refine HX_lim (R := fun _ => True) (k := 0) (fun s' => Gro s s') 11 ?_
     have hR := Gro.refl s
     have hH0 := hH
     refine HK_readP 1 (v := .pointer (some ⟨bp0, 0, none⟩)) rfl (by kernel_rfl) hQp rfl (fun s' K hK => o_move hK) rfl rfl (fun _ => hR) ?_
     try dsimp only [putL, setL, evL, getL]
     refine HK_readP 2 (v := .pointer (some ⟨bp0, 0, none⟩)) rfl (by kernel_rfl) hQp rfl (fun s' K hK => o_nilck rfl hK) rfl rfl (fun _ => hR) ?_
     refine HK_readP 3 (v := .pointer (some ⟨bp0, 0 + 0, none⟩)) rfl (by kernel_rfl) hQp rfl (fun s' K hK => o_faddr' (ft := 3) (off := 0) rfl Try.underlying66 rfl tI3 (by decide) hK) rfl rfl (fun _ => hR) ?_
     refine HK_read 4 (v := .int .i64 p0_0) rfl (by kernel_rfl) hQp rfl (fun s' hR' K hK => o_load' rfl Try.underlying3 rfl (has_gro hR' (hH0.hasv 0 rfl rfl)) hK) rfl rfl hR ?_
     try dsimp only [putL, setL, evL, getL]
     refine HK_readP 5 (v := .pointer (some ⟨bp0, 0, none⟩)) rfl (by kernel_rfl) hQp rfl (fun s' K hK => o_move hK) rfl rfl (fun _ => hR) ?_
     refine HK_readP 6 (v := .pointer (some ⟨bp0, 0, none⟩)) rfl (by kernel_rfl) hQp rfl (fun s' K hK => o_nilck rfl hK) rfl rfl (fun _ => hR) ?_
     refine HK_readP 7 (v := .pointer (some ⟨bp0, 0 + 1, none⟩)) rfl (by kernel_rfl) hQp rfl (fun s' K hK => o_faddr' (ft := 3) (off := 1) rfl Try.underlying66 rfl tI3 (by decide) hK) rfl rfl (fun _ => hR) ?_
     try dsimp only [putL, setL, evL, getL]
     refine HK_read 8 (v := .int .i64 p0_1) rfl (by kernel_rfl) hQp rfl (fun s' hR' K hK => o_load' rfl Try.underlying3 rfl (has_gro hR' (hH0.hasv 0 rfl rfl)) hK) rfl rfl hR ?_
     refine HK_readP 0 (v := .pointer (some ⟨bp0, 0, none⟩)) rfl (by kernel_rfl) hQp rfl (fun s' K hK => o_move hK) rfl rfl (fun _ => hR) ?_
     refine HK_more [9] (by kernel_rfl) rfl (fun _ => hR) ⟨⟨_, rfl, Or.inl ⟨rfl, ?_⟩⟩, trivial⟩
     replace H := headE H
     obtain ⟨u14, hu14, H⟩ := H
     skip
     refine o_call (args := #[.int .i64 p0_0, .int .i64 p0_1]) Try.func147 rfl rfl rfl (impl_newScreen.ok sb s no p0_0 p0_1 (Hp.own hH.bs) _ hu14) ?_
     rintro _ s14 ⟨A15, c15, rfl, hD⟩
     replace hR := hR.trans hD.gro
     replace hH := hH.back0 hD (Up.refl _ _ _)
     clear hD
     try dsimp only [putL, setL, evL, getL]
     refine HK_readP 10 (v := .pointer (some ⟨bp0, 0, none⟩)) rfl (by kernel_rfl) hQp rfl (fun s' K hK => o_nilck rfl hK) rfl rfl (fun _ => hR) ?_
     refine HK_more [11] (by kernel_rfl) rfl (fun _ => hR) ⟨⟨_, rfl, Or.inl ⟨rfl, ?_⟩⟩, trivial⟩
     skip
     refine o_stvH (vs := [.int .i64 u14.1, .int .i64 u14.2.1, .slice A15 u14.2.2.1.length c15, .int .i64 u14.2.2.2.1, .int .i64 u14.2.2.2.2]) (us' := [.int .i64 u14.1, .int .i64 u14.2.1, .slice A15 u14.2.2.1.length c15, .int .i64 u14.2.2.2.1, .int .i64 u14.2.2.2.2]) hH 0 rfl rfl rfl rfl rfl tI66 rfl (List.cons_ne_nil _ _) rfl rfl rfl ?_
     clear hH
     intro s16 hH
     refine HK_free (by kernel_rfl) ?_
     try dsimp only [putL, setL, evL, getL]
     refine HX_done (by kernel_rfl) ?_
     exact hQn _ _ [] _ trivial H ⟨A15, c15, rfl, hH.sel [2, 0] (by decide)⟩
    ·refine sr fun K17 hK17 => mv (bn rfl rfl rfl ?_)
     dsimp only [putL, setL, evL, getL]
     refine ag (HL_nil (hK17 _ _ ?_))
     dsimp only [putL, setL, evL, getL]
     revert H
     refine ct rfl (fun hb18 H => ?_) (fun hb18 H => ?_)
     ·refine HT_region ?_
      refine mv (hc (o_nilck rfl (hc (o_faddr' (ft := 3) (off := 3) rfl Try.underlying66 rfl tI3 (by decide) ?_))))
      dsimp only [putL, setL, evL, getL]
      refine hc (o_stvH (vs := [.int .i64 0]) (us' := [.int .i64 p0_0, .int .i64 p0_1, .slice A0_2p p0_2.length c0_2p, .int .i64 0, .int .i64 p0_4]) hH 0 rfl rfl rfl rfl rfl tI3 rfl (List.cons_ne_nil _ _) rfl rfl rfl ?_)
      clear hH
      intro s19 hH
      refine HL_nil ?_
      exact hQn _ _ [] _ trivial H ⟨A0_2p, c0_2p, rfl, hH.sel [1, 0] (by decide)⟩
     ·refine sr fun K20 hK20 => mv (bn rfl rfl rfl ?_)
      dsimp only [putL, setL, evL, getL]
      refine ag (HL_nil (hK20 _ _ ?_))
      dsimp only [putL, setL, evL, getL]
      revert H
      refine ct rfl (fun hb21 H => ?_) (fun hb21 H => ?_)
      ·refine joinH H fun G22 hG22 H => ?_
       refine HT_joinK (fun l' s' => ∃ (x27 : List (Int)) (A27 : Option Addr) (c27 : Nat) (x28 : Int) (x29 : Int), G22 (x27, x28, x29) = some r ∧ skim [0, 0] l' = ([.pointer (some ⟨bp0, 0, none⟩), .int .i64 p1], 99) ∧ Hp sb s F0 s' [Ck.ol OI 3 A27 c27 x27, Ck.ov bp0 [.int .i64 p0_0, .int .i64 p0_1, .slice A27 x27.length c27, .int .i64 x28, .int .i64 x29] 66]) ?_ ?_
       ·intro K22 hK22
        refine sx hMix fun K30 hK30 => ?_
        refine HX_lim (R := fun _ => True) (k := 0) (fun s' => Gro s s') 10 ?_
        have hR := Gro.refl s
        have hH0 := hH
        refine HK_readP 0 (v := .pointer (some ⟨bp0, 0, none⟩)) rfl (by kernel_rfl) hQp rfl (fun s' K hK => o_move hK) rfl rfl (fun _ => hR) ?_
        refine HK_readP 1 (v := .pointer (some ⟨bp0, 0, none⟩)) rfl (by kernel_rfl) hQp rfl (fun s' K hK => o_nilck rfl hK) rfl rfl (fun _ => hR) ?_
        try dsimp only [putL, setL, evL, getL]
        refine HK_readP 2 (v := .pointer (some ⟨bp0, 0 + 3, none⟩)) rfl (by kernel_rfl) hQp rfl (fun s' K hK => o_faddr' (ft := 3) (off := 3) rfl Try.underlying66 rfl tI3 (by decide) hK) rfl rfl (fun _ => hR) ?_
        refine HK_read 3 (v := .int .i64 p0_3) rfl (by kernel_rfl) hQp rfl (fun s' hR' K hK => o_load' rfl Try.underlying3 rfl (has_gro hR' (hH0.hasv 0 rfl rfl)) hK) rfl rfl hR ?_
        refine HK_readP 4 (v := .pointer (some ⟨bp0, 0, none⟩)) rfl (by kernel_rfl) hQp rfl (fun s' K hK => o_move hK) rfl rfl (fun _ => hR) ?_
        try dsimp only [putL, setL, evL, getL]
        refine HK_readP 5 (v := .pointer (some ⟨bp0, 0, none⟩)) rfl (by kernel_rfl) hQp rfl (fun s' K hK => o_nilck rfl hK) rfl rfl (fun _ => hR) ?_
        refine HK_readP 6 (v := .pointer (some ⟨bp0, 0 + 0, none⟩)) rfl (by kernel_rfl) hQp rfl (fun s' K hK => o_faddr' (ft := 3) (off := 0) rfl Try.underlying66 rfl tI3 (by decide) hK) rfl rfl (fun _ => hR) ?_
        refine HK_read 7 (v := .int .i64 p0_0) rfl (by kernel_rfl) hQp rfl (fun s' hR' K hK => o_load' rfl Try.underlying3 rfl (has_gro hR' (hH0.hasv 0 rfl rfl)) hK) rfl rfl hR ?_
        try dsimp only [putL, setL, evL, getL]
        refine HK_readP 8 (v := .bool (p0_3 == p0_0)) rfl (by kernel_rfl) hQp rfl (fun s' K hK => o_bin rfl rfl rfl hK) rfl rfl (fun _ => hR) ?_
        refine HK_done (fun _ => hR) (by kernel_rfl) ?_
        refine hK30 _ _ ?_
        try dsimp only [putL, setL, evL, getL]
        revert H
        refine ct rfl (fun hb31 H => ?_) (fun hb31 H => ?_)
        ·refine HT_region ?_
         refine mv ?_
         replace H := headE H
         obtain ⟨u32, hu32, H⟩ := H
         obtain ⟨F1, hA, hB⟩ := hH.take [0, 1] (by decide)
         dsimp only [addC, setC, rmC, selC, getC] at hA
         refine hc (o_call (args := #[.pointer (some ⟨bp0, 0, none⟩)]) Try.func196 rfl rfl rfl (impl_Screen_down.ok sb s F1 bp0 p0_0 p0_1 A0_2p c0_2p p0_2 p0_3 p0_4 hA _ hu32) ?_)
         rintro _ s32 ⟨A33, c33, rfl, hD⟩
         replace hH := hB _ _ _ (Up.refl _ _ _) hD
         clear hD hA hB
         refine HL_nil ?_
         exact hK22 _ _ ⟨u32.1, A33, c33, u32.2.1, u32.2.2, H, rfl, hH.sel [2, 3] (by decide)⟩
        ·refine HT_skip ?_
         exact hK22 _ _ ⟨p0_2, A0_2p, c0_2p, p0_3, p0_4, H, rfl, hH.sel [1, 0] (by decide)⟩
       ·rintro l' s34 ⟨x27, A27, c27, x28, x29, H, hl, hH⟩
        revert l'
        refine skA ?_
        dsimp only [Al, Sk]
        intros
        replace H := hG22 _ H
        try dsimp only at H
        refine sx hMix fun K35 hK35 => ?_
        refine HX_lim (R := fun _ => True) (k := 0) (fun s' => Gro s34 s') 20 ?_
        have hR := Gro.refl s34
        have hH0 := hH
        try dsimp only [putL, setL, evL, getL]
        refine HK_readP 18 (v := .int .i64 p1) rfl (by kernel_rfl) hQp rfl (fun s' K hK => o_move hK) rfl rfl (fun _ => hR) ?_
        refine HK_readP 0 (v := .pointer (some ⟨bp0, 0, none⟩)) rfl (by kernel_rfl) hQp rfl (fun s' K hK => o_move hK) rfl rfl (fun _ => hR) ?_
        refine HK_readP 1 (v := .pointer (some ⟨bp0, 0, none⟩)) rfl (by kernel_rfl) hQp rfl (fun s' K hK => o_nilck rfl hK) rfl rfl (fun _ => hR) ?_
        try dsimp only [putL, setL, evL, getL]
        refine HK_readP 2 (v := .pointer (some ⟨bp0, 0 + 2, none⟩)) rfl (by kernel_rfl) hQp rfl (fun s' K hK => o_faddr' (ft := 24) (off := 2) rfl Try.underlying66 rfl tI24 (by decide) hK) rfl rfl (fun _ => hR) ?_
        refine HK_read 3 (v := .slice A27 x27.length c27) rfl (by kernel_rfl) hQp rfl (fun s' hR' K hK => o_load' rfl Try.underlying24 rfl (has_gro hR' (hH0.hasv 1 rfl rfl)) hK) rfl rfl hR ?_
        refine HK_readP 4 (v := .pointer (some ⟨bp0, 0, none⟩)) rfl (by kernel_rfl) hQp rfl (fun s' K hK => o_move hK) rfl rfl (fun _ => hR) ?_
        try dsimp only [putL, setL, evL, getL]
        refine HK_readP 5 (v := .pointer (some ⟨bp0, 0, none⟩)) rfl (by kernel_rfl) hQp rfl (fun s' K hK => o_nilck rfl hK) rfl rfl (fun _ => hR) ?_
        refine HK_readP 6 (v := .pointer (some ⟨bp0, 0 + 4, none⟩)) rfl (by kernel_rfl) hQp rfl (fun s' K hK => o_faddr' (ft := 3) (off := 4) rfl Try.underlying66 rfl tI3 (by decide) hK) rfl rfl (fun _ => hR) ?_
        refine HK_read 7 (v := .int .i64 x29) rfl (by kernel_rfl) hQp rfl (fun s' hR' K hK => o_load' rfl Try.underlying3 rfl (has_gro hR' (hH0.hasv 1 rfl rfl)) hK) rfl rfl hR ?_
        try dsimp only [putL, setL, evL, getL]
        refine HK_readP 8 (v := .pointer (some ⟨bp0, 0, none⟩)) rfl (by kernel_rfl) hQp rfl (fun s' K hK => o_move hK) rfl rfl (fun _ => hR) ?_
        refine HK_readP 9 (v := .pointer (some ⟨bp0, 0, none⟩)) rfl (by kernel_rfl) hQp rfl (fun s' K hK => o_nilck rfl hK) rfl rfl (fun _ => hR) ?_
        refine HK_readP 10 (v := .pointer (some ⟨bp0, 0 + 0, none⟩)) rfl (by kernel_rfl) hQp rfl (fun s' K hK => o_faddr' (ft := 3) (off := 0) rfl Try.underlying66 rfl tI3 (by decide) hK) rfl rfl (fun _ => hR) ?_
        try dsimp only [putL, setL, evL, getL]
        refine HK_read 11 (v := .int .i64 p0_0) rfl (by kernel_rfl) hQp rfl (fun s' hR' K hK => o_load' rfl Try.underlying3 rfl (has_gro hR' (hH0.hasv 1 rfl rfl)) hK) rfl rfl hR ?_
        refine HK_readP 12 (v := .int .i64 (IntKind.i64.wrap (x29 * p0_0))) rfl (by kernel_rfl) hQp rfl (fun s' K hK => o_bin rfl rfl rfl hK) rfl rfl (fun _ => hR) ?_
        refine HK_readP 13 (v := .pointer (some ⟨bp0, 0, none⟩)) rfl (by kernel_rfl) hQp rfl (fun s' K hK => o_move hK) rfl rfl (fun _ => hR) ?_
        try dsimp only [putL, setL, evL, getL]
        refine HK_readP 14 (v := .pointer (some ⟨bp0, 0, none⟩)) rfl (by kernel_rfl) hQp rfl (fun s' K hK => o_nilck rfl hK) rfl rfl (fun _ => hR) ?_
        refine HK_readP 15 (v := .pointer (some ⟨bp0, 0 + 3, none⟩)) rfl (by kernel_rfl) hQp rfl (fun s' K hK => o_faddr' (ft := 3) (off := 3) rfl Try.underlying66 rfl tI3 (by decide) hK) rfl rfl (fun _ => hR) ?_
        refine HK_read 16 (v := .int .i64 x28) rfl (by kernel_rfl) hQp rfl (fun s' hR' K hK => o_load' rfl Try.underlying3 rfl (has_gro hR' (hH0.hasv 1 rfl rfl)) hK) rfl rfl hR ?_
        try dsimp only [putL, setL, evL, getL]
        refine HK_readP 17 (v := .int .i64 (IntKind.i64.wrap ((IntKind.i64.wrap (x29 * p0_0)) + x28))) rfl (by kernel_rfl) hQp rfl (fun s' K hK => o_bin rfl rfl rfl hK) rfl rfl (fun _ => hR) ?_
        replace H := headE H
        obtain ⟨u36, hu36, H⟩ := H
        obtain ⟨b36, o36, cs36, hA36, hr36, hh36, hel36⟩ := hH0.elo 0 rfl hu36
        obtain rfl := hr36
        refine HK_readP 19 (v := .pointer (some ⟨b36, o36 + Int.toNat (IntKind.i64.wrap ((IntKind.i64.wrap (x29 * p0_0)) + x28)) * Kd.sz KI, none⟩)) rfl (by kernel_rfl) hQp rfl (fun s' K hK => hel36 s' rfl rfl Try.underlying24 tI3 hK) rfl rfl (fun _ => hR) ?_
        refine HK_more [20] (by kernel_rfl) rfl (fun _ => hR) ⟨⟨_, rfl, Or.inl ⟨rfl, ?_⟩⟩, trivial⟩
        replace H := headE H
        obtain ⟨x37, hx37, H⟩ := H
        skip
        refine o_setF (vs := [.int .i64 p1]) (u := p1) hH 0 rfl rfl rfl rfl rfl tI3 hA36 hx37 (Ent.own (Ent.flat rfl)) ?_
        clear hH
        intro s37 hH
        have hl37 := st?_len hx37
        try dsimp only [putL, setL, evL, getL]
        refine HK_free (by kernel_rfl) ?_
        refine HX_done (by kernel_rfl) ?_
        refine hK35 _ _ ?_
        try dsimp only [putL, setL, evL, getL]
        refine HT_region ?_
        refine mv (hc (o_nilck rfl (hc (o_faddr' (ft := 3) (off := 3) rfl Try.underlying66 rfl tI3 (by decide) ?_))))
        dsimp only [putL, setL, evL, getL]
        refine hc (o_load' rfl Try.underlying3 rfl (hH.hasv 1 rfl rfl) (bn rfl rfl rfl (hc (o_nilck rfl ?_))))
        dsimp only [putL, setL, evL, getL]
        refine hc (o_faddr' (ft := 3) (off := 3) rfl Try.underlying66 rfl tI3 (by decide) (hc (o_stvH (vs := [.int .i64 (IntKind.i64.wrap (x28 + 1))]) (us' := [.int .i64 p0_0, .int .i64 p0_1, .slice A27 x27.length c27, .int .i64 (IntKind.i64.wrap (x28 + 1)), .int .i64 x29]) hH 1 rfl rfl rfl rfl rfl tI3 rfl (List.cons_ne_nil _ _) rfl rfl rfl ?_)))
        clear hH
        intro s38 hH
        refine HL_nil ?_
        replace hH : Hp sb s F0 s38 [Ck.ol OI 3 A27 c27 x37, Ck.ov bp0 [.int .i64 p0_0, .int .i64 p0_1, .slice A27 x37.length c27, .int .i64 (IntKind.i64.wrap (x28 + 1)), .int .i64 x29] 66] := by rw [hl37]; exact hH
        exact hQn _ _ [] _ trivial H ⟨A27, c27, rfl, hH⟩
      ·refine HT_skip ?_
       exact hQn _ _ [] _ trivial H ⟨A0_2p, c0_2p, rfl, hH.sel [1, 0] (by decide)⟩
def impl_PutRunes.l1 (p1 : List (Int)) : Nat → Int → Int → Int → (List (Int)) → Int → Int → Option (Int × Int × (List (Int)) × Int × Int)
 | 0, _, _, _, _, _, _ => none
 | kf + 1, x87, x88, x89, x90, x91, x92 => if (decide (x87 < (p1.length : Int))) = true then ((rd? p1 x87).bind fun u113 => (impl_Screen_put.f x88 x89 x90 x91 x92 u113).bind fun u114 => impl_PutRunes.l1 p1 kf (IntKind.i64.wrap (x87 + 1)) u114.1 u114.2.1 u114.2.2.1 u114.2.2.2.1 u114.2.2.2.2) else (some (x88, x89, x90, x91, x92))
def impl_PutRunes.f (p0_0 : Int) (p0_1 : Int) (p0_2 : List (Int)) (p0_3 : Int) (p0_4 : Int) (p1 : List (Int)) : Option (Int × Int × (List (Int)) × Int × Int × Bool) := ((impl_GoodScreen.f p0_0 p0_1 p0_2 p0_3 p0_4).bind fun u23 => if (!u23) = true then (some true) else ((impl_areRunes.f p1 1000).bind fun u25 => some (!u25))).bind fun (o : Bool) => match o with | x22 => (if x22 = true then (some (0, 0, [], 0, 0, false)) else ((slices_Clone_int_int.f p0_2).bind fun u31 => (impl_PutRunes.l1 p1 ((((p1.length : Int)) - (0)).toNat + 2) 0 p0_0 p0_1 u31 p0_3 p0_4).bind fun (o : Int × Int × (List (Int)) × Int × Int) => match o with | (x74, x75, x76, x77, x78) => (some (x74, x75, x76, x77, x78, true))))
def impl_PutRunes.post (sb s : St) (F0 : Fp) (r : Int × Int × (List (Int)) × Int × Int × Bool) : Value → St → Prop := fun v s' => ∃ (A2 : Option Addr) (c2 : Nat), v = .tuple #[.agg #[.int .i64 r.1, .int .i64 r.2.1, .slice A2 r.2.2.1.length c2, .int .i64 r.2.2.2.1, .int .i64 r.2.2.2.2.1], .bool r.2.2.2.2.2] ∧ Hp sb s F0 s' [Ck.ol OI 3 A2 c2 r.2.2.1]
set_option maxRecDepth 100000 in
set_option maxHeartbeats 4000000 in
theorem impl_PutRunes.ok (sb s : St) (F0 : Fp) (p0_0 : Int) (p0_1 : Int) (A0_2p : Option Addr) (c0_2p : Nat) (p0_2 : List (Int)) (p0_3 : Int) (p0_4 : Int) (A1p : Option Addr) (c1p : Nat) (p1 : List (Int)) (HRp0_2 : Rd KI sb A0_2p c0_2p p0_2) (HRp1 : Rd KI sb A1p c1p p1) (hH : Hp sb s F0 s []) (r : Int × Int × (List (Int)) × Int × Int × Bool) (H : impl_PutRunes.f p0_0 p0_1 p0_2 p0_3 p0_4 p1 = some r) : GCall Try.prog 49 #[.agg #[.int .i64 p0_0, .int .i64 p0_1, .slice A0_2p p0_2.length c0_2p, .int .i64 p0_3, .int .i64 p0_4], .slice A1p p1.length c1p] s (impl_PutRunes.post sb s F0 r) := by
 refine GCall_ofr (impl_PutRunes.post sb s F0) [.cell 4 66, .tmp 5] (ud [.agg #[.int .i64 p0_0, .int .i64 p0_1, .slice A0_2p p0_2.length c0_2p, .int .i64 p0_3, .int .i64 p0_4], .slice A1p p1.length c1p] 29) Try.func49 rfl rfl rfl fun w Q hQr hQn hQp => ?_
 replace H := topE H
 unfold impl_PutRunes.f at H
 dsimp only [ud, un]
 refine sr fun K1 hK1 => hc (o_boxH hH rfl ?_)
 clear hH
 intro b2 s2 hH _
 refine hc (o_allocH hH tI66 ?_)
 clear hH
 intro b3 s3 hH _
 refine ag (HL_nil (hK1 _ _ ?_))
 dsimp only [putL, setL, evL, getL]
 refine HT_seq_k fun K17 hK17 => ?_
 refine joinH H fun G18 hG18 H => ?_
 refine HT_joinK (fun l' s' => ∃ (x22 : Bool), G18 x22 = some r ∧ skim [1, 0, 1, 10] l' = ([.slice A1p p1.length c1p, .pointer (some ⟨b2, 0, none⟩), .pointer (some ⟨b3, 0, none⟩), .bool x22], 16) ∧ Hp sb s F0 s' [Ck.ov b2 [.int .i64 p0_0, .int .i64 p0_1, .slice A0_2p p0_2.length c0_2p, .int .i64 p0_3, .int .i64 p0_4] 66, Ck.ov b3 [.int .i64 0, .int .i64 0, .slice none 0 0, .int .i64 0, .int .i64 0] 66]) ?_ ?_
 ·intro K18 hK18
  refine HT_region ?_
  refine hc (o_loads' [.int .i64 p0_0, .int .i64 p0_1, .slice A0_2p p0_2.length c0_2p, .int .i64 p0_3, .int .i64 p0_4] rfl Try.underlying66 rfl tI66 rfl (hH.partv 0 rfl (0) [.int .i64 p0_0, .int .i64 p0_1, .slice A0_2p p0_2.length c0_2p, .int .i64 p0_3, .int .i64 p0_4] rfl) ?_)
  replace H := headE H
  obtain ⟨u23, hu23, H⟩ := H
  refine hc (o_call (args := #[.agg #[.int .i64 p0_0, .int .i64 p0_1, .slice A0_2p p0_2.length c0_2p, .int .i64 p0_3, .int .i64 p0_4]]) Try.func52 rfl rfl rfl (impl_GoodScreen.ok sb s3 no p0_0 p0_1 A0_2p c0_2p p0_2 p0_3 p0_4 HRp0_2 (Hp.own hH.bs) _ hu23) ?_)
  rintro _ s23 ⟨rfl, hD⟩
  replace hH := hH.back0 hD (Up.refl _ _ _)
  clear hD
  refine hc (o_not rfl ?_)
  dsimp only [putL, setL, evL, getL]
  refine mv ?_
  revert H
  refine it (fun hb24 H => ?_) (fun hb24 H => ?_)
  ·refine wf rfl rfl rfl rfl hb24 (wf rfl rfl rfl rfl hb24 ?_)
   dsimp only [putL, setL, evL, getL]
   refine wf rfl rfl rfl rfl hb24 (hc (o_pickT rfl hb24 (HL_nil ?_)))
   exact hK18 _ _ ⟨true, H, rfl, hH⟩
  ·refine wt rfl rfl rfl rfl hb24 (o_move ?_)
   replace H := headE H
   obtain ⟨u25, hu25, H⟩ := H
   try dsimp only [putL, setL, evL, getL]
   refine wt rfl rfl rfl rfl hb24 (o_call (args := #[.slice A1p p1.length c1p, .int .i64 1000]) Try.func118 rfl rfl rfl (impl_areRunes.ok sb s23 no A1p c1p p1 1000 HRp1 (Hp.own hH.bs) _ hu25) ?_)
   rintro _ s25 ⟨rfl, hD⟩
   replace hH := hH.back0 hD (Up.refl _ _ _)
   clear hD
   refine wt rfl rfl rfl rfl hb24 (o_not rfl (hc (o_pickF rfl hb24 (HL_nil ?_))))
   exact hK18 _ _ ⟨!u25, H, rfl, hH⟩
 ·rintro l' s26 ⟨x22, H, hl, hH⟩
  revert l'
  refine skA ?_
  dsimp only [Al, Sk]
  intros
  replace H := hG18 _ H
  try dsimp only at H
  revert H
  refine ct rfl (fun hb27 H => ?_) (fun hb27 H => ?_)
  ·refine sr fun K28 hK28 => ?_
   try dsimp only [putL, setL, evL, getL]
   refine hc (o_build (pl := [(0, 1), (1, 1), (2, 1), (3, 1), (4, 1)]) (cs := #[.int .i64 0, .int .i64 0, .slice none 0 0, .int .i64 0, .int .i64 0]) Try.underlying66 tI66 (by kernel_rfl) (by kernel_rfl) rfl (hc (o_stvH (vs := [.int .i64 0, .int .i64 0, .slice none 0 0, .int .i64 0, .int .i64 0]) (us' := [.int .i64 0, .int .i64 0, .slice none 0 0, .int .i64 0, .int .i64 0]) hH 1 rfl rfl rfl rfl rfl tI66 rfl (List.cons_ne_nil _ _) rfl rfl rfl ?_)))
   clear hH
   intro s29 hH
   refine ag (HL_nil (hK28 _ _ ?_))
   dsimp only [putL, setL, evL, getL]
   refine HT_ret ?_
   exact hQr _ _ [.agg #[.int .i64 0, .int .i64 0, .slice none 0 0, .int .i64 0, .int .i64 0], .bool false] _ ⟨ResV.cells rfl Try.underlying66 rfl tI66 (hH.var 1 rfl) rfl, rfl, trivial⟩ H ⟨none, 0, rfl, (hH.nil (K := KI) OI 3).sel [2] (by decide)⟩
  ·refine HT_skip (hK17 _ _ (sr fun K30 hK30 => (hc (o_faddr' (ft := 24) (off := 2) rfl Try.underlying66 rfl tI24 (by decide) (hc (o_load' rfl Try.underlying24 rfl (hH.hasv 0 rfl rfl) ?_))))))
   replace H := headE H
   obtain ⟨u31, hu31, H⟩ := H
   refine hc (o_call (args := #[.slice A0_2p p0_2.length c0_2p]) Try.func141 rfl rfl rfl (slices_Clone_int_int.ok sb s26 no A0_2p c0_2p p0_2 HRp0_2 (Hp.own hH.bs) _ hu31) ?_)
   rintro _ s31 ⟨A32, c32, rfl, hD⟩
   replace hH := hH.back0 hD (Up.refl _ _ _)
   clear hD
   try dsimp only [putL, setL, evL, getL]
   refine hc (o_faddr' (ft := 24) (off := 2) rfl Try.underlying66 rfl tI24 (by decide) (hc (o_stvH (vs := [.slice A32 u31.length c32]) (us' := [.int .i64 p0_0, .int .i64 p0_1, .slice A32 u31.length c32, .int .i64 p0_3, .int .i64 p0_4]) hH 0 rfl rfl rfl rfl rfl tI24 rfl (List.cons_ne_nil _ _) rfl rfl rfl ?_)))
   clear hH
   intro s33 hH
   refine HL_nil (hK30 _ _ ?_)
   try dsimp only [putL, setL, evL, getL]
   refine HT_seq_k fun K34 hK34 => sr fun K35 hK35 => mv (hc (o_len rfl Try.underlying24 (mv (HL_nil (hK35 _ _ ?_)))))
   dsimp only [putL, setL, evL, getL]
   refine joinH H fun G36 hG36 H => ?_
   refine HT_toK (fun l' s' => ∃ (x74 : Int) (x75 : Int) (x76 : List (Int)) (A76 : Option Addr) (c76 : Nat) (x77 : Int) (x78 : Int), G36 (x74, x75, x76, x77, x78) = some r ∧ skim [2, 1] l' = ([.pointer (some ⟨b2, 0, none⟩), .pointer (some ⟨b3, 0, none⟩)], 27) ∧ Hp sb s F0 s' [Ck.ol OI 3 A76 c76 x76, Ck.ov b2 [.int .i64 x74, .int .i64 x75, .slice A76 x76.length c76, .int .i64 x77, .int .i64 x78] 66, Ck.ov b3 [.int .i64 0, .int .i64 0, .slice none 0 0, .int .i64 0, .int .i64 0] 66]) ?_ ?_
   ·intro K36 hK36
    refine HT_block ?_
    refine HT_loopK (fun kf l' s' => ∃ (x87 : Int) (x88 : Int) (x89 : Int) (x90 : List (Int)) (A90 : Option Addr) (c90 : Nat) (x91 : Int) (x92 : Int), (impl_PutRunes.l1 p1 kf x87 x88 x89 x90 x91 x92).bind G36 = some r ∧ skim [2, 1, 16, 0, 0] l' = ([.pointer (some ⟨b2, 0, none⟩), .pointer (some ⟨b3, 0, none⟩), .slice A1p p1.length c1p, .int .i64 (p1.length : Int), .int .i64 x87], 8) ∧ Hp sb s F0 s' [Ck.ol OI 3 A90 c90 x90, Ck.ov b2 [.int .i64 x88, .int .i64 x89, .slice A90 x90.length c90, .int .i64 x91, .int .i64 x92] 66, Ck.ov b3 [.int .i64 0, .int .i64 0, .slice none 0 0, .int .i64 0, .int .i64 0] 66]) ((((p1.length : Int)) - (0)).toNat + 2) ⟨0, p0_0, p0_1, u31, A32, c32, p0_3, p0_4, H, rfl, hH.sel [2, 0, 1] (by decide)⟩ ?_
    rintro kf l' s107 ⟨x87, x88, x89, x90, A90, c90, x91, x92, H, hl, hH⟩ K107 hK107
    revert l'
    refine skA ?_
    dsimp only [Al, Sk]
    intros
    cases kf with
    | zero => simp [impl_PutRunes.l1] at H
    | succ kf =>
     rw [impl_PutRunes.l1] at H
     refine sr fun K108 hK108 => bn rfl rfl rfl (HL_nil (hK108 _ _ ?_))
     dsimp only [putL, setL, evL, getL]
     refine HT_seq_k fun K109 hK109 => ?_
     revert H
     refine ct rfl (fun hb110 H => ?_) (fun hb110 H => ?_)
     ·refine HT_skip (hK109 _ _ (HT_seq_k fun K111 hK111 => (HT_block (sr fun K112 hK112 => ?_))))
      replace H := headE H
      obtain ⟨u113, hu113, H⟩ := H
      obtain ⟨b113, o113, cs113, hr113, hh113, hel113⟩ := Rd.elb HRp1 hu113
      obtain rfl := hr113
      refine hc (hel113 s107 rfl rfl Try.underlying24 tI3 (hc (o_load' rfl Try.underlying3 rfl ((hh113 hH.bs.mono) 0 _ rfl) (ag (HL_nil (hK112 _ _ ?_))))))
      dsimp only [putL, setL, evL, getL]
      refine HT_region ?_
      refine mv ?_
      replace H := headE H
      obtain ⟨u114, hu114, H⟩ := H
      obtain ⟨F1, hA, hB⟩ := hH.take [1, 0] (by decide)
      dsimp only [addC, setC, rmC, selC, getC] at hA
      refine hc (o_call (args := #[.pointer (some ⟨b2, 0, none⟩), .int .i64 u113]) Try.func142 rfl rfl rfl (impl_Screen_put.ok sb s107 F1 b2 x88 x89 A90 c90 x90 x91 x92 u113 hA _ hu114) ?_)
      rintro _ s114 ⟨A115, c115, rfl, hD⟩
      replace hH := hB _ _ _ (Up.refl _ _ _) hD
      clear hD hA hB
      refine HL_nil (hK111 _ _ ?_)
      try dsimp only [putL, setL, evL, getL]
      refine HT_region ?_
      refine bn rfl rfl rfl (mv (HL_nil ?_))
      exact hK107 _ _ ⟨kf, Nat.lt_succ_self kf, IntKind.i64.wrap (x87 + 1), u114.1, u114.2.1, u114.2.2.1, A115, c115, u114.2.2.2.1, u114.2.2.2.2, H, rfl, hH.sel [3, 4, 2] (by decide)⟩
     ·refine HT_exit ?_
      exact hK36 _ _ ⟨x88, x89, x90, A90, c90, x91, x92, H, rfl, hH⟩
   ·rintro l' s116 ⟨x74, x75, x76, A76, c76, x77, x78, H, hl, hH⟩
    revert l'
    refine skA ?_
    dsimp only [Al, Sk]
    intros
    replace H := hG36 _ H
    try dsimp only at H
    refine hK34 _ _ ?_
    refine sr fun K117 hK117 => hc (o_loads' [.int .i64 x74, .int .i64 x75, .slice A76 x76.length c76, .int .i64 x77, .int .i64 x78] rfl Try.underlying66 rfl tI66 rfl (hH.partv 1 rfl (0) [.int .i64 x74, .int .i64 x75, .slice A76 x76.length c76, .int .i64 x77, .int .i64 x78] rfl) ?_)
    dsimp only [putL, setL, evL, getL]
    refine hc (o_stvH (vs := [.int .i64 x74, .int .i64 x75, .slice A76 x76.length c76, .int .i64 x77, .int .i64 x78]) (us' := [.int .i64 x74, .int .i64 x75, .slice A76 x76.length c76, .int .i64 x77, .int .i64 x78]) hH 2 rfl rfl rfl rfl rfl tI66 rfl (List.cons_ne_nil _ _) rfl rfl rfl ?_)
    clear hH
    intro s118 hH
    refine ag (HL_nil (hK117 _ _ ?_))
    dsimp only [putL, setL, evL, getL]
    refine HT_ret ?_
    exact hQr _ _ [.agg #[.int .i64 x74, .int .i64 x75, .slice A76 x76.length c76, .int .i64 x77, .int .i64 x78], .bool true] _ ⟨ResV.cells rfl Try.underlying66 rfl tI66 (hH.var 2 rfl) rfl, rfl, trivial⟩ H ⟨A76, c76, rfl, hH.sel [0] (by decide)⟩
def impl_PutRune.f (p0_0 : Int) (p0_1 : Int) (p0_2 : List (Int)) (p0_3 : Int) (p0_4 : Int) (p1 : Int) : Option (Int × Int × (List (Int)) × Int × Int × Bool) := (impl_PutRunes.f p0_0 p0_1 p0_2 p0_3 p0_4 [p1]).bind fun u6 => some (u6.1, u6.2.1, u6.2.2.1, u6.2.2.2.1, u6.2.2.2.2.1, u6.2.2.2.2.2)
def impl_PutRune.post (sb s : St) (F0 : Fp) (r : Int × Int × (List (Int)) × Int × Int × Bool) : Value → St → Prop := fun v s' => ∃ (A2 : Option Addr) (c2 : Nat), v = .tuple #[.agg #[.int .i64 r.1, .int .i64 r.2.1, .slice A2 r.2.2.1.length c2, .int .i64 r.2.2.2.1, .int .i64 r.2.2.2.2.1], .bool r.2.2.2.2.2] ∧ Hp sb s F0 s' [Ck.ol OI 3 A2 c2 r.2.2.1]
set_option maxRecDepth 100000 in
set_option maxHeartbeats 4000000 in
theorem impl_PutRune.ok (sb s : St) (F0 : Fp) (p0_0 : Int) (p0_1 : Int) (A0_2p : Option Addr) (c0_2p : Nat) (p0_2 : List (Int)) (p0_3 : Int) (p0_4 : Int) (p1 : Int) (HRp0_2 : Rd KI sb A0_2p c0_2p p0_2) (hH : Hp sb s F0 s []) (r : Int × Int × (List (Int)) × Int × Int × Bool) (H : impl_PutRune.f p0_0 p0_1 p0_2 p0_3 p0_4 p1 = some r) : GCall Try.prog 54 #[.agg #[.int .i64 p0_0, .int .i64 p0_1, .slice A0_2p p0_2.length c0_2p, .int .i64 p0_3, .int .i64 p0_4], .int .i64 p1] s (impl_PutRune.post sb s F0 r) := by
 refine GCall_ofr (impl_PutRune.post sb s F0) [.cell 4 66, .tmp 5] (ud [.agg #[.int .i64 p0_0, .int .i64 p0_1, .slice A0_2p p0_2.length c0_2p, .int .i64 p0_3, .int .i64 p0_4], .int .i64 p1] 10) Try.func54 rfl rfl rfl fun w Q hQr hQn hQp => ?_
 replace H := topE H
 unfold impl_PutRune.f at H
 dsimp only [ud, un]
 refine sr fun K1 hK1 => hc (o_boxH hH rfl ?_)
 clear hH
 intro b2 s2 hH _
 refine hc (o_allocH hH tI66 ?_)
 clear hH
 intro b3 s3 hH _
 refine ag (HL_nil (hK1 _ _ ?_))
 dsimp only [putL, setL, evL, getL]
 refine sr fun K4 hK4 => hc (o_loads' [.int .i64 p0_0, .int .i64 p0_1, .slice A0_2p p0_2.length c0_2p, .int .i64 p0_3, .int .i64 p0_4] rfl Try.underlying66 rfl tI66 rfl (hH.partv 0 rfl (0) [.int .i64 p0_0, .int .i64 p0_1, .slice A0_2p p0_2.length c0_2p, .int .i64 p0_3, .int .i64 p0_4] rfl) (mv (hc (o_litF (K := KI) (O := OI) (ca := #[.int .i64 p1]) [[.int .i64 p1]] [p1] hH Try.underlying24 tI3 rfl (by decide) rfl rfl (by kernel_rfl) rfl ⟨rfl, Ent.own (Ent.flat rfl), trivial⟩ ?_))))
 clear hH
 intro A5 s5 hH _
 replace H := headE H
 obtain ⟨u6, hu6, H⟩ := H
 try dsimp only [putL, setL, evL, getL]
 refine hc (o_call (args := #[.agg #[.int .i64 p0_0, .int .i64 p0_1, .slice A0_2p p0_2.length c0_2p, .int .i64 p0_3, .int .i64 p0_4], .slice A5 [p1].length 1]) Try.func49 rfl rfl rfl (impl_PutRunes.ok s5 s5 no p0_0 p0_1 A0_2p c0_2p p0_2 p0_3 p0_4 A5 1 [p1] (HRp0_2.mono hH.bs.mono) (hH.rd 2 rfl) (Hp.own (Bs.refl s5)) _ hu6) ?_)
 rintro _ s6 ⟨A7, c7, rfl, hD⟩
 replace hH := hH.back0T hD
 clear hD
 refine hc (o_extract rfl rfl (hc (o_extract rfl rfl ?_)))
 dsimp only [putL, setL, evL, getL]
 refine hc (o_stvH (vs := [.int .i64 u6.1, .int .i64 u6.2.1, .slice A7 u6.2.2.1.length c7, .int .i64 u6.2.2.2.1, .int .i64 u6.2.2.2.2.1]) (us' := [.int .i64 u6.1, .int .i64 u6.2.1, .slice A7 u6.2.2.1.length c7, .int .i64 u6.2.2.2.1, .int .i64 u6.2.2.2.2.1]) hH 1 rfl rfl rfl rfl rfl tI66 rfl (List.cons_ne_nil _ _) rfl rfl rfl ?_)
 clear hH
 intro s8 hH
 refine ag (HL_nil (hK4 _ _ ?_))
 dsimp only [putL, setL, evL, getL]
 refine HT_ret ?_
 exact hQr _ _ [.agg #[.int .i64 u6.1, .int .i64 u6.2.1, .slice A7 u6.2.2.1.length c7, .int .i64 u6.2.2.2.1, .int .i64 u6.2.2.2.2.1], .bool u6.2.2.2.2.2] _ ⟨ResV.cells rfl Try.underlying66 rfl tI66 (hH.var 1 rfl) rfl, rfl, trivial⟩ H ⟨A7, c7, rfl, hH.sel [3] (by decide)⟩
def laws_FnShown.l1 (u8 : Int × Int × (List (Int)) × Int × Int × (List (Int))) (u14 : Int × Int × Bool) : Nat → Int → Option (Lo Unit Bool)
 | 0, _ => none
 | kf + 1, x87 => if (decide (x87 < (u8.2.2.2.2.2.length : Int))) = true then ((rd? u8.2.2.2.2.2 x87).bind fun u105 => (rd? u8.2.2.1 (IntKind.i64.wrap ((IntKind.i64.wrap ((IntKind.i64.wrap (u14.1 * u8.1)) + u14.2.1)) + x87))).bind fun u107 => if (u107 != u105) = true then ((some false).bind fun z => some (Lo.ret z)) else (laws_FnShown.l1 u8 u14 kf (IntKind.i64.wrap (x87 + 1)))) else (some (Lo.go ()))
def laws_FnShown.f (p0 : List (Int)) (p1 : List (Int)) : Option Bool := (laws_big.f p0 p1).bind fun u4 => if u4 = true then (some true) else ((spec_DrawShowsAt.f p0).bind fun u8 => (impl_ShowsAt.f u8.1 u8.2.1 u8.2.2.1 u8.2.2.2.1 u8.2.2.2.2.1 u8.2.2.2.2.2).bind fun u14 => (spec_ShowsAt.f u8.1 u8.2.1 u8.2.2.1 u8.2.2.2.1 u8.2.2.2.2.1 u8.2.2.2.2.2).bind fun u16 => (if (u14.2.2 != u16.2.2) = true then (some true) else (if (u14.1 != u16.1) = true then (some true) else (some (u14.2.1 != u16.2.1)))).bind fun (o : Bool) => match o with | x31 => (if x31 = true then (some false) else ((if u14.2.2 = true then (laws_FnShown.l1 u8 u14 ((((u8.2.2.2.2.2.length : Int)) - (0)).toNat + 2) 0) else (some (Lo.go ()))).bind fun (o : Lo Unit Bool) => match o with | .go () => ((spec_DrawRowOf.f p1).bind fun u112 => (impl_RowOf.f u112.1 u112.2.1 u112.2.2.1 u112.2.2.2.1 u112.2.2.2.2.1 u112.2.2.2.2.2).bind fun u117 => (spec_RowOf.f u112.1 u112.2.1 u112.2.2.1 u112.2.2.2.1 u112.2.2.2.2.1 u112.2.2.2.2.2).bind fun u120 => (if (u117.2 != u120.2) = true then (some true) else ((laws_sameInts.f u117.1 u120.1).bind fun u150 => if (!u150) = true then (some true) else (if u117.2 = true then (if (decide ((u117.1.length : Int) > 0)) = true then ((rd? u117.1 (IntKind.i64.wrap ((u117.1.length : Int) - 1))).bind fun u154 => some (u154 == 32)) else (some false)) else (some false)))).bind fun (o : Bool) => match o with | x148 => (if x148 = true then (some false) else ((spec_DrawScreenText.f p1).bind fun u159 => (impl_ScreenText.f u159.1 u159.2.1 u159.2.2.1 u159.2.2.2.1 u159.2.2.2.2).bind fun u164 => (spec_ScreenText.f u159.1 u159.2.1 u159.2.2.1 u159.2.2.2.1 u159.2.2.2.2).bind fun u166 => (if (u164.2 != u166.2) = true then (some true) else (some (!(u164.1.toList == u166.1.toList)))).bind fun (o : Bool) => match o with | x178 => (if x178 = true then (some false) else ((impl_PutRune.f u159.1 u159.2.1 u159.2.2.1 u159.2.2.2.1 u159.2.2.2.2 12354).bind fun u184 => if u184.2.2.2.2.2 = true then ((impl_ShowsAt.f u184.1 u184.2.1 u184.2.2.1 u184.2.2.2.1 u184.2.2.2.2.1 [12354]).bind fun u193 => if u193.2.2 = true then (if (decide (u193.1 < u184.2.2.2.2.1)) = true then (if (decide ((IntKind.i64.wrap ((IntKind.i64.wrap (u184.2.2.2.2.1 * u184.1)) + u184.2.2.2.1)) ≥ 1)) = true then (if (decide ((IntKind.i64.wrap ((IntKind.i64.wrap (u184.2.2.2.2.1 * u184.1)) + u184.2.2.2.1)) ≤ (u184.2.2.1.length : Int))) = true then ((rd? u184.2.2.1 (IntKind.i64.wrap ((IntKind.i64.wrap ((IntKind.i64.wrap (u184.2.2.2.2.1 * u184.1)) + u184.2.2.2.1)) - 1))).bind fun u199 => some (u199 == 12354)) else (some false)) else (some false)) else (if (u193.1 == u184.2.2.2.2.1) = true then (if (decide (u193.2.1 < u184.2.2.2.1)) = true then (if (decide ((IntKind.i64.wrap ((IntKind.i64.wrap (u184.2.2.2.2.1 * u184.1)) + u184.2.2.2.1)) ≥ 1)) = true then (if (decide ((IntKind.i64.wrap ((IntKind.i64.wrap (u184.2.2.2.2.1 * u184.1)) + u184.2.2.2.1)) ≤ (u184.2.2.1.length : Int))) = true then ((rd? u184.2.2.1 (IntKind.i64.wrap ((IntKind.i64.wrap ((IntKind.i64.wrap (u184.2.2.2.2.1 * u184.1)) + u184.2.2.2.1)) - 1))).bind fun u204 => some (u204 == 12354)) else (some false)) else (some false)) else (some false)) else (some false))) else (some false)) else (some true)))))) | .ret z => some z)))
def laws_FnShown.post (sb s : St) (F0 : Fp) (r : Bool) : Value → St → Prop := fun v s' => v = .bool r ∧ Hp sb s F0 s' []
set_option maxRecDepth 100000 in
set_option maxHeartbeats 4000000 in
theorem laws_FnShown.ok (sb s : St) (F0 : Fp) (A0p : Option Addr) (c0p : Nat) (p0 : List (Int)) (A1p : Option Addr) (c1p : Nat) (p1 : List (Int)) (HRp0 : Rd (Kd.int .u8) sb A0p c0p p0) (HRp1 : Rd (Kd.int .u8) sb A1p c1p p1) (hH : Hp sb s F0 s []) (r : Bool) (H : laws_FnShown.f p0 p1 = some r) : GCall Try.prog 10 #[.slice A0p p0.length c0p, .slice A1p p1.length c1p] s (laws_FnShown.post sb s F0 r) := by
 refine GCall_ofr (laws_FnShown.post sb s F0) [.tmp 4] (ud [.slice A0p p0.length c0p, .slice A1p p1.length c1p] 223) Try.func10 rfl rfl rfl fun w Q hQr hQn hQp => ?_
 replace H := topE H
 unfold laws_FnShown.f at H
 dsimp only [ud, un]
 refine sr fun K1 hK1 => ag (HL_nil (hK1 _ _ ?_))
 dsimp only [putL, setL, evL, getL]
 refine HT_seq_k fun K2 hK2 => sr fun K3 hK3 => mv (mv ?_)
 replace H := headE H
 obtain ⟨u4, hu4, H⟩ := H
 refine hc (o_call (args := #[.slice A0p p0.length c0p, .slice A1p p1.length c1p]) Try.func14 rfl rfl rfl (laws_big.ok sb s no A0p c0p p0 A1p c1p p1 HRp0 HRp1 (Hp.own hH.bs) _ hu4) ?_)
 rintro _ s4 ⟨rfl, hD⟩
 replace hH := hH.back0 hD (Up.refl _ _ _)
 clear hD
 refine HL_nil (hK3 _ _ ?_)
 try dsimp only [putL, setL, evL, getL]
 revert H
 refine ct rfl (fun hb5 H => ?_) (fun hb5 H => ?_)
 ·refine sr fun K6 hK6 => ag (HL_nil (hK6 _ _ ?_))
  dsimp only [putL, setL, evL, getL]
  refine HT_ret ?_
  exact hQr _ _ [.bool true] _ ⟨rfl, trivial⟩ H ⟨rfl, hH⟩
 ·refine HT_skip (hK2 _ _ (sr fun K7 hK7 => (mv ?_)))
  replace H := headE H
  obtain ⟨u8, hu8, H⟩ := H
  refine hc (o_call (args := #[.slice A0p p0.length c0p]) Try.func78 rfl rfl rfl (spec_DrawShowsAt.ok sb s4 no A0p c0p p0 HRp0 (Hp.own hH.bs) _ hu8) ?_)
  rintro _ s8 ⟨A9, c9, A10, c10, rfl, hD⟩
  replace hH := hH.back0 hD (Up.refl _ _ _)
  clear hD
  refine mv ?_
  dsimp only [putL, setL, evL, getL]
  refine hc (o_extract rfl rfl (hc (o_extract rfl rfl (hc (o_allocH hH tI66 ?_)))))
  clear hH
  intro b11 s11 hH _
  try dsimp only [putL, setL, evL, getL]
  refine hc (o_stvH (vs := [.int .i64 u8.1, .int .i64 u8.2.1, .slice A9 u8.2.2.1.length c9, .int .i64 u8.2.2.2.1, .int .i64 u8.2.2.2.2.1]) (us' := [.int .i64 u8.1, .int .i64 u8.2.1, .slice A9 u8.2.2.1.length c9, .int .i64 u8.2.2.2.1, .int .i64 u8.2.2.2.2.1]) hH 2 rfl rfl rfl rfl rfl tI66 rfl (List.cons_ne_nil _ _) rfl rfl rfl ?_)
  clear hH
  intro s12 hH
  refine ag (HL_nil (hK7 _ _ ?_))
  dsimp only [putL, setL, evL, getL]
  refine sr fun K13 hK13 => hc (o_loads' [.int .i64 u8.1, .int .i64 u8.2.1, .slice A9 u8.2.2.1.length c9, .int .i64 u8.2.2.2.1, .int .i64 u8.2.2.2.2.1] rfl Try.underlying66 rfl tI66 rfl (hH.partv 2 rfl (0) [.int .i64 u8.1, .int .i64 u8.2.1, .slice A9 u8.2.2.1.length c9, .int .i64 u8.2.2.2.1, .int .i64 u8.2.2.2.2.1] rfl) (mv ?_))
  replace H := headE H
  obtain ⟨u14, hu14, H⟩ := H
  refine hc (o_call (args := #[.agg #[.int .i64 u8.1, .int .i64 u8.2.1, .slice A9 u8.2.2.1.length c9, .int .i64 u8.2.2.2.1, .int .i64 u8.2.2.2.2.1], .slice A10 u8.2.2.2.2.2.length c10]) Try.func79 rfl rfl rfl (impl_ShowsAt.ok s12 s12 no u8.1 u8.2.1 A9 c9 u8.2.2.1 u8.2.2.2.1 u8.2.2.2.2.1 A10 c10 u8.2.2.2.2.2 (hH.rd 0 rfl) (hH.rd 1 rfl) (Hp.own (Bs.refl s12)) _ hu14) ?_)
  rintro _ s14 ⟨rfl, hD⟩
  replace hH := hH.back0T hD
  clear hD
  try dsimp only [putL, setL, evL, getL]
  refine mv (hc (o_extract rfl rfl (hc (o_extract rfl rfl ?_))))
  dsimp only [putL, setL, evL, getL]
  refine hc (o_extract rfl rfl (ag (ag ?_)))
  dsimp only [putL, setL, evL, getL]
  refine ag (HL_nil (hK13 _ _ ?_))
  dsimp only [putL, setL, evL, getL]
  refine sr fun K15 hK15 => hc (o_loads' [.int .i64 u8.1, .int .i64 u8.2.1, .slice A9 u8.2.2.1.length c9, .int .i64 u8.2.2.2.1, .int .i64 u8.2.2.2.2.1] rfl Try.underlying66 rfl tI66 rfl (hH.partv 2 rfl (0) [.int .i64 u8.1, .int .i64 u8.2.1, .slice A9 u8.2.2.1.length c9, .int .i64 u8.2.2.2.1, .int .i64 u8.2.2.2.2.1] rfl) (mv ?_))
  replace H := headE H
  obtain ⟨u16, hu16, H⟩ := H
  refine hc (o_call (args := #[.agg #[.int .i64 u8.1, .int .i64 u8.2.1, .slice A9 u8.2.2.1.length c9, .int .i64 u8.2.2.2.1, .int .i64 u8.2.2.2.2.1], .slice A10 u8.2.2.2.2.2.length c10]) Try.func80 rfl rfl rfl (spec_ShowsAt.ok s14 s14 no u8.1 u8.2.1 A9 c9 u8.2.2.1 u8.2.2.2.1 u8.2.2.2.2.1 A10 c10 u8.2.2.2.2.2 (hH.rd 0 rfl) (hH.rd 1 rfl) (Hp.own (Bs.refl s14)) _ hu16) ?_)
  rintro _ s16 ⟨rfl, hD⟩
  replace hH := hH.back0T hD
  clear hD
  try dsimp only [putL, setL, evL, getL]
  refine mv (hc (o_extract rfl rfl (hc (o_extract rfl rfl ?_))))
  dsimp only [putL, setL, evL, getL]
  refine hc (o_extract rfl rfl (ag (ag ?_)))
  dsimp only [putL, setL, evL, getL]
  refine ag (HL_nil (hK15 _ _ ?_))
  dsimp only [putL, setL, evL, getL]
  refine HT_seq_k fun K27 hK27 => ?_
  refine joinH H fun G28 hG28 H => ?_
  refine HT_joinK (fun l' s' => ∃ (x31 : Bool), G28 x31 = some r ∧ skim [1, 3, 0, 0, 0, 0, 55] l' = ([.slice A1p p1.length c1p, .pointer (some ⟨b11, 0, none⟩), .slice A10 u8.2.2.2.2.2.length c10, .int .i64 u14.1, .int .i64 u14.2.1, .bool u14.2.2, .bool x31], 160) ∧ Hp sb s F0 s' [Ck.ol OI 3 A10 c10 u8.2.2.2.2.2, Ck.ol OI 3 A9 c9 u8.2.2.1, Ck.ov b11 [.int .i64 u8.1, .int .i64 u8.2.1, .slice A9 u8.2.2.1.length c9, .int .i64 u8.2.2.2.1, .int .i64 u8.2.2.2.2.1] 66]) ?_ ?_
  ·intro K28 hK28
   refine HT_region ?_
   refine mv (mv (hc (o_neb rfl rfl Try.underlying4 ?_)))
   dsimp only [putL, setL, evL, getL]
   refine mv ?_
   revert H
   refine it (fun hb32 H => ?_) (fun hb32 H => ?_)
   ·refine wf rfl rfl rfl rfl hb32 (wf rfl rfl rfl rfl hb32 ?_)
    dsimp only [putL, setL, evL, getL]
    refine wf rfl rfl rfl rfl hb32 (hc (o_pickT rfl hb32 (mv ?_)))
    dsimp only [putL, setL, evL, getL]
    refine wf rfl rfl rfl rfl rfl (wf rfl rfl rfl rfl rfl (wf rfl rfl rfl rfl rfl ?_))
    dsimp only [putL, setL, evL, getL]
    refine hc (o_pickT rfl rfl (HL_nil ?_))
    exact hK28 _ _ ⟨true, H, rfl, hH.sel [1, 0, 2] (by decide)⟩
   ·refine wt rfl rfl rfl rfl hb32 (o_move (wt rfl rfl rfl rfl hb32 (o_move ?_)))
    dsimp only [putL, setL, evL, getL]
    refine wt rfl rfl rfl rfl hb32 (o_bin rfl rfl rfl (hc (o_pickF rfl hb32 (mv ?_))))
    revert H
    refine it (fun hb33 H => ?_) (fun hb33 H => ?_)
    ·refine wf rfl rfl rfl rfl hb33 ?_
     dsimp only [putL, setL, evL, getL]
     refine wf rfl rfl rfl rfl hb33 (wf rfl rfl rfl rfl hb33 (hc (o_pickT rfl hb33 (HL_nil ?_))))
     exact hK28 _ _ ⟨true, H, rfl, hH.sel [1, 0, 2] (by decide)⟩
    ·refine wt rfl rfl rfl rfl hb33 (o_move ?_)
     dsimp only [putL, setL, evL, getL]
     refine wt rfl rfl rfl rfl hb33 (o_move (wt rfl rfl rfl rfl hb33 (o_bin rfl rfl rfl (hc (o_pickF rfl hb33 (HL_nil ?_))))))
     exact hK28 _ _ ⟨u14.2.1 != u16.2.1, H, rfl, hH.sel [1, 0, 2] (by decide)⟩
  ·rintro l' s34 ⟨x31, H, hl, hH⟩
   revert l'
   refine skA ?_
   dsimp only [Al, Sk]
   intros
   replace H := hG28 _ H
   try dsimp only at H
   revert H
   refine ct rfl (fun hb35 H => ?_) (fun hb35 H => ?_)
   ·refine sr fun K36 hK36 => ?_
    try dsimp only [putL, setL, evL, getL]
    refine ag (HL_nil (hK36 _ _ ?_))
    dsimp only [putL, setL, evL, getL]
    refine HT_ret ?_
    exact hQr _ _ [.bool false] _ ⟨rfl, trivial⟩ H ⟨rfl, hH.sel [] (by decide)⟩
   ·refine HT_skip (hK27 _ _ ?_)
    refine joinH H fun G37 hG37 H => ?_
    refine HT_joinK (fun l' s' => G37 (.go ()) = some r ∧ skim [1] l' = ([.slice A1p p1.length c1p], 224) ∧ Hp sb s F0 s' []) ?_ ?_
    ·intro K37 hK37
     refine sr fun K74 hK74 => mv (HL_nil (hK74 _ _ ?_))
     dsimp only [putL, setL, evL, getL]
     revert H
     refine ct rfl (fun hb75 H => ?_) (fun hb75 H => ?_)
     ·refine sr fun K76 hK76 => mv (hc (o_len rfl Try.underlying24 (mv (HL_nil (hK76 _ _ ?_)))))
      dsimp only [putL, setL, evL, getL]
      refine HT_block ?_
      refine HT_loopK (fun kf l' s' => ∃ (x87 : Int), (laws_FnShown.l1 u8 u14 kf x87).bind G37 = some r ∧ skim [1, 3, 1, 0, 58, 0, 0] l' = ([.slice A1p p1.length c1p, .pointer (some ⟨b11, 0, none⟩), .int .i64 u14.1, .int .i64 u14.2.1, .slice A10 u8.2.2.2.2.2.length c10, .int .i64 (u8.2.2.2.2.2.length : Int), .int .i64 x87], 156) ∧ Hp sb s F0 s' [Ck.ol OI 3 A10 c10 u8.2.2.2.2.2, Ck.ol OI 3 A9 c9 u8.2.2.1, Ck.ov b11 [.int .i64 u8.1, .int .i64 u8.2.1, .slice A9 u8.2.2.1.length c9, .int .i64 u8.2.2.2.1, .int .i64 u8.2.2.2.2.1] 66]) ((((u8.2.2.2.2.2.length : Int)) - (0)).toNat + 2) ⟨0, H, rfl, hH⟩ ?_
      rintro kf l' s99 ⟨x87, H, hl, hH⟩ K99 hK99
      revert l'
      refine skA ?_
      dsimp only [Al, Sk]
      intros
      cases kf with
      | zero => simp [laws_FnShown.l1] at H
      | succ kf =>
       rw [laws_FnShown.l1] at H
       refine sr fun K100 hK100 => bn rfl rfl rfl (HL_nil (hK100 _ _ ?_))
       dsimp only [putL, setL, evL, getL]
       refine HT_seq_k fun K101 hK101 => ?_
       revert H
       refine ct rfl (fun hb102 H => ?_) (fun hb102 H => ?_)
       ·refine HT_skip (hK101 _ _ (HT_seq_k fun K103 hK103 => (HT_block (sr fun K104 hK104 => (mv ?_)))))
        replace H := headE H
        obtain ⟨u105, hu105, H⟩ := H
        obtain ⟨b105, o105, cs105, hA105, hr105, hh105, hel105⟩ := hH.elo 0 rfl hu105
        obtain rfl := hr105
        refine hc (hel105 s99 rfl rfl Try.underlying24 tI3 (hc (o_load' rfl Try.underlying3 rfl (hh105 0 _ rfl) ?_)))
        dsimp only [putL, setL, evL, getL]
        refine ag (ag (HL_nil (hK104 _ _ ?_)))
        dsimp only [putL, setL, evL, getL]
        refine sr fun K106 hK106 => hc (o_faddr' (ft := 24) (off := 2) rfl Try.underlying66 rfl tI24 (by decide) (hc (o_load' rfl Try.underlying24 rfl (hH.hasv 2 rfl rfl) (mv ?_))))
        dsimp only [putL, setL, evL, getL]
        refine hc (o_faddr' (ft := 3) (off := 0) rfl Try.underlying66 rfl tI3 (by decide) (hc (o_load' rfl Try.underlying3 rfl (hH.hasv 2 rfl rfl) (bn rfl rfl rfl ?_))))
        dsimp only [putL, setL, evL, getL]
        refine mv (bn rfl rfl rfl (mv ?_))
        dsimp only [putL, setL, evL, getL]
        refine bn rfl rfl rfl ?_
        replace H := headE H
        obtain ⟨u107, hu107, H⟩ := H
        obtain ⟨b107, o107, cs107, hA107, hr107, hh107, hel107⟩ := hH.elo 1 rfl hu107
        obtain rfl := hr107
        refine hc (hel107 s99 rfl rfl Try.underlying24 tI3 (hc (o_load' rfl Try.underlying3 rfl (hh107 0 _ rfl) ?_)))
        dsimp only [putL, setL, evL, getL]
        refine mv (bn rfl rfl rfl (HL_nil (hK106 _ _ ?_)))
        dsimp only [putL, setL, evL, getL]
        revert H
        refine ct rfl (fun hb108 H => ?_) (fun hb108 H => ?_)
        ·refine sr fun K109 hK109 => ag (HL_nil (hK109 _ _ ?_))
         dsimp only [putL, setL, evL, getL]
         refine HT_ret ?_
         replace H := escH (fun z hz => hG37 _ hz) H
         exact hQr _ _ [.bool false] _ ⟨rfl, trivial⟩ H ⟨rfl, hH.sel [] (by decide)⟩
        ·refine HT_skip (hK103 _ _ ?_)
         refine HT_region ?_
         refine bn rfl rfl rfl (mv (HL_nil ?_))
         exact hK99 _ _ ⟨kf, Nat.lt_succ_self kf, IntKind.i64.wrap (x87 + 1), H, rfl, hH⟩
       ·refine HT_exit ?_
        exact hK37 _ _ ⟨H, rfl, hH.sel [] (by decide)⟩
     ·refine HT_skip ?_
      exact hK37 _ _ ⟨H, rfl, hH.sel [] (by decide)⟩
    ·rintro l' s110 ⟨H, hl, hH⟩
     revert l'
     refine skA ?_
     dsimp only [Al, Sk]
     intros
     replace H := hG37 _ H
     try dsimp only at H
     refine sr fun K111 hK111 => mv ?_
     replace H := headE H
     obtain ⟨u112, hu112, H⟩ := H
     try dsimp only [putL, setL, evL, getL]
     refine hc (o_call (args := #[.slice A1p p1.length c1p]) Try.func81 rfl rfl rfl (spec_DrawRowOf.ok sb s110 no A1p c1p p1 HRp1 (Hp.own hH.bs) _ hu112) ?_)
     rintro _ s112 ⟨A113, c113, rfl, hD⟩
     replace hH := hH.back0 hD (Up.refl _ _ _)
     clear hD
     refine mv (hc (o_extract rfl rfl ?_))
     dsimp only [putL, setL, evL, getL]
     refine hc (o_extract rfl rfl (hc (o_allocH hH tI66 ?_)))
     clear hH
     intro b114 s114 hH _
     refine hc (o_stvH (vs := [.int .i64 u112.1, .int .i64 u112.2.1, .slice A113 u112.2.2.1.length c113, .int .i64 u112.2.2.2.1, .int .i64 u112.2.2.2.2.1]) (us' := [.int .i64 u112.1, .int .i64 u112.2.1, .slice A113 u112.2.2.1.length c113, .int .i64 u112.2.2.2.1, .int .i64 u112.2.2.2.2.1]) hH 1 rfl rfl rfl rfl rfl tI66 rfl (List.cons_ne_nil _ _) rfl rfl rfl ?_)
     clear hH
     intro s115 hH
     try dsimp only [putL, setL, evL, getL]
     refine ag (HL_nil (hK111 _ _ ?_))
     dsimp only [putL, setL, evL, getL]
     refine sr fun K116 hK116 => hc (o_loads' [.int .i64 u112.1, .int .i64 u112.2.1, .slice A113 u112.2.2.1.length c113, .int .i64 u112.2.2.2.1, .int .i64 u112.2.2.2.2.1] rfl Try.underlying66 rfl tI66 rfl (hH.partv 1 rfl (0) [.int .i64 u112.1, .int .i64 u112.2.1, .slice A113 u112.2.2.1.length c113, .int .i64 u112.2.2.2.1, .int .i64 u112.2.2.2.2.1] rfl) (mv ?_))
     replace H := headE H
     obtain ⟨u117, hu117, H⟩ := H
     refine hc (o_call (args := #[.agg #[.int .i64 u112.1, .int .i64 u112.2.1, .slice A113 u112.2.2.1.length c113, .int .i64 u112.2.2.2.1, .int .i64 u112.2.2.2.2.1], .int .i64 u112.2.2.2.2.2]) Try.func82 rfl rfl rfl (impl_RowOf.ok s115 s115 no u112.1 u112.2.1 A113 c113 u112.2.2.1 u112.2.2.2.1 u112.2.2.2.2.1 u112.2.2.2.2.2 (hH.rd 0 rfl) (Hp.own (Bs.refl s115)) _ hu117) ?_)
     rintro _ s117 ⟨A118, c118, rfl, hD⟩
     replace hH := hH.back0T hD
     clear hD
     try dsimp only [putL, setL, evL, getL]
     refine mv (hc (o_extract rfl rfl (hc (o_extract rfl rfl ?_))))
     dsimp only [putL, setL, evL, getL]
     refine ag (ag (HL_nil (hK116 _ _ ?_)))
     dsimp only [putL, setL, evL, getL]
     refine sr fun K119 hK119 => hc (o_loads' [.int .i64 u112.1, .int .i64 u112.2.1, .slice A113 u112.2.2.1.length c113, .int .i64 u112.2.2.2.1, .int .i64 u112.2.2.2.2.1] rfl Try.underlying66 rfl tI66 rfl (hH.partv 1 rfl (0) [.int .i64 u112.1, .int .i64 u112.2.1, .slice A113 u112.2.2.1.length c113, .int .i64 u112.2.2.2.1, .int .i64 u112.2.2.2.2.1] rfl) (mv ?_))
     replace H := headE H
     obtain ⟨u120, hu120, H⟩ := H
     refine hc (o_call (args := #[.agg #[.int .i64 u112.1, .int .i64 u112.2.1, .slice A113 u112.2.2.1.length c113, .int .i64 u112.2.2.2.1, .int .i64 u112.2.2.2.2.1], .int .i64 u112.2.2.2.2.2]) Try.func83 rfl rfl rfl (spec_RowOf.ok s117 s117 no u112.1 u112.2.1 A113 c113 u112.2.2.1 u112.2.2.2.1 u112.2.2.2.2.1 u112.2.2.2.2.2 (hH.rd 0 rfl) (Hp.own (Bs.refl s117)) _ hu120) ?_)
     rintro _ s120 ⟨A121, c121, rfl, hD⟩
     replace hH := hH.back0T hD
     clear hD
     try dsimp only [putL, setL, evL, getL]
     refine mv (hc (o_extract rfl rfl (hc (o_extract rfl rfl ?_))))
     dsimp only [putL, setL, evL, getL]
     refine ag (ag (HL_nil (hK119 _ _ ?_)))
     dsimp only [putL, setL, evL, getL]
     refine HT_seq_k fun K140 hK140 => ?_
     refine joinH H fun G141 hG141 H => ?_
     refine HT_joinK (fun l' s' => ∃ (x148 : Bool), G141 x148 = some r ∧ skim [1, 129] l' = ([.slice A1p p1.length c1p, .bool x148], 94) ∧ Hp sb s F0 s' []) ?_ ?_
     ·intro K141 hK141
      refine HT_region ?_
      refine mv (mv (hc (o_neb rfl rfl Try.underlying4 ?_)))
      dsimp only [putL, setL, evL, getL]
      refine mv ?_
      revert H
      refine it (fun hb149 H => ?_) (fun hb149 H => ?_)
      ·refine wf rfl rfl rfl rfl hb149 (wf rfl rfl rfl rfl hb149 ?_)
       dsimp only [putL, setL, evL, getL]
       refine wf rfl rfl rfl rfl hb149 (wf rfl rfl rfl rfl hb149 (hc (o_pickT rfl hb149 ?_)))
       dsimp only [putL, setL, evL, getL]
       refine mv (wf rfl rfl rfl rfl rfl (wf rfl rfl rfl rfl rfl ?_))
       dsimp only [putL, setL, evL, getL]
       refine wu rfl rfl rfl rfl (wu rfl rfl rfl rfl (wu rfl rfl rfl rfl ?_))
       dsimp only [putL, setL, evL, getL]
       refine wf rfl rfl rfl rfl rfl (wf rfl rfl rfl rfl rfl (wu rfl rfl rfl rfl ?_))
       dsimp only [putL, setL, evL, getL]
       refine wu rfl rfl rfl rfl (wu rfl rfl rfl rfl (wu rfl rfl rfl rfl ?_))
       dsimp only [putL, setL, evL, getL]
       refine wu rfl rfl rfl rfl (wu rfl rfl rfl rfl (wu rfl rfl rfl rfl ?_))
       dsimp only [putL, setL, evL, getL]
       refine wf rfl rfl rfl rfl rfl (hc (o_pickT rfl rfl (HL_nil ?_)))
       exact hK141 _ _ ⟨true, H, rfl, hH.sel [] (by decide)⟩
      ·refine wt rfl rfl rfl rfl hb149 (o_move ?_)
       dsimp only [putL, setL, evL, getL]
       refine wt rfl rfl rfl rfl hb149 (o_move ?_)
       replace H := headE H
       obtain ⟨u150, hu150, H⟩ := H
       refine wt rfl rfl rfl rfl hb149 (o_call (args := #[.slice A118 u117.1.length c118, .slice A121 u120.1.length c121]) Try.func18 rfl rfl rfl (laws_sameInts.ok s120 s120 no A118 c118 u117.1 A121 c121 u120.1 (hH.rd 2 rfl) (hH.rd 3 rfl) (Hp.own (Bs.refl s120)) _ hu150) ?_)
       rintro _ s150 ⟨rfl, hD⟩
       replace hH := hH.back0T hD
       clear hD
       refine wt rfl rfl rfl rfl hb149 (o_not rfl ?_)
       dsimp only [putL, setL, evL, getL]
       refine hc (o_pickF rfl hb149 (mv ?_))
       revert H
       refine it (fun hb151 H => ?_) (fun hb151 H => ?_)
       ·refine wf rfl rfl rfl rfl hb151 ?_
        dsimp only [putL, setL, evL, getL]
        refine wf rfl rfl rfl rfl hb151 (wu rfl rfl rfl rfl (wu rfl rfl rfl rfl ?_))
        dsimp only [putL, setL, evL, getL]
        refine wu rfl rfl rfl rfl (wf rfl rfl rfl rfl hb151 (wf rfl rfl rfl rfl hb151 ?_))
        dsimp only [putL, setL, evL, getL]
        refine wu rfl rfl rfl rfl (wu rfl rfl rfl rfl (wu rfl rfl rfl rfl ?_))
        dsimp only [putL, setL, evL, getL]
        refine wu rfl rfl rfl rfl (wu rfl rfl rfl rfl (wu rfl rfl rfl rfl ?_))
        dsimp only [putL, setL, evL, getL]
        refine wu rfl rfl rfl rfl (wf rfl rfl rfl rfl hb151 (hc (o_pickT rfl hb151 (HL_nil ?_))))
        exact hK141 _ _ ⟨true, H, rfl, hH.sel [] (by decide)⟩
       ·refine wt rfl rfl rfl rfl hb151 (o_move ?_)
        dsimp only [putL, setL, evL, getL]
        refine wt rfl rfl rfl rfl hb151 (o_move ?_)
        revert H
        refine it (fun hb152 H => ?_) (fun hb152 H => ?_)
        ·refine wt rfl rfl rfl rfl hb152 (o_move (wt rfl rfl rfl rfl hb152 (o_len rfl Try.underlying24 ?_)))
         dsimp only [putL, setL, evL, getL]
         refine wt rfl rfl rfl rfl hb152 (o_bin rfl rfl rfl (wt rfl rfl rfl rfl hb151 (o_pickT rfl hb152 (wt rfl rfl rfl rfl hb151 (o_move ?_)))))
         revert H
         refine it (fun hb153 H => ?_) (fun hb153 H => ?_)
         ·refine wt rfl rfl rfl rfl hb153 (o_move ?_)
          dsimp only [putL, setL, evL, getL]
          refine wt rfl rfl rfl rfl hb153 (o_move (wt rfl rfl rfl rfl hb153 (o_len rfl Try.underlying24 (wt rfl rfl rfl rfl hb153 (o_bin rfl rfl rfl ?_)))))
          replace H := headE H
          obtain ⟨u154, hu154, H⟩ := H
          obtain ⟨b154, o154, cs154, hA154, hr154, hh154, hel154⟩ := hH.elo 2 rfl hu154
          obtain rfl := hr154
          try dsimp only [putL, setL, evL, getL]
          refine wt rfl rfl rfl rfl hb153 (hel154 s150 rfl rfl Try.underlying24 tI3 (wt rfl rfl rfl rfl hb153 (o_load' rfl Try.underlying3 rfl (hh154 0 _ rfl) (wt rfl rfl rfl rfl hb153 (o_bin rfl rfl rfl ?_)))))
          dsimp only [putL, setL, evL, getL]
          refine wt rfl rfl rfl rfl hb151 (o_pickT rfl hb153 (hc (o_pickF rfl hb151 (HL_nil ?_))))
          exact hK141 _ _ ⟨u154 == 32, H, rfl, hH.sel [] (by decide)⟩
         ·refine wf rfl rfl rfl rfl hb153 ?_
          dsimp only [putL, setL, evL, getL]
          refine wf rfl rfl rfl rfl hb153 (wf rfl rfl rfl rfl hb153 (wf rfl rfl rfl rfl hb153 ?_))
          dsimp only [putL, setL, evL, getL]
          refine wf rfl rfl rfl rfl hb153 (wf rfl rfl rfl rfl hb153 (wf rfl rfl rfl rfl hb153 ?_))
          dsimp only [putL, setL, evL, getL]
          refine wt rfl rfl rfl rfl hb151 (o_pickF rfl hb153 (hc (o_pickF rfl hb151 (HL_nil ?_))))
          exact hK141 _ _ ⟨false, H, rfl, hH.sel [] (by decide)⟩
        ·refine wf rfl rfl rfl rfl hb152 ?_
         dsimp only [putL, setL, evL, getL]
         refine wf rfl rfl rfl rfl hb152 (wf rfl rfl rfl rfl hb152 (wt rfl rfl rfl rfl hb151 (o_pickF rfl hb152 ?_)))
         dsimp only [putL, setL, evL, getL]
         refine wt rfl rfl rfl rfl hb151 (o_move (wf rfl rfl rfl rfl rfl (wf rfl rfl rfl rfl rfl ?_)))
         dsimp only [putL, setL, evL, getL]
         refine wf rfl rfl rfl rfl rfl (wf rfl rfl rfl rfl rfl (wf rfl rfl rfl rfl rfl ?_))
         dsimp only [putL, setL, evL, getL]
         refine wf rfl rfl rfl rfl rfl (wf rfl rfl rfl rfl rfl (wt rfl rfl rfl rfl hb151 (o_pickF rfl rfl ?_)))
         dsimp only [putL, setL, evL, getL]
         refine hc (o_pickF rfl hb151 (HL_nil ?_))
         exact hK141 _ _ ⟨false, H, rfl, hH.sel [] (by decide)⟩
     ·rintro l' s155 ⟨x148, H, hl, hH⟩
      revert l'
      refine skA ?_
      dsimp only [Al, Sk]
      intros
      replace H := hG141 _ H
      try dsimp only at H
      revert H
      refine ct rfl (fun hb156 H => ?_) (fun hb156 H => ?_)
      ·refine sr fun K157 hK157 => ag (HL_nil (hK157 _ _ ?_))
       dsimp only [putL, setL, evL, getL]
       refine HT_ret ?_
       exact hQr _ _ [.bool false] _ ⟨rfl, trivial⟩ H ⟨rfl, hH⟩
      ·refine HT_skip (hK140 _ _ (sr fun K158 hK158 => (mv ?_)))
       replace H := headE H
       obtain ⟨u159, hu159, H⟩ := H
       refine hc (o_call (args := #[.slice A1p p1.length c1p]) Try.func84 rfl rfl rfl (spec_DrawScreenText.ok sb s155 no A1p c1p p1 HRp1 (Hp.own hH.bs) _ hu159) ?_)
       rintro _ s159 ⟨A160, c160, rfl, hD⟩
       replace hH := hH.back0 hD (Up.refl _ _ _)
       clear hD
       refine hc (o_allocH hH tI66 ?_)
       clear hH
       intro b161 s161 hH _
       try dsimp only [putL, setL, evL, getL]
       refine hc (o_stvH (vs := [.int .i64 u159.1, .int .i64 u159.2.1, .slice A160 u159.2.2.1.length c160, .int .i64 u159.2.2.2.1, .int .i64 u159.2.2.2.2]) (us' := [.int .i64 u159.1, .int .i64 u159.2.1, .slice A160 u159.2.2.1.length c160, .int .i64 u159.2.2.2.1, .int .i64 u159.2.2.2.2]) hH 1 rfl rfl rfl rfl rfl tI66 rfl (List.cons_ne_nil _ _) rfl rfl rfl ?_)
       clear hH
       intro s162 hH
       refine HL_nil (hK158 _ _ ?_)
       try dsimp only [putL, setL, evL, getL]
       refine sr fun K163 hK163 => hc (o_loads' [.int .i64 u159.1, .int .i64 u159.2.1, .slice A160 u159.2.2.1.length c160, .int .i64 u159.2.2.2.1, .int .i64 u159.2.2.2.2] rfl Try.underlying66 rfl tI66 rfl (hH.partv 1 rfl (0) [.int .i64 u159.1, .int .i64 u159.2.1, .slice A160 u159.2.2.1.length c160, .int .i64 u159.2.2.2.1, .int .i64 u159.2.2.2.2] rfl) ?_)
       replace H := headE H
       obtain ⟨u164, hu164, H⟩ := H
       refine hc (o_call (args := #[.agg #[.int .i64 u159.1, .int .i64 u159.2.1, .slice A160 u159.2.2.1.length c160, .int .i64 u159.2.2.2.1, .int .i64 u159.2.2.2.2]]) Try.func85 rfl rfl rfl (impl_ScreenText.ok s162 s162 no u159.1 u159.2.1 A160 c160 u159.2.2.1 u159.2.2.2.1 u159.2.2.2.2 (hH.rd 0 rfl) (Hp.own (Bs.refl s162)) _ hu164) ?_)
       rintro _ s164 ⟨rfl, hD⟩
       replace hH := hH.back0T hD
       clear hD
       refine mv ?_
       dsimp only [putL, setL, evL, getL]
       refine hc (o_extract rfl rfl (hc (o_extract rfl rfl (ag ?_))))
       dsimp only [putL, setL, evL, getL]
       refine ag (HL_nil (hK163 _ _ ?_))
       dsimp only [putL, setL, evL, getL]
       refine sr fun K165 hK165 => hc (o_loads' [.int .i64 u159.1, .int .i64 u159.2.1, .slice A160 u159.2.2.1.length c160, .int .i64 u159.2.2.2.1, .int .i64 u159.2.2.2.2] rfl Try.underlying66 rfl tI66 rfl (hH.partv 1 rfl (0) [.int .i64 u159.1, .int .i64 u159.2.1, .slice A160 u159.2.2.1.length c160, .int .i64 u159.2.2.2.1, .int .i64 u159.2.2.2.2] rfl) ?_)
       replace H := headE H
       obtain ⟨u166, hu166, H⟩ := H
       refine hc (o_call (args := #[.agg #[.int .i64 u159.1, .int .i64 u159.2.1, .slice A160 u159.2.2.1.length c160, .int .i64 u159.2.2.2.1, .int .i64 u159.2.2.2.2]]) Try.func86 rfl rfl rfl (spec_ScreenText.ok s164 s164 no u159.1 u159.2.1 A160 c160 u159.2.2.1 u159.2.2.2.1 u159.2.2.2.2 (hH.rd 0 rfl) (Hp.own (Bs.refl s164)) _ hu166) ?_)
       rintro _ s166 ⟨rfl, hD⟩
       replace hH := hH.back0T hD
       clear hD
       refine mv ?_
       dsimp only [putL, setL, evL, getL]
       refine hc (o_extract rfl rfl (hc (o_extract rfl rfl (ag ?_))))
       dsimp only [putL, setL, evL, getL]
       refine ag (HL_nil (hK165 _ _ ?_))
       dsimp only [putL, setL, evL, getL]
       refine HT_seq_k fun K175 hK175 => ?_
       refine joinH H fun G176 hG176 H => ?_
       refine HT_joinK (fun l' s' => ∃ (x178 : Bool), G176 x178 = some r ∧ skim [21, 129] l' = ([.pointer (some ⟨b161, 0, none⟩), .bool x178], 74) ∧ Hp sb s F0 s' [Ck.ol OI 3 A160 c160 u159.2.2.1, Ck.ov b161 [.int .i64 u159.1, .int .i64 u159.2.1, .slice A160 u159.2.2.1.length c160, .int .i64 u159.2.2.2.1, .int .i64 u159.2.2.2.2] 66]) ?_ ?_
       ·intro K176 hK176
        refine HT_region ?_
        refine mv (mv (hc (o_neb rfl rfl Try.underlying4 ?_)))
        dsimp only [putL, setL, evL, getL]
        refine mv ?_
        revert H
        refine it (fun hb179 H => ?_) (fun hb179 H => ?_)
        ·refine wf rfl rfl rfl rfl hb179 (wf rfl rfl rfl rfl hb179 ?_)
         dsimp only [putL, setL, evL, getL]
         refine wf rfl rfl rfl rfl hb179 (hc (o_pickT rfl hb179 (HL_nil ?_)))
         exact hK176 _ _ ⟨true, H, rfl, hH⟩
        ·refine wt rfl rfl rfl rfl hb179 (o_move ?_)
         dsimp only [putL, setL, evL, getL]
         refine wt rfl rfl rfl rfl hb179 (o_move (wt rfl rfl rfl rfl hb179 (o_strB rfl rfl rfl (hc (o_pickF rfl hb179 (HL_nil ?_))))))
         exact hK176 _ _ ⟨!(u164.1.toList == u166.1.toList), H, rfl, hH⟩
       ·rintro l' s180 ⟨x178, H, hl, hH⟩
        revert l'
        refine skA ?_
        dsimp only [Al, Sk]
        intros
        replace H := hG176 _ H
        try dsimp only at H
        revert H
        refine ct rfl (fun hb181 H => ?_) (fun hb181 H => ?_)
        ·refine sr fun K182 hK182 => ?_
         try dsimp only [putL, setL, evL, getL]
         refine ag (HL_nil (hK182 _ _ ?_))
         dsimp only [putL, setL, evL, getL]
         refine HT_ret ?_
         exact hQr _ _ [.bool false] _ ⟨rfl, trivial⟩ H ⟨rfl, hH.sel [] (by decide)⟩
        ·refine HT_skip (hK175 _ _ (sr fun K183 hK183 => (hc (o_loads' [.int .i64 u159.1, .int .i64 u159.2.1, .slice A160 u159.2.2.1.length c160, .int .i64 u159.2.2.2.1, .int .i64 u159.2.2.2.2] rfl Try.underlying66 rfl tI66 rfl (hH.partv 1 rfl (0) [.int .i64 u159.1, .int .i64 u159.2.1, .slice A160 u159.2.2.1.length c160, .int .i64 u159.2.2.2.1, .int .i64 u159.2.2.2.2] rfl) ?_))))
         replace H := headE H
         obtain ⟨u184, hu184, H⟩ := H
         refine hc (o_call (args := #[.agg #[.int .i64 u159.1, .int .i64 u159.2.1, .slice A160 u159.2.2.1.length c160, .int .i64 u159.2.2.2.1, .int .i64 u159.2.2.2.2], .int .i64 12354]) Try.func54 rfl rfl rfl (impl_PutRune.ok s180 s180 no u159.1 u159.2.1 A160 c160 u159.2.2.1 u159.2.2.2.1 u159.2.2.2.2 12354 (hH.rd 0 rfl) (Hp.own (Bs.refl s180)) _ hu184) ?_)
         rintro _ s184 ⟨A185, c185, rfl, hD⟩
         replace hH := hH.back0T hD
         clear hD
         refine mv ?_
         dsimp only [putL, setL, evL, getL]
         refine hc (o_extract rfl rfl (hc (o_extract rfl rfl (hc (o_allocH hH tI66 ?_)))))
         clear hH
         intro b186 s186 hH _
         try dsimp only [putL, setL, evL, getL]
         refine hc (o_stvH (vs := [.int .i64 u184.1, .int .i64 u184.2.1, .slice A185 u184.2.2.1.length c185, .int .i64 u184.2.2.2.1, .int .i64 u184.2.2.2.2.1]) (us' := [.int .i64 u184.1, .int .i64 u184.2.1, .slice A185 u184.2.2.1.length c185, .int .i64 u184.2.2.2.1, .int .i64 u184.2.2.2.2.1]) hH 3 rfl rfl rfl rfl rfl tI66 rfl (List.cons_ne_nil _ _) rfl rfl rfl ?_)
         clear hH
         intro s187 hH
         refine ag (HL_nil (hK183 _ _ ?_))
         dsimp only [putL, setL, evL, getL]
         refine HT_seq_k fun K188 hK188 => sr fun K189 hK189 => mv (HL_nil (hK189 _ _ ?_))
         dsimp only [putL, setL, evL, getL]
         revert H
         refine ct rfl (fun hb190 H => ?_) (fun hb190 H => ?_)
         ·refine sr fun K191 hK191 => hc (o_loads' [.int .i64 u184.1, .int .i64 u184.2.1, .slice A185 u184.2.2.1.length c185, .int .i64 u184.2.2.2.1, .int .i64 u184.2.2.2.2.1] rfl Try.underlying66 rfl tI66 rfl (hH.partv 3 rfl (0) [.int .i64 u184.1, .int .i64 u184.2.1, .slice A185 u184.2.2.1.length c185, .int .i64 u184.2.2.2.1, .int .i64 u184.2.2.2.2.1] rfl) (hc (o_litF (K := KI) (O := OI) (ca := #[.int .i64 12354]) [[.int .i64 12354]] [12354] hH Try.underlying24 tI3 rfl (by decide) rfl rfl (by kernel_rfl) rfl ⟨rfl, Ent.own (Ent.flat rfl), trivial⟩ ?_)))
          clear hH
          intro A192 s192 hH _
          replace H := headE H
          obtain ⟨u193, hu193, H⟩ := H
          refine hc (o_call (args := #[.agg #[.int .i64 u184.1, .int .i64 u184.2.1, .slice A185 u184.2.2.1.length c185, .int .i64 u184.2.2.2.1, .int .i64 u184.2.2.2.2.1], .slice A192 [12354].length 1]) Try.func79 rfl rfl rfl (impl_ShowsAt.ok s192 s192 no u184.1 u184.2.1 A185 c185 u184.2.2.1 u184.2.2.2.1 u184.2.2.2.2.1 A192 1 [12354] (hH.rd 2 rfl) (hH.rd 4 rfl) (Hp.own (Bs.refl s192)) _ hu193) ?_)
          rintro _ s193 ⟨rfl, hD⟩
          replace hH := hH.back0T hD
          clear hD
          try dsimp only [putL, setL, evL, getL]
          refine mv (hc (o_extract rfl rfl (hc (o_extract rfl rfl ?_))))
          dsimp only [putL, setL, evL, getL]
          refine hc (o_extract rfl rfl (ag (ag ?_)))
          dsimp only [putL, setL, evL, getL]
          refine ag (HL_nil (hK191 _ _ ?_))
          dsimp only [putL, setL, evL, getL]
          refine sr fun K194 hK194 => mv (mv ?_)
          revert H
          refine it (fun hb195 H => ?_) (fun hb195 H => ?_)
          ·refine wt rfl rfl rfl rfl hb195 (o_move ?_)
           dsimp only [putL, setL, evL, getL]
           refine wt rfl rfl rfl rfl hb195 (o_faddr' (ft := 3) (off := 4) rfl Try.underlying66 rfl tI3 (by decide) (wt rfl rfl rfl rfl hb195 (o_load' rfl Try.underlying3 rfl (hH.hasv 3 rfl rfl) (wt rfl rfl rfl rfl hb195 (o_bin rfl rfl rfl ?_)))))
           dsimp only [putL, setL, evL, getL]
           refine wt rfl rfl rfl rfl hb195 (o_move ?_)
           revert H
           refine it (fun hb196 H => ?_) (fun hb196 H => ?_)
           ·refine wf rfl rfl rfl rfl hb196 (wf rfl rfl rfl rfl hb196 ?_)
            dsimp only [putL, setL, evL, getL]
            refine wf rfl rfl rfl rfl hb196 (wf rfl rfl rfl rfl hb196 (wf rfl rfl rfl rfl hb196 ?_))
            dsimp only [putL, setL, evL, getL]
            refine wu rfl rfl rfl rfl (wu rfl rfl rfl rfl (wu rfl rfl rfl rfl ?_))
            dsimp only [putL, setL, evL, getL]
            refine wu rfl rfl rfl rfl (wf rfl rfl rfl rfl hb196 (wt rfl rfl rfl rfl hb195 (o_pickT rfl hb196 ?_)))
            dsimp only [putL, setL, evL, getL]
            refine hc (o_pickT rfl hb195 (mv (wt rfl rfl rfl rfl rfl (o_faddr' (ft := 3) (off := 4) rfl Try.underlying66 rfl tI3 (by decide) ?_))))
            dsimp only [putL, setL, evL, getL]
            refine wt rfl rfl rfl rfl rfl (o_load' rfl Try.underlying3 rfl (hH.hasv 3 rfl rfl) (wt rfl rfl rfl rfl rfl (o_faddr' (ft := 3) (off := 0) rfl Try.underlying66 rfl tI3 (by decide) (wt rfl rfl rfl rfl rfl (o_load' rfl Try.underlying3 rfl (hH.hasv 3 rfl rfl) ?_)))))
            dsimp only [putL, setL, evL, getL]
            refine wt rfl rfl rfl rfl rfl (o_bin rfl rfl rfl (wt rfl rfl rfl rfl rfl (o_faddr' (ft := 3) (off := 3) rfl Try.underlying66 rfl tI3 (by decide) (wt rfl rfl rfl rfl rfl (o_load' rfl Try.underlying3 rfl (hH.hasv 3 rfl rfl) ?_)))))
            dsimp only [putL, setL, evL, getL]
            refine wt rfl rfl rfl rfl rfl (o_bin rfl rfl rfl (wt rfl rfl rfl rfl rfl (o_bin rfl rfl rfl (hc (o_pickT rfl rfl ?_)))))
            dsimp only [putL, setL, evL, getL]
            refine mv ?_
            revert H
            refine it (fun hb197 H => ?_) (fun hb197 H => ?_)
            ·refine wt rfl rfl rfl rfl hb197 (o_faddr' (ft := 3) (off := 4) rfl Try.underlying66 rfl tI3 (by decide) (wt rfl rfl rfl rfl hb197 (o_load' rfl Try.underlying3 rfl (hH.hasv 3 rfl rfl) ?_)))
             dsimp only [putL, setL, evL, getL]
             refine wt rfl rfl rfl rfl hb197 (o_faddr' (ft := 3) (off := 0) rfl Try.underlying66 rfl tI3 (by decide) (wt rfl rfl rfl rfl hb197 (o_load' rfl Try.underlying3 rfl (hH.hasv 3 rfl rfl) (wt rfl rfl rfl rfl hb197 (o_bin rfl rfl rfl ?_)))))
             dsimp only [putL, setL, evL, getL]
             refine wt rfl rfl rfl rfl hb197 (o_faddr' (ft := 3) (off := 3) rfl Try.underlying66 rfl tI3 (by decide) (wt rfl rfl rfl rfl hb197 (o_load' rfl Try.underlying3 rfl (hH.hasv 3 rfl rfl) (wt rfl rfl rfl rfl hb197 (o_bin rfl rfl rfl ?_)))))
             dsimp only [putL, setL, evL, getL]
             refine wt rfl rfl rfl rfl hb197 (o_faddr' (ft := 24) (off := 2) rfl Try.underlying66 rfl tI24 (by decide) (wt rfl rfl rfl rfl hb197 (o_load' rfl Try.underlying24 rfl (hH.hasv 3 rfl rfl) (wt rfl rfl rfl rfl hb197 (o_len rfl Try.underlying24 ?_)))))
             dsimp only [putL, setL, evL, getL]
             refine wt rfl rfl rfl rfl hb197 (o_bin rfl rfl rfl (hc (o_pickT rfl hb197 (mv ?_))))
             revert H
             refine it (fun hb198 H => ?_) (fun hb198 H => ?_)
             ·refine wt rfl rfl rfl rfl hb198 (o_faddr' (ft := 24) (off := 2) rfl Try.underlying66 rfl tI24 (by decide) ?_)
              dsimp only [putL, setL, evL, getL]
              refine wt rfl rfl rfl rfl hb198 (o_load' rfl Try.underlying24 rfl (hH.hasv 3 rfl rfl) (wt rfl rfl rfl rfl hb198 (o_faddr' (ft := 3) (off := 4) rfl Try.underlying66 rfl tI3 (by decide) (wt rfl rfl rfl rfl hb198 (o_load' rfl Try.underlying3 rfl (hH.hasv 3 rfl rfl) ?_)))))
              dsimp only [putL, setL, evL, getL]
              refine wt rfl rfl rfl rfl hb198 (o_faddr' (ft := 3) (off := 0) rfl Try.underlying66 rfl tI3 (by decide) (wt rfl rfl rfl rfl hb198 (o_load' rfl Try.underlying3 rfl (hH.hasv 3 rfl rfl) (wt rfl rfl rfl rfl hb198 (o_bin rfl rfl rfl ?_)))))
              dsimp only [putL, setL, evL, getL]
              refine wt rfl rfl rfl rfl hb198 (o_faddr' (ft := 3) (off := 3) rfl Try.underlying66 rfl tI3 (by decide) (wt rfl rfl rfl rfl hb198 (o_load' rfl Try.underlying3 rfl (hH.hasv 3 rfl rfl) (wt rfl rfl rfl rfl hb198 (o_bin rfl rfl rfl ?_)))))
              dsimp only [putL, setL, evL, getL]
              refine wt rfl rfl rfl rfl hb198 (o_bin rfl rfl rfl ?_)
              replace H := headE H
              obtain ⟨u199, hu199, H⟩ := H
              obtain ⟨b199, o199, cs199, hA199, hr199, hh199, hel199⟩ := hH.elo 2 rfl hu199
              obtain rfl := hr199
              refine wt rfl rfl rfl rfl hb198 (hel199 s193 rfl rfl Try.underlying24 tI3 (wt rfl rfl rfl rfl hb198 (o_load' rfl Try.underlying3 rfl (hh199 0 _ rfl) ?_)))
              dsimp only [putL, setL, evL, getL]
              refine wt rfl rfl rfl rfl hb198 (o_bin rfl rfl rfl (hc (o_pickT rfl hb198 (ag (HL_nil (hK194 _ _ ?_))))))
              dsimp only [putL, setL, evL, getL]
              refine HT_ret ?_
              exact hQr _ _ [.bool (u199 == 12354)] _ ⟨rfl, trivial⟩ H ⟨rfl, hH.sel [] (by decide)⟩
             ·refine wf rfl rfl rfl rfl hb198 (wf rfl rfl rfl rfl hb198 (wf rfl rfl rfl rfl hb198 ?_))
              dsimp only [putL, setL, evL, getL]
              refine wf rfl rfl rfl rfl hb198 (wf rfl rfl rfl rfl hb198 (wf rfl rfl rfl rfl hb198 ?_))
              dsimp only [putL, setL, evL, getL]
              refine wf rfl rfl rfl rfl hb198 (wf rfl rfl rfl rfl hb198 (wf rfl rfl rfl rfl hb198 ?_))
              dsimp only [putL, setL, evL, getL]
              refine wf rfl rfl rfl rfl hb198 (wf rfl rfl rfl rfl hb198 (wf rfl rfl rfl rfl hb198 ?_))
              dsimp only [putL, setL, evL, getL]
              refine wf rfl rfl rfl rfl hb198 (wf rfl rfl rfl rfl hb198 (hc (o_pickF rfl hb198 ?_)))
              dsimp only [putL, setL, evL, getL]
              refine ag (HL_nil (hK194 _ _ ?_))
              dsimp only [putL, setL, evL, getL]
              refine HT_ret ?_
              exact hQr _ _ [.bool false] _ ⟨rfl, trivial⟩ H ⟨rfl, hH.sel [] (by decide)⟩
            ·refine wf rfl rfl rfl rfl hb197 (wf rfl rfl rfl rfl hb197 (wf rfl rfl rfl rfl hb197 ?_))
             dsimp only [putL, setL, evL, getL]
             refine wf rfl rfl rfl rfl hb197 (wf rfl rfl rfl rfl hb197 (wf rfl rfl rfl rfl hb197 ?_))
             dsimp only [putL, setL, evL, getL]
             refine wf rfl rfl rfl rfl hb197 (wf rfl rfl rfl rfl hb197 (wf rfl rfl rfl rfl hb197 ?_))
             dsimp only [putL, setL, evL, getL]
             refine wf rfl rfl rfl rfl hb197 (wf rfl rfl rfl rfl hb197 (wf rfl rfl rfl rfl hb197 ?_))
             dsimp only [putL, setL, evL, getL]
             refine hc (o_pickF rfl hb197 (mv (wf rfl rfl rfl rfl rfl ?_)))
             dsimp only [putL, setL, evL, getL]
             refine wf rfl rfl rfl rfl rfl (wf rfl rfl rfl rfl rfl (wf rfl rfl rfl rfl rfl ?_))
             dsimp only [putL, setL, evL, getL]
             refine wf rfl rfl rfl rfl rfl (wf rfl rfl rfl rfl rfl (wf rfl rfl rfl rfl rfl ?_))
             dsimp only [putL, setL, evL, getL]
             refine wf rfl rfl rfl rfl rfl (wf rfl rfl rfl rfl rfl (wf rfl rfl rfl rfl rfl ?_))
             dsimp only [putL, setL, evL, getL]
             refine wf rfl rfl rfl rfl rfl (wf rfl rfl rfl rfl rfl (wf rfl rfl rfl rfl rfl ?_))
             dsimp only [putL, setL, evL, getL]
             refine wf rfl rfl rfl rfl rfl (hc (o_pickF rfl rfl (ag (HL_nil (hK194 _ _ ?_)))))
             dsimp only [putL, setL, evL, getL]
             refine HT_ret ?_
             exact hQr _ _ [.bool false] _ ⟨rfl, trivial⟩ H ⟨rfl, hH.sel [] (by decide)⟩
           ·refine wt rfl rfl rfl rfl hb196 (o_move (wt rfl rfl rfl rfl hb196 (o_faddr' (ft := 3) (off := 4) rfl Try.underlying66 rfl tI3 (by decide) (wt rfl rfl rfl rfl hb196 (o_load' rfl Try.underlying3 rfl (hH.hasv 3 rfl rfl) ?_)))))
            dsimp only [putL, setL, evL, getL]
            refine wt rfl rfl rfl rfl hb196 (o_bin rfl rfl rfl (wt rfl rfl rfl rfl hb196 (o_move ?_)))
            revert H
            refine it (fun hb200 H => ?_) (fun hb200 H => ?_)
            ·refine wt rfl rfl rfl rfl hb200 (o_move ?_)
             dsimp only [putL, setL, evL, getL]
             refine wt rfl rfl rfl rfl hb200 (o_faddr' (ft := 3) (off := 3) rfl Try.underlying66 rfl tI3 (by decide) (wt rfl rfl rfl rfl hb200 (o_load' rfl Try.underlying3 rfl (hH.hasv 3 rfl rfl) (wt rfl rfl rfl rfl hb200 (o_bin rfl rfl rfl ?_)))))
             dsimp only [putL, setL, evL, getL]
             refine wt rfl rfl rfl rfl hb196 (o_pickT rfl hb200 (wt rfl rfl rfl rfl hb195 (o_pickF rfl hb196 (hc (o_pickT rfl hb195 ?_)))))
             dsimp only [putL, setL, evL, getL]
             refine mv ?_
             revert H
             refine it (fun hb201 H => ?_) (fun hb201 H => ?_)
             ·refine wt rfl rfl rfl rfl hb201 (o_faddr' (ft := 3) (off := 4) rfl Try.underlying66 rfl tI3 (by decide) (wt rfl rfl rfl rfl hb201 (o_load' rfl Try.underlying3 rfl (hH.hasv 3 rfl rfl) ?_)))
              dsimp only [putL, setL, evL, getL]
              refine wt rfl rfl rfl rfl hb201 (o_faddr' (ft := 3) (off := 0) rfl Try.underlying66 rfl tI3 (by decide) (wt rfl rfl rfl rfl hb201 (o_load' rfl Try.underlying3 rfl (hH.hasv 3 rfl rfl) (wt rfl rfl rfl rfl hb201 (o_bin rfl rfl rfl ?_)))))
              dsimp only [putL, setL, evL, getL]
              refine wt rfl rfl rfl rfl hb201 (o_faddr' (ft := 3) (off := 3) rfl Try.underlying66 rfl tI3 (by decide) (wt rfl rfl rfl rfl hb201 (o_load' rfl Try.underlying3 rfl (hH.hasv 3 rfl rfl) (wt rfl rfl rfl rfl hb201 (o_bin rfl rfl rfl ?_)))))
              dsimp only [putL, setL, evL, getL]
              refine wt rfl rfl rfl rfl hb201 (o_bin rfl rfl rfl (hc (o_pickT rfl hb201 (mv ?_))))
              revert H
              refine it (fun hb202 H => ?_) (fun hb202 H => ?_)
              ·refine wt rfl rfl rfl rfl hb202 (o_faddr' (ft := 3) (off := 4) rfl Try.underlying66 rfl tI3 (by decide) ?_)
               dsimp only [putL, setL, evL, getL]
               refine wt rfl rfl rfl rfl hb202 (o_load' rfl Try.underlying3 rfl (hH.hasv 3 rfl rfl) (wt rfl rfl rfl rfl hb202 (o_faddr' (ft := 3) (off := 0) rfl Try.underlying66 rfl tI3 (by decide) (wt rfl rfl rfl rfl hb202 (o_load' rfl Try.underlying3 rfl (hH.hasv 3 rfl rfl) ?_)))))
               dsimp only [putL, setL, evL, getL]
               refine wt rfl rfl rfl rfl hb202 (o_bin rfl rfl rfl (wt rfl rfl rfl rfl hb202 (o_faddr' (ft := 3) (off := 3) rfl Try.underlying66 rfl tI3 (by decide) (wt rfl rfl rfl rfl hb202 (o_load' rfl Try.underlying3 rfl (hH.hasv 3 rfl rfl) ?_)))))
               dsimp only [putL, setL, evL, getL]
               refine wt rfl rfl rfl rfl hb202 (o_bin rfl rfl rfl (wt rfl rfl rfl rfl hb202 (o_faddr' (ft := 24) (off := 2) rfl Try.underlying66 rfl tI24 (by decide) (wt rfl rfl rfl rfl hb202 (o_load' rfl Try.underlying24 rfl (hH.hasv 3 rfl rfl) ?_)))))
               dsimp only [putL, setL, evL, getL]
               refine wt rfl rfl rfl rfl hb202 (o_len rfl Try.underlying24 (wt rfl rfl rfl rfl hb202 (o_bin rfl rfl rfl (hc (o_pickT rfl hb202 ?_)))))
               dsimp only [putL, setL, evL, getL]
               refine mv ?_
               revert H
               refine it (fun hb203 H => ?_) (fun hb203 H => ?_)
               ·refine wt rfl rfl rfl rfl hb203 (o_faddr' (ft := 24) (off := 2) rfl Try.underlying66 rfl tI24 (by decide) (wt rfl rfl rfl rfl hb203 (o_load' rfl Try.underlying24 rfl (hH.hasv 3 rfl rfl) ?_)))
                dsimp only [putL, setL, evL, getL]
                refine wt rfl rfl rfl rfl hb203 (o_faddr' (ft := 3) (off := 4) rfl Try.underlying66 rfl tI3 (by decide) (wt rfl rfl rfl rfl hb203 (o_load' rfl Try.underlying3 rfl (hH.hasv 3 rfl rfl) (wt rfl rfl rfl rfl hb203 (o_faddr' (ft := 3) (off := 0) rfl Try.underlying66 rfl tI3 (by decide) ?_)))))
                dsimp only [putL, setL, evL, getL]
                refine wt rfl rfl rfl rfl hb203 (o_load' rfl Try.underlying3 rfl (hH.hasv 3 rfl rfl) (wt rfl rfl rfl rfl hb203 (o_bin rfl rfl rfl (wt rfl rfl rfl rfl hb203 (o_faddr' (ft := 3) (off := 3) rfl Try.underlying66 rfl tI3 (by decide) ?_)))))
                dsimp only [putL, setL, evL, getL]
                refine wt rfl rfl rfl rfl hb203 (o_load' rfl Try.underlying3 rfl (hH.hasv 3 rfl rfl) (wt rfl rfl rfl rfl hb203 (o_bin rfl rfl rfl (wt rfl rfl rfl rfl hb203 (o_bin rfl rfl rfl ?_)))))
                replace H := headE H
                obtain ⟨u204, hu204, H⟩ := H
                obtain ⟨b204, o204, cs204, hA204, hr204, hh204, hel204⟩ := hH.elo 2 rfl hu204
                obtain rfl := hr204
                try dsimp only [putL, setL, evL, getL]
                refine wt rfl rfl rfl rfl hb203 (hel204 s193 rfl rfl Try.underlying24 tI3 (wt rfl rfl rfl rfl hb203 (o_load' rfl Try.underlying3 rfl (hh204 0 _ rfl) (wt rfl rfl rfl rfl hb203 (o_bin rfl rfl rfl ?_)))))
                dsimp only [putL, setL, evL, getL]
                refine hc (o_pickT rfl hb203 (ag (HL_nil (hK194 _ _ ?_))))
                dsimp only [putL, setL, evL, getL]
                refine HT_ret ?_
                exact hQr _ _ [.bool (u204 == 12354)] _ ⟨rfl, trivial⟩ H ⟨rfl, hH.sel [] (by decide)⟩
               ·refine wf rfl rfl rfl rfl hb203 (wf rfl rfl rfl rfl hb203 (wf rfl rfl rfl rfl hb203 ?_))
                dsimp only [putL, setL, evL, getL]
                refine wf rfl rfl rfl rfl hb203 (wf rfl rfl rfl rfl hb203 (wf rfl rfl rfl rfl hb203 ?_))
                dsimp only [putL, setL, evL, getL]
                refine wf rfl rfl rfl rfl hb203 (wf rfl rfl rfl rfl hb203 (wf rfl rfl rfl rfl hb203 ?_))
                dsimp only [putL, setL, evL, getL]
                refine wf rfl rfl rfl rfl hb203 (wf rfl rfl rfl rfl hb203 (wf rfl rfl rfl rfl hb203 ?_))
                dsimp only [putL, setL, evL, getL]
                refine wf rfl rfl rfl rfl hb203 (wf rfl rfl rfl rfl hb203 (hc (o_pickF rfl hb203 ?_)))
                dsimp only [putL, setL, evL, getL]
                refine ag (HL_nil (hK194 _ _ ?_))
                dsimp only [putL, setL, evL, getL]
                refine HT_ret ?_
                exact hQr _ _ [.bool false] _ ⟨rfl, trivial⟩ H ⟨rfl, hH.sel [] (by decide)⟩
              ·refine wf rfl rfl rfl rfl hb202 (wf rfl rfl rfl rfl hb202 (wf rfl rfl rfl rfl hb202 ?_))
               dsimp only [putL, setL, evL, getL]
               refine wf rfl rfl rfl rfl hb202 (wf rfl rfl rfl rfl hb202 (wf rfl rfl rfl rfl hb202 ?_))
               dsimp only [putL, setL, evL, getL]
               refine wf rfl rfl rfl rfl hb202 (wf rfl rfl rfl rfl hb202 (wf rfl rfl rfl rfl hb202 ?_))
               dsimp only [putL, setL, evL, getL]
               refine wf rfl rfl rfl rfl hb202 (wf rfl rfl rfl rfl hb202 (wf rfl rfl rfl rfl hb202 ?_))
               dsimp only [putL, setL, evL, getL]
               refine hc (o_pickF rfl hb202 (mv (wf rfl rfl rfl rfl rfl ?_)))
               dsimp only [putL, setL, evL, getL]
               refine wf rfl rfl rfl rfl rfl (wf rfl rfl rfl rfl rfl (wf rfl rfl rfl rfl rfl ?_))
               dsimp only [putL, setL, evL, getL]
               refine wf rfl rfl rfl rfl rfl (wf rfl rfl rfl rfl rfl (wf rfl rfl rfl rfl rfl ?_))
               dsimp only [putL, setL, evL, getL]
               refine wf rfl rfl rfl rfl rfl (wf rfl rfl rfl rfl rfl (wf rfl rfl rfl rfl rfl ?_))
               dsimp only [putL, setL, evL, getL]
               refine wf rfl rfl rfl rfl rfl (wf rfl rfl rfl rfl rfl (wf rfl rfl rfl rfl rfl ?_))
               dsimp only [putL, setL, evL, getL]
               refine wf rfl rfl rfl rfl rfl (hc (o_pickF rfl rfl (ag (HL_nil (hK194 _ _ ?_)))))
               dsimp only [putL, setL, evL, getL]
               refine HT_ret ?_
               exact hQr _ _ [.bool false] _ ⟨rfl, trivial⟩ H ⟨rfl, hH.sel [] (by decide)⟩
             ·refine wf rfl rfl rfl rfl hb201 (wf rfl rfl rfl rfl hb201 (wf rfl rfl rfl rfl hb201 ?_))
              dsimp only [putL, setL, evL, getL]
              refine wf rfl rfl rfl rfl hb201 (wf rfl rfl rfl rfl hb201 (wf rfl rfl rfl rfl hb201 ?_))
              dsimp only [putL, setL, evL, getL]
              refine wf rfl rfl rfl rfl hb201 (wf rfl rfl rfl rfl hb201 (wf rfl rfl rfl rfl hb201 ?_))
              dsimp only [putL, setL, evL, getL]
              refine hc (o_pickF rfl hb201 (mv (wf rfl rfl rfl rfl rfl ?_)))
              dsimp only [putL, setL, evL, getL]
              refine wf rfl rfl rfl rfl rfl (wf rfl rfl rfl rfl rfl (wf rfl rfl rfl rfl rfl ?_))
              dsimp only [putL, setL, evL, getL]
              refine wf rfl rfl rfl rfl rfl (wf rfl rfl rfl rfl rfl (wf rfl rfl rfl rfl rfl ?_))
              dsimp only [putL, setL, evL, getL]
              refine wf rfl rfl rfl rfl rfl (wf rfl rfl rfl rfl rfl (wf rfl rfl rfl rfl rfl ?_))
              dsimp only [putL, setL, evL, getL]
              refine wf rfl rfl rfl rfl rfl (wf rfl rfl rfl rfl rfl (hc (o_pickF rfl rfl ?_)))
              dsimp only [putL, setL, evL, getL]
              refine mv (wf rfl rfl rfl rfl rfl (wf rfl rfl rfl rfl rfl ?_))
              dsimp only [putL, setL, evL, getL]
              refine wf rfl rfl rfl rfl rfl (wf rfl rfl rfl rfl rfl (wf rfl rfl rfl rfl rfl ?_))
              dsimp only [putL, setL, evL, getL]
              refine wf rfl rfl rfl rfl rfl (wf rfl rfl rfl rfl rfl (wf rfl rfl rfl rfl rfl ?_))
              dsimp only [putL, setL, evL, getL]
              refine wf rfl rfl rfl rfl rfl (wf rfl rfl rfl rfl rfl (wf rfl rfl rfl rfl rfl ?_))
              dsimp only [putL, setL, evL, getL]
              refine wf rfl rfl rfl rfl rfl (wf rfl rfl rfl rfl rfl (wf rfl rfl rfl rfl rfl ?_))
              dsimp only [putL, setL, evL, getL]
              refine hc (o_pickF rfl rfl (ag (HL_nil (hK194 _ _ ?_))))
              dsimp only [putL, setL, evL, getL]
              refine HT_ret ?_
              exact hQr _ _ [.bool false] _ ⟨rfl, trivial⟩ H ⟨rfl, hH.sel [] (by decide)⟩
            ·refine wf rfl rfl rfl rfl hb200 (wf rfl rfl rfl rfl hb200 (wf rfl rfl rfl rfl hb200 ?_))
             dsimp only [putL, setL, evL, getL]
             refine wf rfl rfl rfl rfl hb200 (wt rfl rfl rfl rfl hb196 (o_pickF rfl hb200 (wt rfl rfl rfl rfl hb195 (o_pickF rfl hb196 ?_))))
             dsimp only [putL, setL, evL, getL]
             refine hc (o_pickT rfl hb195 (mv (wf rfl rfl rfl rfl rfl ?_)))
             dsimp only [putL, setL, evL, getL]
             refine wf rfl rfl rfl rfl rfl (wf rfl rfl rfl rfl rfl (wf rfl rfl rfl rfl rfl ?_))
             dsimp only [putL, setL, evL, getL]
             refine wf rfl rfl rfl rfl rfl (wf rfl rfl rfl rfl rfl (wf rfl rfl rfl rfl rfl ?_))
             dsimp only [putL, setL, evL, getL]
             refine wf rfl rfl rfl rfl rfl (wf rfl rfl rfl rfl rfl (hc (o_pickF rfl rfl ?_)))
             dsimp only [putL, setL, evL, getL]
             refine mv (wf rfl rfl rfl rfl rfl (wf rfl rfl rfl rfl rfl ?_))
             dsimp only [putL, setL, evL, getL]
             refine wf rfl rfl rfl rfl rfl (wf rfl rfl rfl rfl rfl (wf rfl rfl rfl rfl rfl ?_))
             dsimp only [putL, setL, evL, getL]
             refine wf rfl rfl rfl rfl rfl (wf rfl rfl rfl rfl rfl (wf rfl rfl rfl rfl rfl ?_))
             dsimp only [putL, setL, evL, getL]
             refine wf rfl rfl rfl rfl rfl (wf rfl rfl rfl rfl rfl (wf rfl rfl rfl rfl rfl ?_))
             dsimp only [putL, setL, evL, getL]
             refine wf rfl rfl rfl rfl rfl (hc (o_pickF rfl rfl (mv ?_)))
             dsimp only [putL, setL, evL, getL]
             refine wf rfl rfl rfl rfl rfl (wf rfl rfl rfl rfl rfl (wf rfl rfl rfl rfl rfl ?_))
             dsimp only [putL, setL, evL, getL]
             refine wf rfl rfl rfl rfl rfl (wf rfl rfl rfl rfl rfl (wf rfl rfl rfl rfl rfl ?_))
             dsimp only [putL, setL, evL, getL]
             refine wf rfl rfl rfl rfl rfl (wf rfl rfl rfl rfl rfl (wf rfl rfl rfl rfl rfl ?_))
             dsimp only [putL, setL, evL, getL]
             refine wf rfl rfl rfl rfl rfl (wf rfl rfl rfl rfl rfl (wf rfl rfl rfl rfl rfl ?_))
             dsimp only [putL, setL, evL, getL]
             refine wf rfl rfl rfl rfl rfl (wf rfl rfl rfl rfl rfl (hc (o_pickF rfl rfl ?_)))
             dsimp only [putL, setL, evL, getL]
             refine ag (HL_nil (hK194 _ _ ?_))
             dsimp only [putL, setL, evL, getL]
             refine HT_ret ?_
             exact hQr _ _ [.bool false] _ ⟨rfl, trivial⟩ H ⟨rfl, hH.sel [] (by decide)⟩
          ·refine wf rfl rfl rfl rfl hb195 (wf rfl rfl rfl rfl hb195 (wf rfl rfl rfl rfl hb195 ?_))
           dsimp only [putL, setL, evL, getL]
           refine wf rfl rfl rfl rfl hb195 (wf rfl rfl rfl rfl hb195 (wu rfl rfl rfl rfl ?_))
           dsimp only [putL, setL, evL, getL]
           refine wu rfl rfl rfl rfl (wu rfl rfl rfl rfl (wu rfl rfl rfl rfl ?_))
           dsimp only [putL, setL, evL, getL]
           refine wu rfl rfl rfl rfl (wu rfl rfl rfl rfl (wu rfl rfl rfl rfl ?_))
           dsimp only [putL, setL, evL, getL]
           refine wu rfl rfl rfl rfl (wu rfl rfl rfl rfl (wu rfl rfl rfl rfl ?_))
           dsimp only [putL, setL, evL, getL]
           refine wf rfl rfl rfl rfl hb195 (hc (o_pickF rfl hb195 (mv ?_)))
           dsimp only [putL, setL, evL, getL]
           refine wf rfl rfl rfl rfl rfl (wf rfl rfl rfl rfl rfl (wf rfl rfl rfl rfl rfl ?_))
           dsimp only [putL, setL, evL, getL]
           refine wf rfl rfl rfl rfl rfl (wf rfl rfl rfl rfl rfl (wf rfl rfl rfl rfl rfl ?_))
           dsimp only [putL, setL, evL, getL]
           refine wf rfl rfl rfl rfl rfl (wf rfl rfl rfl rfl rfl (wf rfl rfl rfl rfl rfl ?_))
           dsimp only [putL, setL, evL, getL]
           refine hc (o_pickF rfl rfl (mv (wf rfl rfl rfl rfl rfl ?_)))
           dsimp only [putL, setL, evL, getL]
           refine wf rfl rfl rfl rfl rfl (wf rfl rfl rfl rfl rfl (wf rfl rfl rfl rfl rfl ?_))
           dsimp only [putL, setL, evL, getL]
           refine wf rfl rfl rfl rfl rfl (wf rfl rfl rfl rfl rfl (wf rfl rfl rfl rfl rfl ?_))
           dsimp only [putL, setL, evL, getL]
           refine wf rfl rfl rfl rfl rfl (wf rfl rfl rfl rfl rfl (wf rfl rfl rfl rfl rfl ?_))
           dsimp only [putL, setL, evL, getL]
           refine wf rfl rfl rfl rfl rfl (wf rfl rfl rfl rfl rfl (hc (o_pickF rfl rfl ?_)))
           dsimp only [putL, setL, evL, getL]
           refine mv (wf rfl rfl rfl rfl rfl (wf rfl rfl rfl rfl rfl ?_))
           dsimp only [putL, setL, evL, getL]
           refine wf rfl rfl rfl rfl rfl (wf rfl rfl rfl rfl rfl (wf rfl rfl rfl rfl rfl ?_))
           dsimp only [putL, setL, evL, getL]
           refine wf rfl rfl rfl rfl rfl (wf rfl rfl rfl rfl rfl (wf rfl rfl rfl rfl rfl ?_))
           dsimp only [putL, setL, evL, getL]
           refine wf rfl rfl rfl rfl rfl (wf rfl rfl rfl rfl rfl (wf rfl rfl rfl rfl rfl ?_))
           dsimp only [putL, setL, evL, getL]
           refine wf rfl rfl rfl rfl rfl (wf rfl rfl rfl rfl rfl (wf rfl rfl rfl rfl rfl ?_))
           dsimp only [putL, setL, evL, getL]
           refine hc (o_pickF rfl rfl (ag (HL_nil (hK194 _ _ ?_))))
           dsimp only [putL, setL, evL, getL]
           refine HT_ret ?_
           exact hQr _ _ [.bool false] _ ⟨rfl, trivial⟩ H ⟨rfl, hH.sel [] (by decide)⟩
         ·refine HT_skip (hK188 _ _ (sr fun K205 hK205 => (ag (HL_nil (hK205 _ _ ?_)))))
          dsimp only [putL, setL, evL, getL]
          refine HT_ret ?_
          exact hQr _ _ [.bool true] _ ⟨rfl, trivial⟩ H ⟨rfl, hH.sel [] (by decide)⟩
end Go.Proofs.Ytkieinlcpkpcjaa
