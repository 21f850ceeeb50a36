/- The law FnExactShownTo: for every input it answers true and leaves its arguments as they were. No conditions beyond the row's own. -/
import Derived.Test.YtaojkgkajppkaaaRows
import Derived.Test.YtaojkgkajppkaaaWShownTo2
import Derived.Test.YtaojkgkajppkaaaPShownTo
import Derived.Test.YtaojkgkajppkaaaGLR
set_option linter.unusedVariables false
namespace Go.Proofs.Ytaojkgkajppkaaa.fnExactShownTo
open Go Go.ChangeShapes Go.WideShapes Go.ChangeAt Go.RowKit Go.Proofs.GL
theorem own : ownKnob Try.prog.godebug = none := by kernel_rfl
theorem laidOut : laidOutB Try.prog = true := by kernel_rfl
set_option maxRecDepth 100000 in
theorem lifted (os : Os) (started : os.Started) (H : Type) (enc : TypeId × Value → H) :
    ReturnsInHanded {} Try.checked os 3 .any (Rows.fnExactShownToSpec.pre6 enc Try.prog Try.f3 Rows.fnExactShownToRow.domain false) (Rows.fnExactShownToSpec.post enc Try.prog Try.f3 false true false false) := by
  refine returnsInHanded_of_change_sized (C := Try.checked) own started (by kernel_rfl) Try.func3
    (ChangeSpec.witness6 (enc := enc) (C := Try.checked) false ⟨#[], #[.agg #[.int .i64 0, .slice none 0 0, .slice none 0 0, .int .i64 0, .int .i64 0, .int .i64 0, .string ⟨#[]⟩, .int .i64 0, .slice none 0 0, .slice none 0 0, .int .i64 0, .bool false], .int .i64 0, .int .i64 0], []⟩ 8 (by kernel_rfl) (by kernel_rfl) (by kernel_rfl) (by kernel_rfl)) ?_
  intro W base args ds gs before hval0 hW hcnd hsz0 _
  have hval : ∀ (j : Nat) t v, Try.f3.params[j]? = some t → args[j]? = some v → Value.okWide Try.prog W .any base t v := hval0
  have hW' := hW
  obtain ⟨p, q, hA0, hV, rfl, hfz, hnd⟩ := hW
  have hA : DataW.TrodAll enc Try.prog W 0 (fun _ => true) true Try.f3.params.toList args.toList ds p := hA0
  rw [Try.params3] at hA hval
  obtain ⟨v0, vs0, d0, ds0, p0, q0, hargs, rfl, rfl, h0, r0⟩ := trodAll_cons hA
  obtain ⟨v1, vs1, d1, ds1, p1, q1, rfl, rfl, rfl, h1, r1⟩ := trodAll_cons r0
  obtain ⟨v2, vs2, d2, ds2, p2, q2, rfl, rfl, rfl, h2, r2⟩ := trodAll_cons r1
  obtain ⟨rfl, rfl, rfl⟩ := trodAll_nil r2
  obtain rfl : args = #[v0, v1, v2] := by cases args; simp_all
  obtain ⟨rfl, rfl⟩ := trodVars_none hV
  have lt0 : ∀ x ∈ p0, x.block < W.heap.size := by have hk := h0; obtain ⟨m, hm⟩ := hk; exact DataW.trod_lt m _ _ _ hm
  have o0 := (Opens.struct _ Try.underlying31 (by kernel_rfl) (OpensF.cons rfl (by kernel_rfl) rfl (Opens.int Try.underlying3) (OpensF.cons rfl (by kernel_rfl) rfl (Opens.slice Try.underlying22 (by kernel_rfl) (by decide) (Opens.int Try.underlying3)) (OpensF.cons rfl (by kernel_rfl) rfl (Opens.slice Try.underlying23 (by kernel_rfl) (by decide) (Opens.struct _ Try.underlying66 (by kernel_rfl) (OpensF.cons rfl (by kernel_rfl) rfl (Opens.int Try.underlying3) (OpensF.cons rfl (by kernel_rfl) rfl (Opens.int Try.underlying3) (OpensF.cons rfl (by kernel_rfl) rfl (Opens.int Try.underlying3) (OpensF.cons rfl (by kernel_rfl) rfl (Opens.int Try.underlying3) (OpensF.one rfl (by kernel_rfl) (Opens.slice Try.underlying22 (by kernel_rfl) (by decide) (Opens.int Try.underlying3))))))))) (OpensF.one rfl (by kernel_rfl) (Opens.struct _ Try.underlying29 (by kernel_rfl) (OpensF.cons rfl (by kernel_rfl) rfl (Opens.struct _ Try.underlying25 (by kernel_rfl) (OpensF.cons rfl (by kernel_rfl) rfl (Opens.int Try.underlying3) (OpensF.cons rfl (by kernel_rfl) rfl (Opens.int Try.underlying3) (OpensF.cons rfl (by kernel_rfl) rfl (Opens.int Try.underlying3) (OpensF.one rfl (by kernel_rfl) (Opens.str Try.underlying9)))))) (OpensF.cons rfl (by kernel_rfl) rfl (Opens.struct _ Try.underlying27 (by kernel_rfl) (OpensF.cons rfl (by kernel_rfl) rfl (Opens.int Try.underlying3) (OpensF.cons rfl (by kernel_rfl) rfl (Opens.slice Try.underlying22 (by kernel_rfl) (by decide) (Opens.int Try.underlying3)) (OpensF.cons rfl (by kernel_rfl) rfl (Opens.slice Try.underlying22 (by kernel_rfl) (by decide) (Opens.int Try.underlying3)) (OpensF.one rfl (by kernel_rfl) (Opens.int Try.underlying3)))))) (OpensF.one rfl (by kernel_rfl) (Opens.bool Try.underlying4)))))))))).par h0
  obtain ⟨L0, rfl, -⟩ := okWide_struct Try.underlying31 (hval 0 31 v0 rfl rfl)
  obtain ⟨a0, e0, w0⟩ := o0
  obtain ⟨l0, rfl⟩ : ∃ l : List Value, L0 = l.toArray := ⟨L0.toList, by simp⟩
  replace e0 : Kd.rep _ (St0 W) l0 a0 := e0
  obtain ⟨_, _, rfl, rfl, ⟨_, _, rfl, ⟨A0_0, C0_0, rfl, R0_0⟩, ⟨_, _, rfl, ⟨A0_1, C0_1, rfl, R0_1⟩, ⟨_, _, rfl, ⟨_, _, rfl, rfl, ⟨_, _, rfl, rfl, ⟨_, _, rfl, rfl, rfl⟩⟩⟩, ⟨_, _, rfl, ⟨_, _, rfl, rfl, ⟨_, _, rfl, ⟨A0_2, C0_2, rfl, R0_2⟩, ⟨_, _, rfl, ⟨A0_3, C0_3, rfl, R0_3⟩, rfl⟩⟩⟩, rfl⟩⟩⟩⟩⟩ := e0
  obtain ⟨w0_0, w0_1, w0_2, ⟨⟨w0_3, w0_4, w0_5, w0_6⟩, ⟨w0_7, w0_8, w0_9, w0_10⟩, w0_11⟩⟩ := w0
  have lt1 : ∀ x ∈ p1, x.block < W.heap.size := by have hk := h1; obtain ⟨m, hm⟩ := hk; exact DataW.trod_lt m _ _ _ hm
  have o1 := (Opens.int Try.underlying3).par h1
  obtain ⟨n1, rfl⟩ := okWide_int Try.underlying3 (hval 1 3 v1 rfl rfl)
  obtain ⟨a1, e1, w1⟩ := o1
  obtain rfl : n1 = a1 := by simpa [Kd.int, Kd.scalar, Value.cells] using e1
  have lt2 : ∀ x ∈ p2, x.block < W.heap.size := by have hk := h2; obtain ⟨m, hm⟩ := hk; exact DataW.trod_lt m _ _ _ hm
  have o2 := (Opens.int Try.underlying3).par h2
  obtain ⟨n2, rfl⟩ := okWide_int Try.underlying3 (hval 2 3 v2 rfl rfl)
  obtain ⟨a2, e2, w2⟩ := o2
  obtain rfl : n2 = a2 := by simpa [Kd.int, Kd.scalar, Value.cells] using e2
  clear hA0 hval0 hsz0
  have H := law_ShownTo a0.1 a0.2.1 a0.2.2.1 a0.2.2.2.1.1 a0.2.2.2.1.2.1 a0.2.2.2.1.2.2.1 a0.2.2.2.1.2.2.2 a0.2.2.2.2.1.1 a0.2.2.2.2.1.2.1 a0.2.2.2.2.1.2.2.1 a0.2.2.2.2.1.2.2.2 a0.2.2.2.2.2 n1 n2 w0_0 w0_1 w0_2 w0_3 w0_4 w0_5 w0_6 w0_7 w0_8 w0_9 w0_10 w0_11 w1 w2
  refine (z0y.ok (St0 W) (St0 W) no a0.1 _ _ a0.2.1 _ _ a0.2.2.1 a0.2.2.2.1.1 a0.2.2.2.1.2.1 a0.2.2.2.1.2.2.1 a0.2.2.2.1.2.2.2 a0.2.2.2.2.1.1 _ _ a0.2.2.2.2.1.2.1 _ _ a0.2.2.2.2.1.2.2.1 a0.2.2.2.2.1.2.2.2 a0.2.2.2.2.2 n1 n2 R0_0 R0_1 R0_2 R0_3 (Hp.own (Bs.refl _)) _ H W (Ok.start W)).mono fun e W' ⟨v, s', he, hp, hok⟩ => ?_
  obtain ⟨rfl, -⟩ := hp
  subst he
  have bel := hok.below
  exact ⟨_, rfl, _, _, _, [], _, [], hW', trodAll_mk1 (shut_bool Try.underlying4 _), (trodAll_cons_mk (Below.trod laidOut (by kernel_rfl) (of_decide_eq_true (by kernel_rfl)) h0 bel lt0) (trodAll_cons_mk (Below.trod laidOut (by kernel_rfl) (of_decide_eq_true (by kernel_rfl)) h1 bel lt1) (trodAll_cons_mk (Below.trod laidOut (by kernel_rfl) (of_decide_eq_true (by kernel_rfl)) h2 bel lt2) trodAll_mk0))), rfl, bel.frame _, fun h => by cases h⟩
theorem over : Rows.fnExactShownToRow.holds Try.pinned (OpenSpec.ofChange Rows.fnExactShownToSpec) :=
  OpenClaim.holds_of_wide 3 Try.f3 rfl rfl rfl rfl rfl rfl rfl ⟨rfl, rfl, rfl, rfl, rfl⟩ rfl rfl rfl rfl rfl (by kernel_rfl) Try.func3 (by kernel_rfl)
    (of_decide_eq_true (by kernel_rfl)) (by unfold Func.isWrapper; first | (rw [if_pos (by decide +kernel)]; kernel_rfl) | (rw [if_neg (by decide +kernel)]; exact ⟨rfl, rfl⟩))
    (fun os started H enc _ => lifted os started H enc)
end Go.Proofs.Ytaojkgkajppkaaa.fnExactShownTo
namespace Go.Proofs.Ytaojkgkajppkaaa
theorem fnExactShownTo_holds : Rows.FnExactShownToSaid := fnExactShownTo.over
end Go.Proofs.Ytaojkgkajppkaaa
