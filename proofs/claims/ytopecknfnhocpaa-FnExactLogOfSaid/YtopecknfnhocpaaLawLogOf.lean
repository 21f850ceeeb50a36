/- The law FnExactLogOf: for every input it answers true and leaves its arguments as they were. No conditions beyond the row's own. -/
import Derived.Test.YtopecknfnhocpaaRows
import Derived.Test.YtopecknfnhocpaaWLogOf1
import Derived.Test.YtopecknfnhocpaaPLogOf
import Derived.Test.YtopecknfnhocpaaGLR
set_option linter.unusedVariables false
namespace Go.Proofs.Ytopecknfnhocpaa.fnExactLogOf
open Go Go.ChangeShapes Go.WideShapes Go.ChangeAt Go.RowKit Go.Proofs.GL
theorem own : ownKnob Try.prog.godebug = none := by kernel_rfl
theorem laidOut : laidOutB Try.prog = true := by kernel_rfl
set_option maxRecDepth 100000 in
theorem lifted (os : Os) (started : os.Started) (H : Type) (enc : TypeId × Value → H) :
    ReturnsInHanded {} Try.checked os 11 .any (Rows.fnExactLogOfSpec.pre6 enc Try.prog Try.f11 Rows.fnExactLogOfRow.domain false) (Rows.fnExactLogOfSpec.post enc Try.prog Try.f11 false true false false) := by
  refine returnsInHanded_of_change_sized (C := Try.checked) own started (by kernel_rfl) Try.func11
    (ChangeSpec.witness6 (enc := enc) (C := Try.checked) false ⟨#[], #[.slice none 0 0, .int .i64 0], []⟩ 8 (by kernel_rfl) (by kernel_rfl) (by kernel_rfl) (by kernel_rfl)) ?_
  intro W base args ds gs before hval0 hW hcnd hsz0 _
  have hval : ∀ (j : Nat) t v, Try.f11.params[j]? = some t → args[j]? = some v → Value.okWide Try.prog W .any base t v := hval0
  have hW' := hW
  obtain ⟨p, q, hA0, hV, rfl, hfz, hnd⟩ := hW
  have hA : DataW.TrodAll enc Try.prog W 0 (fun _ => true) true Try.f11.params.toList args.toList ds p := hA0
  rw [Try.params11] at hA hval
  obtain ⟨v0, vs0, d0, ds0, p0, q0, hargs, rfl, rfl, h0, r0⟩ := trodAll_cons hA
  obtain ⟨v1, vs1, d1, ds1, p1, q1, rfl, rfl, rfl, h1, r1⟩ := trodAll_cons r0
  obtain ⟨rfl, rfl, rfl⟩ := trodAll_nil r1
  obtain rfl : args = #[v0, v1] := by cases args; simp_all
  obtain ⟨rfl, rfl⟩ := trodVars_none hV
  have lt0 : ∀ x ∈ p0, x.block < W.heap.size := by have hk := h0; obtain ⟨m, hm⟩ := hk; exact DataW.trod_lt m _ _ _ hm
  have o0 := (Opens.slice Try.underlying72 (by kernel_rfl) (by decide) (Opens.struct _ Try.underlying136 (by kernel_rfl) (OpensF.cons rfl (by kernel_rfl) rfl (Opens.int Try.underlying3) (OpensF.one rfl (by kernel_rfl) (Opens.struct _ Try.underlying134 (by kernel_rfl) (OpensF.cons rfl (by kernel_rfl) rfl (Opens.int Try.underlying3) (OpensF.cons rfl (by kernel_rfl) rfl (Opens.int Try.underlying3) (OpensF.cons rfl (by kernel_rfl) rfl (Opens.int Try.underlying3) (OpensF.cons rfl (by kernel_rfl) rfl (Opens.int Try.underlying3) (OpensF.one rfl (by kernel_rfl) (Opens.slice Try.underlying22 (by kernel_rfl) (by decide) (Opens.int Try.underlying3)))))))))))).par h0
  obtain ⟨A0, L0, C0, rfl⟩ := okWide_slice Try.underlying72 (hval 0 72 v0 rfl rfl)
  obtain ⟨a0, ⟨A'0, c0, e0, R0⟩, w0⟩ := o0
  simp only [Value.cells, List.cons.injEq, and_true, Value.slice.injEq] at e0
  obtain ⟨rfl, rfl, rfl⟩ := e0
  have lt1 : ∀ x ∈ p1, x.block < W.heap.size := by have hk := h1; obtain ⟨m, hm⟩ := hk; exact DataW.trod_lt m _ _ _ hm
  have o1 := (Opens.int Try.underlying3).par h1
  obtain ⟨n1, rfl⟩ := okWide_int Try.underlying3 (hval 1 3 v1 rfl rfl)
  obtain ⟨a1, e1, w1⟩ := o1
  obtain rfl : n1 = a1 := by simpa [Kd.int, Kd.scalar, Value.cells] using e1
  clear hA0 hval0 hsz0
  have H := law_LogOf a0 n1 w0 w1
  refine (laws_FnExactLogOf.ok (St0 W) (St0 W) no _ _ a0 n1 R0 (Hp.own (Bs.refl _)) _ H W (Ok.start W)).mono fun e W' ⟨v, s', he, hp, hok⟩ => ?_
  obtain ⟨rfl, -⟩ := hp
  subst he
  have bel := hok.below
  exact ⟨_, rfl, _, _, _, [], _, [], hW', trodAll_mk1 (shut_bool Try.underlying4 _), (trodAll_cons_mk (Below.trod laidOut (by kernel_rfl) (of_decide_eq_true (by kernel_rfl)) h0 bel lt0) (trodAll_cons_mk (Below.trod laidOut (by kernel_rfl) (of_decide_eq_true (by kernel_rfl)) h1 bel lt1) trodAll_mk0)), rfl, bel.frame _, fun h => by cases h⟩
theorem over : Rows.fnExactLogOfRow.holds Try.pinned (OpenSpec.ofChange Rows.fnExactLogOfSpec) :=
  OpenClaim.holds_of_wide 11 Try.f11 rfl rfl rfl rfl rfl rfl rfl ⟨rfl, rfl, rfl, rfl, rfl⟩ rfl rfl rfl rfl rfl (by kernel_rfl) Try.func11 (by kernel_rfl)
    (of_decide_eq_true (by kernel_rfl)) (by unfold Func.isWrapper; first | (rw [if_pos (by decide +kernel)]; kernel_rfl) | (rw [if_neg (by decide +kernel)]; exact ⟨rfl, rfl⟩))
    (fun os started H enc _ => lifted os started H enc)
end Go.Proofs.Ytopecknfnhocpaa.fnExactLogOf
namespace Go.Proofs.Ytopecknfnhocpaa
theorem fnExactLogOf_holds : Rows.FnExactLogOfSaid := fnExactLogOf.over
end Go.Proofs.Ytopecknfnhocpaa
