/- The law FnExactScreenText: for every input it answers true and leaves its arguments as they were. No conditions beyond the row's own. -/
import Derived.Test.YtopecknfnhocpaaRows
import Derived.Test.YtopecknfnhocpaaWScreenText1
import Derived.Test.YtopecknfnhocpaaPScreenText
import Derived.Test.YtopecknfnhocpaaGLR
set_option linter.unusedVariables false
namespace Go.Proofs.Ytopecknfnhocpaa.fnExactScreenText
open Go Go.ChangeShapes Go.WideShapes Go.ChangeAt Go.RowKit Go.Proofs.GL
theorem own : ownKnob Try.prog.godebug = none := by kernel_rfl
theorem laidOut : laidOutB Try.prog = true := by kernel_rfl
set_option maxRecDepth 100000 in
theorem lifted (os : Os) (started : os.Started) (H : Type) (enc : TypeId × Value → H) :
    ReturnsInHanded {} Try.checked os 8 .any (Rows.fnExactScreenTextSpec.pre6 enc Try.prog Try.f8 Rows.fnExactScreenTextRow.domain false) (Rows.fnExactScreenTextSpec.post enc Try.prog Try.f8 false true false false) := by
  refine returnsInHanded_of_change_sized (C := Try.checked) own started (by kernel_rfl) Try.func8
    (ChangeSpec.witness6 (enc := enc) (C := Try.checked) false ⟨#[], #[.agg #[.int .i64 0, .int .i64 0, .slice none 0 0, .int .i64 0, .int .i64 0]], []⟩ 8 (by kernel_rfl) (by kernel_rfl) (by kernel_rfl) (by kernel_rfl)) ?_
  intro W base args ds gs before hval0 hW hcnd hsz0 _
  have hval : ∀ (j : Nat) t v, Try.f8.params[j]? = some t → args[j]? = some v → Value.okWide Try.prog W .any base t v := hval0
  have hW' := hW
  obtain ⟨p, q, hA0, hV, rfl, hfz, hnd⟩ := hW
  have hA : DataW.TrodAll enc Try.prog W 0 (fun _ => true) true Try.f8.params.toList args.toList ds p := hA0
  rw [Try.params8] at hA hval
  obtain ⟨v0, vs0, d0, ds0, p0, q0, hargs, rfl, rfl, h0, r0⟩ := trodAll_cons hA
  obtain ⟨rfl, rfl, rfl⟩ := trodAll_nil r0
  obtain rfl : args = #[v0] := by cases args; simp_all
  obtain ⟨rfl, rfl⟩ := trodVars_none hV
  have lt0 : ∀ x ∈ p0, x.block < W.heap.size := by have hk := h0; obtain ⟨m, hm⟩ := hk; exact DataW.trod_lt m _ _ _ hm
  have o0 := (Opens.struct _ Try.underlying51 (by kernel_rfl) (OpensF.cons rfl (by kernel_rfl) rfl (Opens.int Try.underlying3) (OpensF.cons rfl (by kernel_rfl) rfl (Opens.int Try.underlying3) (OpensF.cons rfl (by kernel_rfl) rfl (Opens.slice Try.underlying22 (by kernel_rfl) (by decide) (Opens.int Try.underlying3)) (OpensF.cons rfl (by kernel_rfl) rfl (Opens.int Try.underlying3) (OpensF.one rfl (by kernel_rfl) (Opens.int Try.underlying3))))))).par h0
  obtain ⟨L0, rfl, -⟩ := okWide_struct Try.underlying51 (hval 0 51 v0 rfl rfl)
  obtain ⟨a0, e0, w0⟩ := o0
  obtain ⟨l0, rfl⟩ : ∃ l : List Value, L0 = l.toArray := ⟨L0.toList, by simp⟩
  replace e0 : Kd.rep _ (St0 W) l0 a0 := e0
  obtain ⟨_, _, rfl, rfl, ⟨_, _, rfl, rfl, ⟨_, _, rfl, ⟨A0_0, C0_0, rfl, R0_0⟩, ⟨_, _, rfl, rfl, rfl⟩⟩⟩⟩ := e0
  obtain ⟨w0_0, w0_1, w0_2, w0_3, w0_4⟩ := w0
  clear hA0 hval0 hsz0
  have H := law_ScreenText a0.1 a0.2.1 a0.2.2.1 a0.2.2.2.1 a0.2.2.2.2 w0_0 w0_1 w0_2 w0_3 w0_4
  refine (laws_FnExactScreenText.ok (St0 W) (St0 W) no a0.1 a0.2.1 _ _ a0.2.2.1 a0.2.2.2.1 a0.2.2.2.2 R0_0 (Hp.own (Bs.refl _)) _ H W (Ok.start W)).mono fun e W' ⟨v, s', he, hp, hok⟩ => ?_
  obtain ⟨rfl, -⟩ := hp
  subst he
  have bel := hok.below
  exact ⟨_, rfl, _, _, _, [], _, [], hW', trodAll_mk1 (shut_bool Try.underlying4 _), (trodAll_cons_mk (Below.trod laidOut (by kernel_rfl) (of_decide_eq_true (by kernel_rfl)) h0 bel lt0) trodAll_mk0), rfl, bel.frame _, fun h => by cases h⟩
theorem over : Rows.fnExactScreenTextRow.holds Try.pinned (OpenSpec.ofChange Rows.fnExactScreenTextSpec) :=
  OpenClaim.holds_of_wide 8 Try.f8 rfl rfl rfl rfl rfl rfl rfl ⟨rfl, rfl, rfl, rfl, rfl⟩ rfl rfl rfl rfl rfl (by kernel_rfl) Try.func8 (by kernel_rfl)
    (of_decide_eq_true (by kernel_rfl)) (by unfold Func.isWrapper; first | (rw [if_pos (by decide +kernel)]; kernel_rfl) | (rw [if_neg (by decide +kernel)]; exact ⟨rfl, rfl⟩))
    (fun os started H enc _ => lifted os started H enc)
end Go.Proofs.Ytopecknfnhocpaa.fnExactScreenText
namespace Go.Proofs.Ytopecknfnhocpaa
theorem fnExactScreenText_holds : Rows.FnExactScreenTextSaid := fnExactScreenText.over
end Go.Proofs.Ytopecknfnhocpaa
