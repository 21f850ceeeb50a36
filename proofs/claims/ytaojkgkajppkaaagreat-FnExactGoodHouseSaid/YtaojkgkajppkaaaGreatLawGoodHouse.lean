/- The law FnExactGoodHouse: for every input it answers true and leaves its arguments as they were. No conditions beyond the row's own. -/
import Derived.Test.YtaojkgkajppkaaaGreatRows
import Derived.Test.YtaojkgkajppkaaaGreatWGoodHouse4
import Derived.Test.YtaojkgkajppkaaaGreatPGoodHouse
import Derived.Test.YtaojkgkajppkaaaGreatGLR
set_option linter.unusedVariables false
namespace Go.Proofs.YtaojkgkajppkaaaGreat.fnExactGoodHouse
open Go Go.ChangeShapes Go.WideShapes Go.ChangeAt Go.RowKit Go.Proofs.GL
theorem own : ownKnob Tryz.prog.godebug = none := by kernel_rfl
theorem laidOut : laidOutB Tryz.prog = true := by kernel_rfl
set_option maxRecDepth 100000 in
theorem lifted (os : Os) (started : os.Started) (H : Type) (enc : TypeId × Value → H) :
    ReturnsInHanded {} Tryz.checked os 3 .any (Rows.fnExactGoodHouseSpec.pre6 enc Tryz.prog Tryz.f3 Rows.fnExactGoodHouseRow.domain false) (Rows.fnExactGoodHouseSpec.post enc Tryz.prog Tryz.f3 false true false false) := by
  refine returnsInHanded_of_change_sized (C := Tryz.checked) own started (by kernel_rfl) Tryz.func3
    (ChangeSpec.witness6 (enc := enc) (C := Tryz.checked) false ⟨#[], #[.slice none 0 0], []⟩ 8 (by kernel_rfl) (by kernel_rfl) (by kernel_rfl) (by kernel_rfl)) ?_
  intro W base args ds gs before hval0 hW hcnd hsz0 _
  have hval : ∀ (j : Nat) t v, Tryz.f3.params[j]? = some t → args[j]? = some v → Value.okWide Tryz.prog W .any base t v := hval0
  have hW' := hW
  obtain ⟨p, q, hA0, hV, rfl, hfz, hnd⟩ := hW
  have hA : DataW.TrodAll enc Tryz.prog W 0 (fun _ => true) true Tryz.f3.params.toList args.toList ds p := hA0
  rw [Tryz.params3] at hA hval
  obtain ⟨v0, vs0, d0, ds0, p0, q0, hargs, rfl, rfl, h0, r0⟩ := trodAll_cons hA
  obtain ⟨rfl, rfl, rfl⟩ := trodAll_nil r0
  obtain rfl : args = #[v0] := by cases args; simp_all
  obtain ⟨rfl, rfl⟩ := trodVars_none hV
  have lt0 : ∀ x ∈ p0, x.block < W.heap.size := by have hk := h0; obtain ⟨m, hm⟩ := hk; exact DataW.trod_lt m _ _ _ hm
  have o0 := (Opens.slice Tryz.underlying22 (by kernel_rfl) (by decide) (Opens.struct _ Tryz.underlying67 (by kernel_rfl) (OpensF.cons rfl (by kernel_rfl) rfl (Opens.str Tryz.underlying9) (OpensF.cons rfl (by kernel_rfl) rfl (Opens.slice Tryz.underlying64 (by kernel_rfl) (by decide) (Opens.struct _ Tryz.underlying171 (by kernel_rfl) (OpensF.cons rfl (by kernel_rfl) rfl (Opens.int Tryz.underlying3) (OpensF.cons rfl (by kernel_rfl) rfl (Opens.int Tryz.underlying3) (OpensF.cons rfl (by kernel_rfl) rfl (Opens.int Tryz.underlying3) (OpensF.cons rfl (by kernel_rfl) rfl (Opens.int Tryz.underlying3) (OpensF.cons rfl (by kernel_rfl) rfl (Opens.slice Tryz.underlying32 (by kernel_rfl) (by decide) (Opens.int Tryz.underlying3)) (OpensF.cons rfl (by kernel_rfl) rfl (Opens.slice Tryz.underlying169 (by kernel_rfl) (by decide) (Opens.struct _ Tryz.underlying235 (by kernel_rfl) (OpensF.cons rfl (by kernel_rfl) rfl (Opens.int Tryz.underlying3) (OpensF.one rfl (by kernel_rfl) (Opens.slice Tryz.underlying233 (by kernel_rfl) (by decide) (Opens.struct _ Tryz.underlying251 (by kernel_rfl) (OpensF.cons rfl (by kernel_rfl) rfl (Opens.int Tryz.underlying3) (OpensF.one rfl (by kernel_rfl) (Opens.slice Tryz.underlying32 (by kernel_rfl) (by decide) (Opens.int Tryz.underlying3)))))))))) (OpensF.one rfl (by kernel_rfl) (Opens.slice Tryz.underlying32 (by kernel_rfl) (by decide) (Opens.int Tryz.underlying3))))))))))) (OpensF.cons rfl (by kernel_rfl) rfl (Opens.slice Tryz.underlying65 (by kernel_rfl) (by decide) (Opens.struct _ Tryz.underlying173 (by kernel_rfl) (OpensF.cons rfl (by kernel_rfl) rfl (Opens.int Tryz.underlying3) (OpensF.cons rfl (by kernel_rfl) rfl (Opens.str Tryz.underlying9) (OpensF.one rfl (by kernel_rfl) (Opens.bool Tryz.underlying4)))))) (OpensF.cons rfl (by kernel_rfl) rfl (Opens.int Tryz.underlying3) (OpensF.cons rfl (by kernel_rfl) rfl (Opens.int Tryz.underlying3) (OpensF.cons rfl (by kernel_rfl) rfl (Opens.int Tryz.underlying3) (OpensF.one rfl (by kernel_rfl) (Opens.bool Tryz.underlying4)))))))))).par h0
  obtain ⟨A0, L0, C0, rfl⟩ := okWide_slice Tryz.underlying22 (hval 0 22 v0 rfl rfl)
  obtain ⟨a0, ⟨A'0, c0, e0, R0⟩, w0⟩ := o0
  simp only [Value.cells, List.cons.injEq, and_true, Value.slice.injEq] at e0
  obtain ⟨rfl, rfl, rfl⟩ := e0
  clear hA0 hval0 hsz0
  have H := law_GoodHouse a0 w0
  refine (z20.ok (St0 W) (St0 W) no _ _ a0 R0 (Hp.own (Bs.refl _)) _ H W (Ok.start W)).mono fun e W' ⟨v, s', he, hp, hok⟩ => ?_
  obtain ⟨rfl, -⟩ := hp
  subst he
  have bel := hok.below
  exact ⟨_, rfl, _, _, _, [], _, [], hW', trodAll_mk1 (shut_bool Tryz.underlying4 _), (trodAll_cons_mk (Below.trod laidOut (by kernel_rfl) (of_decide_eq_true (by kernel_rfl)) h0 bel lt0) trodAll_mk0), rfl, bel.frame _, fun h => by cases h⟩
theorem over : Rows.fnExactGoodHouseRow.holds Tryz.pinned (OpenSpec.ofChange Rows.fnExactGoodHouseSpec) :=
  OpenClaim.holds_of_wide 3 Tryz.f3 rfl rfl rfl rfl rfl rfl rfl ⟨rfl, rfl, rfl, rfl, rfl⟩ rfl rfl rfl rfl rfl (by kernel_rfl) Tryz.func3 (by kernel_rfl)
    (of_decide_eq_true (by kernel_rfl)) (by unfold Func.isWrapper; first | (rw [if_pos (by decide +kernel)]; kernel_rfl) | (rw [if_neg (by decide +kernel)]; exact ⟨rfl, rfl⟩))
    (fun os started H enc _ => lifted os started H enc)
end Go.Proofs.YtaojkgkajppkaaaGreat.fnExactGoodHouse
namespace Go.Proofs.YtaojkgkajppkaaaGreat
theorem fnExactGoodHouse_holds : Rows.FnExactGoodHouseSaid := fnExactGoodHouse.over
end Go.Proofs.YtaojkgkajppkaaaGreat
