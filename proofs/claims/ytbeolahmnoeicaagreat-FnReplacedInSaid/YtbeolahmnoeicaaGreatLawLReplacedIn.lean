/- The law FnReplacedIn: for every input it answers true and leaves its arguments as they were. No conditions beyond the row's own. -/
import Derived.Test.YtbeolahmnoeicaaGreatRows
import Derived.Test.YtbeolahmnoeicaaGreatWLReplacedIn4
import Derived.Test.YtbeolahmnoeicaaGreatPLReplacedInq0
import Derived.Test.YtbeolahmnoeicaaGreatPLReplacedIn
import Derived.Test.YtbeolahmnoeicaaGreatGLR
set_option linter.unusedVariables false
namespace Go.Proofs.YtbeolahmnoeicaaGreat.fnReplacedIn
open Go Go.ChangeShapes Go.WideShapes Go.ChangeAt Go.RowKit Go.Proofs.GL
theorem own : ownKnob Tryz.prog.godebug = none := by kernel_rfl
theorem laidOut : laidOutB Tryz.prog = true := by kernel_rfl
set_option maxRecDepth 100000 in
theorem lifted (os : Os) (started : os.Started) (H : Type) (enc : TypeId × Value → H) :
    ReturnsInHanded {} Tryz.checked os 3 .any (Rows.fnReplacedInSpec.pre6 enc Tryz.prog Tryz.f3 Rows.fnReplacedInRow.domain false) (Rows.fnReplacedInSpec.post enc Tryz.prog Tryz.f3 false true false false) := by
  refine returnsInHanded_of_change_sized (C := Tryz.checked) own started (by kernel_rfl) Tryz.func3
    (ChangeSpec.witness6 (enc := enc) (C := Tryz.checked) false ⟨#[], #[.slice none 0 0, .slice none 0 0], []⟩ 8 (by kernel_rfl) (by kernel_rfl) (by kernel_rfl) (by kernel_rfl)) ?_
  intro W base args ds gs before hval0 hW hcnd hsz0 _
  have hval : ∀ (j : Nat) t v, Tryz.f3.params[j]? = some t → args[j]? = some v → Value.okWide Tryz.prog W .any base t v := hval0
  have hW' := hW
  obtain ⟨p, q, hA0, hV, rfl, hfz, hnd⟩ := hW
  have hA : DataW.TrodAll enc Tryz.prog W 0 (fun _ => true) true Tryz.f3.params.toList args.toList ds p := hA0
  rw [Tryz.params3] at hA hval
  obtain ⟨v0, vs0, d0, ds0, p0, q0, hargs, rfl, rfl, h0, r0⟩ := trodAll_cons hA
  obtain ⟨v1, vs1, d1, ds1, p1, q1, rfl, rfl, rfl, h1, r1⟩ := trodAll_cons r0
  obtain ⟨rfl, rfl, rfl⟩ := trodAll_nil r1
  obtain rfl : args = #[v0, v1] := by cases args; simp_all
  obtain ⟨rfl, rfl⟩ := trodVars_none hV
  have lt0 : ∀ x ∈ p0, x.block < W.heap.size := by have hk := h0; obtain ⟨m, hm⟩ := hk; exact DataW.trod_lt m _ _ _ hm
  have o0 := (Opens.slice Tryz.underlying22 (by kernel_rfl) (by decide) (Opens.int Tryz.underlying5)).par h0
  obtain ⟨A0, L0, C0, rfl⟩ := okWide_slice Tryz.underlying22 (hval 0 22 v0 rfl rfl)
  obtain ⟨a0, ⟨A'0, c0, e0, R0⟩, w0⟩ := o0
  simp only [Value.cells, List.cons.injEq, and_true, Value.slice.injEq] at e0
  obtain ⟨rfl, rfl, rfl⟩ := e0
  have lt1 : ∀ x ∈ p1, x.block < W.heap.size := by have hk := h1; obtain ⟨m, hm⟩ := hk; exact DataW.trod_lt m _ _ _ hm
  have o1 := (Opens.slice Tryz.underlying22 (by kernel_rfl) (by decide) (Opens.int Tryz.underlying5)).par h1
  obtain ⟨A1, L1, C1, rfl⟩ := okWide_slice Tryz.underlying22 (hval 1 22 v1 rfl rfl)
  obtain ⟨a1, ⟨A'1, c1, e1, R1⟩, w1⟩ := o1
  simp only [Value.cells, List.cons.injEq, and_true, Value.slice.injEq] at e1
  obtain ⟨rfl, rfl, rfl⟩ := e1
  clear hA0 hval0 hsz0
  have H := law_ReplacedIn a0 a1 w0 w1
  refine (z1z.ok (St0 W) (St0 W) no _ _ a0 _ _ a1 R0 R1 (Hp.own (Bs.refl _)) _ H W (Ok.start W)).mono fun e W' ⟨v, s', he, hp, hok⟩ => ?_
  obtain ⟨rfl, -⟩ := hp
  subst he
  have bel := hok.below
  exact ⟨_, rfl, _, _, _, [], _, [], hW', trodAll_mk1 (shut_bool Tryz.underlying4 _), (trodAll_cons_mk (Below.trod laidOut (by kernel_rfl) (of_decide_eq_true (by kernel_rfl)) h0 bel lt0) (trodAll_cons_mk (Below.trod laidOut (by kernel_rfl) (of_decide_eq_true (by kernel_rfl)) h1 bel lt1) trodAll_mk0)), rfl, bel.frame _, fun h => by cases h⟩
theorem over : Rows.fnReplacedInRow.holds Tryz.pinned (OpenSpec.ofChange Rows.fnReplacedInSpec) :=
  OpenClaim.holds_of_wide 3 Tryz.f3 rfl rfl rfl rfl rfl rfl rfl ⟨rfl, rfl, rfl, rfl, rfl⟩ rfl rfl rfl rfl rfl (by kernel_rfl) Tryz.func3 (by kernel_rfl)
    (of_decide_eq_true (by kernel_rfl)) (by unfold Func.isWrapper; first | (rw [if_pos (by decide +kernel)]; kernel_rfl) | (rw [if_neg (by decide +kernel)]; exact ⟨rfl, rfl⟩))
    (fun os started H enc _ => lifted os started H enc)
end Go.Proofs.YtbeolahmnoeicaaGreat.fnReplacedIn
namespace Go.Proofs.YtbeolahmnoeicaaGreat
theorem fnReplacedIn_holds : Rows.FnReplacedInSaid := fnReplacedIn.over
end Go.Proofs.YtbeolahmnoeicaaGreat
