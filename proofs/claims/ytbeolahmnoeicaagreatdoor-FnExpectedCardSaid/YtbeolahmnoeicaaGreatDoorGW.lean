/- A logic of what is known of memory, over the kit's weakest preconditions: one part. No conditions: lemmas. -/
import Derived.Test.YtbeolahmnoeicaaGreatDoorGLR
import Derived.Test.YtbeolahmnoeicaaGreatDoorGV
import Derived.Lib.LaidU8
import Derived.LaidMore
set_option linter.unusedVariables false
set_option linter.unusedSimpArgs false
namespace Go.Proofs.GL
open Go Go.Lib
section
variable {P : Program} {W : World}
theorem rd_cells {α : Type} {K : Kd α} {n : String} {g : Nat} {cs : Array Value} {xs : List α} (hg : P.globalNamed n = some g) (hv : W.var? P n = some cs) (hl : xs.length ≤ maxN) (h : ∀ i x, xs[i]? = some x → ∃ vs, K.rep (St0 W) vs x ∧ ∀ j v, vs[j]? = some v → cs[i * K.sz + j]? = some v) : Rd K (St0 W) (some ⟨g, 0, none⟩) xs.length xs :=
 Rd.glob hl fun i x hx => by
  obtain ⟨vs, h1, h2⟩ := h i x hx
  refine ⟨vs, h1, fun j v hj => ?_⟩
  have := World.var?_cell hg hv (i * K.sz + j)
  exact (St0.row (a := ⟨g, i * K.sz + j, none⟩) (this.trans (h2 j v hj))).2
theorem rd_tab {n : String} {g : Nat} {t e : TypeId} {N : Nat} {k : IntKind} {zs : List Int} (h : VarReads P W n (tabData k zs)) (hg : P.globalNamed n = some g) (hy : (P.globals[g]?).map (·.type) = some t) (ht : P.underlying t = some (.array N e)) (he : P.underlying e = some (.int k)) (hce : P.cellsOf e = 1) (hct : P.cellsOf t = N) (hl : zs.length ≤ maxN) : Rd (Kd.int k) (St0 W) (some ⟨g, 0, none⟩) zs.length zs := by
 obtain ⟨g', t', cs, fuel, p, hg', hy', hv, hd⟩ := h
 obtain rfl := Option.some.inj (hg.symm.trans hg')
 obtain rfl := Option.some.inj (hy.symm.trans hy')
 have hcs := cells_of_tab ht he hce hct hd
 refine rd_cells hg hv hl fun i x hx => ⟨[.int k x], rfl, fun j v hj => ?_⟩
 cases j with
 | zero =>
  obtain rfl : Value.int k x = v := by simpa using hj
  rw [← Array.getElem?_toList, hcs]
  simp [Kd.int, Kd.scalar, hx]
 | succ j => simp at hj
theorem rd_pairs {n : String} {g : Nat} {t e f : TypeId} {N : Nat} {k : IntKind} {fs : Array Field} {zs : List (Int × Int)} (h : VarReads P W n (.agg (zs.map fun z => .agg ([z.1, z.2].map fun z => .lit (.int k z))))) (hg : P.globalNamed n = some g) (hy : (P.globals[g]?).map (·.type) = some t) (ht : P.underlying t = some (.array N e)) (hN : zs.length = N) (he : P.underlying e = some (.struct fs))
  (hf : ∀ (i : Nat) (f : Field), fs[i]? = some f → P.underlying f.type = some (.int k) ∧ f.offset = i ∧ P.cellsOf f.type = 1) (hfs : fs.size = 2) (hce : P.cellsOf e = 2) (hl : zs.length ≤ maxN) : Rd ((Kd.int k).pair (Kd.int k)) (St0 W) (some ⟨g, 0, none⟩) zs.length zs := by
 obtain ⟨g', t', cs, fuel, p, hg', hy', hv, hd⟩ := h
 obtain rfl := Option.some.inj (hg.symm.trans hg')
 obtain rfl := Option.some.inj (hy.symm.trans hy')
 refine rd_cells hg hv hl fun i x hx => ⟨[.int k x.1, .int k x.2], ⟨[.int k x.1], [.int k x.2], rfl, rfl, rfl⟩, fun j v hj => ?_⟩
 have hi : i < N := by rw [← hN]; exact (List.getElem?_eq_some_iff.1 hx).1
 obtain ⟨fuel', d, q, hdi, hel⟩ := array_elem ht hd i hi
 rw [List.getElem?_map, hx] at hdi
 obtain rfl := Option.some.inj hdi
 rw [hce] at hel
 have hc := ints_of_struct he hf (by rw [hce, hfs]) hel
 have hj2 : j < 2 := by
  have := (List.getElem?_eq_some_iff.1 hj).1
  simpa using this
 have h3 := congrArg (·[j]?) hc
 simp only [List.getElem?_take, List.getElem?_drop, if_pos hj2] at h3
 rw [← Array.getElem?_toList]
 show cs.toList[i * 2 + j]? = some v
 rw [h3]
 exact hj
end
end Go.Proofs.GL

