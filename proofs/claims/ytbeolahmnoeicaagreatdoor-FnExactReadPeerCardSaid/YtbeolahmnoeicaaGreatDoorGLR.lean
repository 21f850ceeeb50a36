/- A logic of what is known of memory, over the kit's weakest preconditions: one part. No conditions: lemmas. -/
import Derived.Test.YtbeolahmnoeicaaGreatDoorGH
import Derived.WalkKit
import Derived.ProofKit
import Derived.OpenShut
import Derived.ShutString
import Derived.ChangeOld
import Derived.Below
import Derived.SizedLaws
set_option linter.unusedVariables false
set_option linter.unusedSimpArgs false
namespace Go.Proofs.GL
open Go
def St0 (w : World) : St := ⟨fun b => match w.heap[b]? with | some (.cells c _ _) => some c.toList | _ => none, fun _ => none, fun _ => none, fun _ => none⟩
theorem Ok.start (w : World) : Ok w (St0 w).dom w (St0 w) := by
 refine ⟨?_, ?_, ?_, ?_, ?_, ?_, rfl, rfl, rfl, Nat.le_refl _, fun _ _ _ => rfl, fun _ hb => .inl hb⟩
 ·intro b cs h
  simp only [St0] at h
  split at h
  ·rename_i c t fr hh
   injection h with h
   subst h
   exact ⟨c, t, fr, hh, List.prefix_refl _⟩
  ·cases h
 all_goals (intros; simp_all [St0])
theorem St0.row {w : World} {a : Addr} {v : Value} (h : w.cell? a = some v) : a.spot = none ∧ (St0 w).row a.block a.off v := by
 unfold World.cell? at h
 split at h
 ·rename_i c t fr hh
  split at h
  ·cases h
  ·rename_i hs
   refine ⟨by cases e : a.spot <;> simp_all, .inl ⟨c.toList, by simp [St0, hh], by simpa using h⟩⟩
 ·cases h
def Opens (P : Program) (t : TypeId) {α : Type} (K : Kd α) (W : α → Prop) : Prop :=
 ∀ (H : Type) (enc : TypeId × Value → H) (w : World) (fuel : Nat) (cs : List Value) (x : DataW H × List MemPlace), DataW.trod enc P w 0 (fun _ => true) true fuel t cs = some x → ∃ a : α, K.rep (St0 w) cs a ∧ W a
section
variable {P : Program} {t : TypeId}
def inK (k : IntKind) (n : Int) : Prop := k.min ≤ n ∧ n ≤ k.max
theorem Opens.int {k : IntKind} (ht : P.underlying t = some (.int k)) : Opens P t (Kd.int k) (inK k) := by
 intro H enc w fuel cs x h
 obtain ⟨n, rfl, _, hw⟩ := DataW.trod_int ht h
 simp only [Lit.wf, Bool.and_eq_true, decide_eq_true_eq] at hw
 exact ⟨n, rfl, hw⟩
theorem Opens.bool (ht : P.underlying t = some .bool) : Opens P t Kd.bool (fun _ => True) := by
 intro H enc w fuel cs x h
 obtain ⟨n, rfl, _⟩ := DataW.trod_bool ht h
 exact ⟨n, rfl, trivial⟩
theorem Opens.str (ht : P.underlying t = some .string) : Opens P t Kd.str (fun b => b.size ≤ maxN) := by
 intro H enc w fuel cs x h
 obtain ⟨n, rfl, _, h2⟩ := DataW.trod_string ht h
 exact ⟨n, rfl, by unfold maxLen at h2; unfold maxN; omega⟩
def allW {α : Type} (W : α → Prop) (xs : List α) : Prop := xs.length ≤ maxN ∧ ∀ x ∈ xs, W x
theorem list_of {α : Type} {R : Nat → α → Prop} : ∀ n : Nat, (∀ i, i < n → ∃ a, R i a) → ∃ xs : List α, xs.length = n ∧ ∀ i a, xs[i]? = some a → R i a := by
 intro n
 induction n with
 | zero => exact fun _ => ⟨[], rfl, fun i a h => by simp at h⟩
 | succ n ih =>
  intro h
  obtain ⟨xs, h1, h2⟩ := ih fun i hi => h i (by omega)
  obtain ⟨a, ha⟩ := h n (by omega)
  refine ⟨xs ++ [a], by simp [h1], fun i b hb => ?_⟩
  by_cases hi : i < n
  ·rw [List.getElem?_append_left (by omega)] at hb; exact h2 i b hb
  ·rw [List.getElem?_append_right (by omega)] at hb
   have : i = n := by
    have := (List.getElem?_eq_some_iff.1 hb).1
    simp at this
    omega
   subst this
   simp [h1] at hb
   subst hb
   exact ha
theorem Opens.slice {α : Type} {K : Kd α} {W : α → Prop} {e : TypeId} (ht : P.underlying t = some (.slice e)) (hc : P.cellsOf e = K.sz) (hp : 0 < K.sz) (he : Opens P e K W) : Opens P t (Kd.sl K) (allW W) := by
 intro H enc w fuel cs x h
 rcases DataW.trod_slice ht h with ⟨rfl, _⟩ | ⟨a, len, cap, elems, rest, n, _, rfl, rfl, hb, hl, hm, hlen, hel, _, _⟩
 ·exact ⟨[], ⟨none, 0, rfl, Rd.nil _ _⟩, by simp [maxN], by simp⟩
 have hsp : 0 < len → a.spot = none := by
  intro hi
  have h1 := hel 0 hi
  rw [List.getElem?_eq_getElem (by omega), Option.bind_eq_some_iff] at h1
  obtain ⟨cs, hcs, _⟩ := h1
  obtain ⟨_, h2, h3⟩ := World.cells?_some hcs
  have h4 := h3 0 (by omega)
  rw [List.getElem?_eq_getElem (by omega)] at h4
  have h5 := (St0.row h4).1
  simpa [Addr.add] using h5
 have each : ∀ i, i < len → ∃ x : α, W x ∧ ∃ cs, K.rep (St0 w) cs x ∧ ∀ j v, cs[j]? = some v → (St0 w).row a.block (a.off + i * K.sz + j) v := by
  intro i hi
  have h1 := hel i hi
  rw [List.getElem?_eq_getElem (by omega), Option.bind_eq_some_iff] at h1
  obtain ⟨cs, hcs, h1⟩ := h1
  obtain ⟨x, hx, hw⟩ := he H enc w n cs _ h1
  obtain ⟨_, h2, h3⟩ := World.cells?_some hcs
  refine ⟨x, hw, cs, hx, fun j v hj => ?_⟩
  have hjl : j < P.cellsOf e := by rw [← h2]; exact (List.getElem?_eq_some_iff.1 hj).1
  have h4 := h3 j hjl
  rw [hj] at h4
  have h5 := St0.row h4
  have ea : a = ⟨a.block, a.off, none⟩ := by have := hsp (by omega); cases a; simp_all
  rw [ea, addp, addp, hc] at h5
  exact h5.2
 obtain ⟨xs, h1, h2⟩ := list_of len each
 have hm' : cap ≤ maxN := by unfold maxLen at hm; unfold maxN; omega
 refine ⟨xs, ⟨some a, cap, by rw [h1], by omega, hm', fun hn => ⟨a.block, a.off, ?_, fun i x hx => (h2 i x hx).2⟩⟩, by omega, fun x hx => ?_⟩
 ·cases xs with
  | nil => exact absurd rfl hn
  | cons x xs => have := hsp (by simp at h1; omega); cases a; simp_all
 ·obtain ⟨i, hi⟩ := List.getElem?_of_mem hx
  exact (h2 i x hi).1
def OpensF (P : Program) (fs : List Field) (off : Nat) {α : Type} (K : Kd α) (W : α → Prop) : Prop :=
 ∀ (H : Type) (enc : TypeId × Value → H) (w : World) (fuel : Nat) (cs : List Value), (∀ f ∈ fs, ∃ x, DataW.trod enc P w 0 (fun _ => true) true fuel f.type ((cs.drop f.offset).take (P.cellsOf f.type)) = some x) → ∃ a : α, K.rep (St0 w) ((cs.drop off).take K.sz) a ∧ W a
theorem OpensF.one {α : Type} {K : Kd α} {W : α → Prop} {f : Field} {off : Nat} (ho : f.offset = off) (hc : P.cellsOf f.type = K.sz) (hf : Opens P f.type K W) : OpensF P [f] off K W := by
 intro H enc w fuel cs h
 obtain ⟨x, hx⟩ := h f (by simp)
 subst ho
 rw [hc] at hx
 exact hf H enc w fuel _ x hx
theorem OpensF.cons {α β : Type} {K : Kd α} {W : α → Prop} {L : Kd β} {V : β → Prop} {f : Field} {fs : List Field} {off off2 : Nat} (ho : f.offset = off) (hc : P.cellsOf f.type = K.sz) (ho2 : off2 = off + K.sz) (hf : Opens P f.type K W) (hfs : OpensF P fs off2 L V) : OpensF P (f :: fs) off (Kd.pair K L) (fun a => W a.1 ∧ V a.2) := by
 intro H enc w fuel cs h
 obtain ⟨x, hx⟩ := h f (by simp)
 obtain ⟨b, hb, hv⟩ := hfs H enc w fuel cs fun g hg => h g (by simp [hg])
 subst ho ho2
 rw [hc] at hx
 obtain ⟨a, ha, hw⟩ := hf H enc w fuel _ x hx
 refine ⟨(a, b), ⟨_, _, ?_, ha, hb⟩, hw, hv⟩
 show (cs.drop f.offset).take (K.sz + L.sz) = _
 rw [List.take_add, List.drop_drop]
theorem Opens.struct {α : Type} {K : Kd α} {W : α → Prop} (fs : List Field) (ht : P.underlying t = some (.struct fs.toArray)) (hc : P.cellsOf t = K.sz) (hf : OpensF P fs 0 K W) : Opens P t K W := by
 intro H enc w fuel cs x h
 obtain ⟨xs, n, rfl, _, hl, hx, h2⟩ := DataW.trod_struct ht h
 obtain ⟨a, h3, h4⟩ := hf H enc w n cs (fun f hfm => by
  obtain ⟨i, hi⟩ := List.getElem?_of_mem hfm
  have := h2 i f (by simpa using hi)
  have hi2 : i < xs.length := by rw [hx]; have := (List.getElem?_eq_some_iff.1 hi).1; simpa using this
  exact ⟨xs[i], by rw [this, List.getElem?_eq_getElem hi2]⟩)
 refine ⟨a, ?_, h4⟩
 rw [List.drop_zero, List.take_of_length_le (by omega)] at h3
 exact h3
theorem Opens.par {α : Type} {K : Kd α} {W : α → Prop} (ho : Opens P t K W) {H : Type} {enc : TypeId × Value → H} {w : World} {v : Value} {d : DataW H} {ps : List MemPlace} (h : DataW.Trod enc P w 0 (fun _ => true) true t v d ps) : ∃ a : α, K.rep (St0 w) v.cells.toList a ∧ W a := by
 obtain ⟨fuel, h⟩ := h
 exact ho H enc w fuel _ _ h
end
end Go.Proofs.GL

