/- A logic of what is known of memory, over the kit's weakest preconditions: one part. No conditions: lemmas. -/
import Derived.Test.YtbeolahmnoeicaaGreatDoorGI
set_option autoImplicit false
set_option relaxedAutoImplicit false
set_option linter.unusedVariables false
set_option linter.unusedSimpArgs false
namespace Go.Proofs.GL
open Go
section
variable {P : Program} {w0 : World} {o0 : Nat → Bool} {ops : Array Oper} {Q : Exit → List Value → St → Prop} {l : List Value} {s : St}
def HX (P : Program) (w0 : World) (o0 : Nat → Bool) (ops : Array Oper) (Q : Exit → List Value → St → Prop) (n : Nat) (L : Array Bool) (l : List Value) (s : St) : Prop :=
 ∀ w, Ok w0 o0 w s → wpAny P .any ops (QQ w0 o0 Q) n L (mkA l) w
theorem HX_draw {id : Nat} {r : List Oper} (hm : P.follows .mixedOrders = true) (h : HX P w0 o0 r.toArray Q r.length (Array.replicate r.length false) l s) : HT P w0 o0 (.region id r.toArray true) Q l s :=
 fun w hw => wp_region_any hm (by
  have := h _ (hw.drawn (w.drawn + 1))
  simpa using this)
theorem HX_lim {R : St → Prop} {k n : Nat} {L : Array Bool} (R2 : St → Prop) (k2 : Nat) (h : HK P w0 o0 R2 k2 ops Q n L l s) : HX P w0 o0 ops Q n L l s := fun w hok => (h.2 w hok).any
theorem getD_set_true {L : Array Bool} {i k : Nat} (h : L.getD k false = true) : (L.setIfInBounds i true).getD k false = true := by
 by_cases hik : i = k
 ·subst hik
  simp only [Array.getD_eq_getD_getElem?, Array.getElem?_setIfInBounds] at h ⊢
  by_cases hlt : i < L.size
  ·simp [hlt]
  ·rw [Array.getElem?_eq_none (by omega)] at h; cases h
 ·rw [getD_set_ne false hik]; exact h
theorem anyK.free {Q : Exit → Act → World → Prop} {k : Nat} {C : World → Prop} : ∀ {n : Nat} {L : Array Bool} {a : Act} {w : World}, L.getD k false = true → wpAny P .any ops Q n L a w → anyK P ops Q k C n L a w
 | 0, _, _, _, _, h => h
 | n + 1, _, _, _, hk, h => ⟨h.1, fun i hi => wpOp_mono (fun _ _ hh => ⟨fun h0 => (by rw [getD_set_true hk] at h0; cases h0), anyK.free (getD_set_true hk) hh⟩) (h.2 i hi)⟩
def EachHK (P : Program) (w0 : World) (o0 : Nat → Bool) (R : St → Prop) (k : Nat) (ops : Array Oper) (Q : Exit → List Value → St → Prop) (n : Nat) (L : Array Bool) (l : List Value) (s : St) : List Nat → Prop
 | [] => True
 | i :: is => (∃ oi, opOf ops.toList i = some oi ∧ (wantL ops oi l = true ∧ (HO P false oi l s fun l' s' => HK P w0 o0 R k ops Q n (L.setIfInBounds i true) l' s') ∨ wantL ops oi l = false ∧ HK P w0 o0 R k ops Q n (L.setIfInBounds i true) (yh l oi.dst undef) s)) ∧ EachHK P w0 o0 R k ops Q n L l s is
theorem EachHK.get {R : St → Prop} {k : Nat} {L : Array Bool} {n : Nat} : ∀ {is : List Nat}, EachHK P w0 o0 R k ops Q n L l s is → ∀ i ∈ is, ∃ oi, opOf ops.toList i = some oi ∧ (wantL ops oi l = true ∧ (HO P false oi l s fun l' s' => HK P w0 o0 R k ops Q n (L.setIfInBounds i true) l' s') ∨ wantL ops oi l = false ∧ HK P w0 o0 R k ops Q n (L.setIfInBounds i true) (yh l oi.dst undef) s)
 | j :: js, h, i, hi => by
  rcases List.mem_cons.1 hi with rfl | hi
  ·exact h.1
  ·exact EachHK.get h.2 i hi
theorem HK_more {R : St → Prop} {k : Nat} {L : Array Bool} {n : Nat} (rs : List Nat) (hr : Region.ready .any ops L = rs) (hne : rs.isEmpty = false) (hR : L.getD k false = false → R s) (h : EachHK P w0 o0 R k ops Q n L l s rs) : HK P w0 o0 R k ops Q (n + 1) L l s := by
 refine ⟨hR, fun w hok => ⟨fun h0 => ?_, fun m hm => ?_⟩⟩
 ·rw [hr] at h0; subst h0; cases hne
 rw [hr] at hm
 obtain ⟨om, h1, h2⟩ := h.get m hm
 rw [opOf_eq, Array.getElem?_toList] at h1
 unfold wpOp
 simp only [h1]
 rcases h2 with ⟨h2, h3⟩ | ⟨h2, h3⟩
 ·rw [if_pos (show Region.wanted om (yielded ops (mkA l).tmps) = true from h2)]
  exact Or.inl (HO.sound h3 (fun l s w hk ho => ⟨fun hL => ⟨s, hk.1 hL, ho⟩, hk.2 w ho⟩) w hok)
 ·rw [if_neg (by rw [show Region.wanted om (yielded ops (mkA l).tmps) = false from h2]; simp), put_eq]
  exact ⟨fun hL => ⟨s, h3.1 hL, hok⟩, h3.2 w hok⟩
def EachHX (P : Program) (w0 : World) (o0 : Nat → Bool) (ops : Array Oper) (Q : Exit → List Value → St → Prop) (n : Nat) (L : Array Bool) (l : List Value) (s : St) : List Nat → Prop
 | [] => True
 | i :: is => (∃ oi, opOf ops.toList i = some oi ∧ (wantL ops oi l = true ∧ (HO P false oi l s fun l' s' => HX P w0 o0 ops Q n (L.setIfInBounds i true) l' s') ∨ wantL ops oi l = false ∧ HX P w0 o0 ops Q n (L.setIfInBounds i true) (yh l oi.dst undef) s)) ∧ EachHX P w0 o0 ops Q n L l s is
theorem EachHX.get {L : Array Bool} {n : Nat} : ∀ {is : List Nat}, EachHX P w0 o0 ops Q n L l s is → ∀ i ∈ is, ∃ oi, opOf ops.toList i = some oi ∧ (wantL ops oi l = true ∧ (HO P false oi l s fun l' s' => HX P w0 o0 ops Q n (L.setIfInBounds i true) l' s') ∨ wantL ops oi l = false ∧ HX P w0 o0 ops Q n (L.setIfInBounds i true) (yh l oi.dst undef) s)
 | j :: js, h, i, hi => by
  rcases List.mem_cons.1 hi with rfl | hi
  ·exact h.1
  ·exact EachHX.get h.2 i hi
theorem HK_passP {R : St → Prop} {k : Nat} {L : Array Bool} {n : Nat} (i : Nat) {oi : Oper} (hi : opOf ops.toList i = some oi) (hm : mayP ops k i L = true) (hQ : ∀ c l s, ¬ Q (.panic c) l s) (hw : wantL ops oi l = false) (hR : L.getD k false = false → R s)
  (h : HK P w0 o0 R k ops Q n (L.setIfInBounds i true) (yh l oi.dst undef) s) : HK P w0 o0 R k ops Q (n + 1) L l s := by
 rw [opOf_eq, Array.getElem?_toList] at hi
 simp only [mayP, Bool.and_eq_true, List.contains_iff_mem, bne_iff_ne] at hm
 obtain ⟨⟨⟨h1, h2⟩, h3⟩, h4⟩ := hm
 exact ⟨hR, fun w hok => anyK.takeP hi h1 h4 (fun c a w hh => by obtain ⟨l, s, _, hq, _⟩ := hh; exact absurd hq (hQ c l s)) n L _ w (Region.free_spec hi h2) h3 (.inr ⟨hw, rfl⟩) (fun hk => ⟨s, hR hk, hok⟩) (by rw [put_eq]; exact h.2 w hok)⟩
end
end Go.Proofs.GL

