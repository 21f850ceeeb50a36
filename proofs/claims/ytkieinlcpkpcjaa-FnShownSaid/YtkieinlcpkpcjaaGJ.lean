/- A logic of what is known of memory, over the kit's weakest preconditions: part GJ. No conditions: lemmas. -/
import Derived.Test.YtkieinlcpkpcjaaGI
/-! Regions that draw: any number of ready operations, a limit that comes later, skips. -/
set_option autoImplicit false
set_option relaxedAutoImplicit false
set_option linter.unusedVariables false
set_option linter.unusedSimpArgs false
namespace Go.Proofs.GL
open Go
theorem retH {ρ : Type} (C : ρ → Prop) {p r : ρ} (H : some p = some r) (h : C p) : C r := Option.some.inj H ▸ h
section
variable {P : Program} {w0 : World} {o0 : Nat → Bool} {ops : Array Oper} {Q : Exit → List Value → St → Prop} {l : List Value} {s : St}
/-- No condition beside the order. -/
def HX (P : Program) (w0 : World) (o0 : Nat → Bool) (ops : Array Oper) (Q : Exit → List Value → St → Prop) (n : Nat) (L : Array Bool) (l : List Value) (s : St) : Prop :=
  ∀ w, Ok w0 o0 w s → wpAny P .any ops (QQ w0 o0 Q) n L (mkA l) w
theorem HX_draw {id : Nat} {r : List Oper} (hm : P.follows .mixedOrders = true) (h : HX P w0 o0 r.toArray Q r.length (Array.replicate r.length false) l s) : HT P w0 o0 (.region id r.toArray true) Q l s :=
  fun w hw => wp_region_any hm (by
    have := h _ (hw.drawn (w.drawn + 1))
    simpa using this)
/-- A limit is set. -/
theorem HX_lim {R : St → Prop} {k n : Nat} {L : Array Bool} (R2 : St → Prop) (k2 : Nat) (h : HK P w0 o0 R2 k2 ops Q n L l s) : HX P w0 o0 ops Q n L l s := fun w hok => (h.2 w hok).any
theorem getD_set_true {L : Array Bool} {i k : Nat} (h : L.getD k false = true) : (L.setIfInBounds i true).getD k false = true := by
  by_cases hik : i = k
  · subst hik
    simp only [Array.getD_eq_getD_getElem?, Array.getElem?_setIfInBounds] at h ⊢
    by_cases hlt : i < L.size
    · simp [hlt]
    · rw [Array.getElem?_eq_none (by omega)] at h; cases h
  · rw [getD_set_ne false hik]; exact h
theorem anyK.free {Q : Exit → Act → World → Prop} {k : Nat} {C : World → Prop} : ∀ {n : Nat} {L : Array Bool} {a : Act} {w : World}, L.getD k false = true → wpAny P .any ops Q n L a w → anyK P ops Q k C n L a w
  | 0, _, _, _, _, h => h
  | n + 1, _, _, _, hk, h => ⟨h.1, fun i hi => wpOp_mono (fun _ _ hh => ⟨fun h0 => (by rw [getD_set_true hk] at h0; cases h0), anyK.free (getD_set_true hk) hh⟩) (h.2 i hi)⟩
/-- The limit has come up. -/
theorem HK_free {R : St → Prop} {k : Nat} {L : Array Bool} {n : Nat} (hk : L.getD k false = true) (h : HX P w0 o0 ops Q n L l s) : HK P w0 o0 R k ops Q n L l s :=
  ⟨fun h0 => (by rw [hk] at h0; cases h0), fun w hok => anyK.free hk (h w hok)⟩
/-- Each of some numbers may come up; a skip too. -/
def EachHK (P : Program) (w0 : World) (o0 : Nat → Bool) (R : St → Prop) (k : Nat) (ops : Array Oper) (Q : Exit → List Value → St → Prop) (n : Nat) (L : Array Bool) (l : List Value) (s : St) : List Nat → Prop
  | [] => True
  | i :: is => (∃ oi, opOf ops.toList i = some oi ∧ (wantL ops oi l = true ∧ (HO P false oi l s fun l' s' => HK P w0 o0 R k ops Q n (L.setIfInBounds i true) l' s') ∨ wantL ops oi l = false ∧ HK P w0 o0 R k ops Q n (L.setIfInBounds i true) (putL l oi.dst undef) s)) ∧ EachHK P w0 o0 R k ops Q n L l s is
theorem EachHK.get {R : St → Prop} {k : Nat} {L : Array Bool} {n : Nat} : ∀ {is : List Nat}, EachHK P w0 o0 R k ops Q n L l s is → ∀ i ∈ is, ∃ oi, opOf ops.toList i = some oi ∧ (wantL ops oi l = true ∧ (HO P false oi l s fun l' s' => HK P w0 o0 R k ops Q n (L.setIfInBounds i true) l' s') ∨ wantL ops oi l = false ∧ HK P w0 o0 R k ops Q n (L.setIfInBounds i true) (putL l oi.dst undef) s)
  | j :: js, h, i, hi => by
    rcases List.mem_cons.1 hi with rfl | hi
    · exact h.1
    · exact EachHK.get h.2 i hi
theorem HK_more {R : St → Prop} {k : Nat} {L : Array Bool} {n : Nat} (rs : List Nat) (hr : Region.ready .any ops L = rs) (hne : rs.isEmpty = false) (hR : L.getD k false = false → R s) (h : EachHK P w0 o0 R k ops Q n L l s rs) : HK P w0 o0 R k ops Q (n + 1) L l s := by
  refine ⟨hR, fun w hok => ⟨fun h0 => ?_, fun m hm => ?_⟩⟩
  · rw [hr] at h0; subst h0; cases hne
  rw [hr] at hm
  obtain ⟨om, h1, h2⟩ := h.get m hm
  rw [opOf_eq, Array.getElem?_toList] at h1
  unfold wpOp
  simp only [h1]
  rcases h2 with ⟨h2, h3⟩ | ⟨h2, h3⟩
  · rw [if_pos (show Region.wanted om (yielded ops (mkA l).tmps) = true from h2)]
    exact Or.inl (HO.sound h3 (fun l s w hk ho => ⟨fun hL => ⟨s, hk.1 hL, ho⟩, hk.2 w ho⟩) w hok)
  · rw [if_neg (by rw [show Region.wanted om (yielded ops (mkA l).tmps) = false from h2]; simp), put_eq]
    exact ⟨fun hL => ⟨s, h3.1 hL, hok⟩, h3.2 w hok⟩
def EachHX (P : Program) (w0 : World) (o0 : Nat → Bool) (ops : Array Oper) (Q : Exit → List Value → St → Prop) (n : Nat) (L : Array Bool) (l : List Value) (s : St) : List Nat → Prop
  | [] => True
  | i :: is => (∃ oi, opOf ops.toList i = some oi ∧ (wantL ops oi l = true ∧ (HO P false oi l s fun l' s' => HX P w0 o0 ops Q n (L.setIfInBounds i true) l' s') ∨ wantL ops oi l = false ∧ HX P w0 o0 ops Q n (L.setIfInBounds i true) (putL l oi.dst undef) s)) ∧ EachHX P w0 o0 ops Q n L l s is
theorem EachHX.get {L : Array Bool} {n : Nat} : ∀ {is : List Nat}, EachHX P w0 o0 ops Q n L l s is → ∀ i ∈ is, ∃ oi, opOf ops.toList i = some oi ∧ (wantL ops oi l = true ∧ (HO P false oi l s fun l' s' => HX P w0 o0 ops Q n (L.setIfInBounds i true) l' s') ∨ wantL ops oi l = false ∧ HX P w0 o0 ops Q n (L.setIfInBounds i true) (putL l oi.dst undef) s)
  | j :: js, h, i, hi => by
    rcases List.mem_cons.1 hi with rfl | hi
    · exact h.1
    · exact EachHX.get h.2 i hi
theorem HX_more {L : Array Bool} {n : Nat} (rs : List Nat) (hr : Region.ready .any ops L = rs) (hne : rs.isEmpty = false) (h : EachHX P w0 o0 ops Q n L l s rs) : HX P w0 o0 ops Q (n + 1) L l s := by
  refine fun w hok => ⟨fun h0 => ?_, fun m hm => ?_⟩
  · rw [hr] at h0; subst h0; cases hne
  rw [hr] at hm
  obtain ⟨om, h1, h2⟩ := h.get m hm
  rw [opOf_eq, Array.getElem?_toList] at h1
  unfold wpOp
  simp only [h1]
  rcases h2 with ⟨h2, h3⟩ | ⟨h2, h3⟩
  · rw [if_pos (show Region.wanted om (yielded ops (mkA l).tmps) = true from h2)]
    exact Or.inl (HO.sound h3 (fun l s w hk ho => hk w ho) w hok)
  · rw [if_neg (by rw [show Region.wanted om (yielded ops (mkA l).tmps) = false from h2]; simp), put_eq]
    exact h3 w hok
theorem HX_done {L : Array Bool} {n : Nat} (hr : Region.ready .any ops L = []) (h : Q .normal l s) : HX P w0 o0 ops Q n L l s := fun w hw => wpAny_done hr ⟨l, s, rfl, h, hw⟩ n
theorem HK_passP {R : St → Prop} {k : Nat} {L : Array Bool} {n : Nat} (i : Nat) {oi : Oper} (hi : opOf ops.toList i = some oi) (hm : mayP ops k i L = true) (hQ : ∀ c l s, ¬ Q (.panic c) l s) (hw : wantL ops oi l = false) (hR : L.getD k false = false → R s)
    (h : HK P w0 o0 R k ops Q n (L.setIfInBounds i true) (putL l oi.dst undef) s) : HK P w0 o0 R k ops Q (n + 1) L l s := by
  rw [opOf_eq, Array.getElem?_toList] at hi
  simp only [mayP, Bool.and_eq_true, List.contains_iff_mem, bne_iff_ne] at hm
  obtain ⟨⟨⟨h1, h2⟩, h3⟩, h4⟩ := hm
  exact ⟨hR, fun w hok => anyK.takeP hi h1 h4 (fun c a w hh => by obtain ⟨l, s, _, hq, _⟩ := hh; exact absurd hq (hQ c l s)) n L _ w (Region.free_spec hi h2) h3 (.inr ⟨hw, rfl⟩) (fun hk => ⟨s, hR hk, hok⟩) (by rw [put_eq]; exact h.2 w hok)⟩
def mayX (ops : Array Oper) (i : Nat) (L : Array Bool) : Bool := Region.noSelect ops && Region.free .any ops L i && (Region.ready .any ops L).contains i
theorem HX_passP {L : Array Bool} {n : Nat} (i : Nat) {oi : Oper} (hi : opOf ops.toList i = some oi) (hm : mayX ops i L = true) (hQ : ∀ c l s, ¬ Q (.panic c) l s) (hw : wantL ops oi l = false)
    (h : HX P w0 o0 ops Q n (L.setIfInBounds i true) (putL l oi.dst undef) s) : HX P w0 o0 ops Q (n + 1) L l s := by
  rw [opOf_eq, Array.getElem?_toList] at hi
  simp only [mayX, Bool.and_eq_true] at hm
  obtain ⟨⟨h1, h2⟩, h3⟩ := hm
  exact fun w hok => wpAny_take hi h1 h2 h3 (fun c a w hh => by obtain ⟨l, s, _, hq, _⟩ := hh; exact absurd hq (hQ c l s)) (.inr ⟨hw, rfl⟩) (by rw [put_eq]; exact h w hok)
/-- An operation that looks at no memory. -/
theorem HX_readP {L : Array Bool} {n : Nat} (i : Nat) {oi : Oper} {v : Value} (hi : opOf ops.toList i = some oi) (hm : mayX ops i L = true) (hQ : ∀ c l s, ¬ Q (.panic c) l s) (hw : wantL ops oi l = true)
    (hy : ∀ s', ∀ K : List Value → St → Prop, K (putL l oi.dst v) s' → HO P true oi l s' K) (hd : oi.dst.isSome = true) (hlen : Nat.ble (oi.dst.getD 0 + 1) l.length = true)
    (h : HX P w0 o0 ops Q n (L.setIfInBounds i true) (putL l oi.dst v) s) : HX P w0 o0 ops Q (n + 1) L l s := by
  rw [opOf_eq, Array.getElem?_toList] at hi
  simp only [mayX, Bool.and_eq_true] at hm
  obtain ⟨⟨h1, h2⟩, h3⟩ := hm
  have hlen := Nat.le_of_ble_eq_true hlen
  have key : ∀ w, (execOp (mkA l).eval oi).run P w = .ok (.value v) w := fun w => by
    let s' : St := ⟨fun _ => none, fun _ => none, fun _ => none, fun _ => none⟩
    have ho : Ok w s'.dom w s' := ⟨fun _ _ h => (by cases h), fun _ _ h => (by cases h), fun _ _ h => (by cases h), fun _ _ h => (by cases h), fun _ _ _ h => (by cases h), fun _ h => (by cases h), rfl, rfl, rfl, Nat.le_refl _, fun _ _ _ => rfl, fun _ h => .inl h⟩
    rw [ev_eq]
    obtain ⟨x, w', s'', h1, h2, _, h4⟩ := GOk.sound _ w s' ho (hy s' (fun l' _ => l' = putL l oi.dst v) rfl)
    rw [h4 rfl] at h1
    rw [h1]
    cases x with
    | value u =>
      have h2 : putL l oi.dst u = putL l oi.dst v := h2
      obtain ⟨d, hd⟩ := Option.isSome_iff_exists.1 hd
      rw [hd] at h2 hlen
      simp only [putL, setL_eq, Option.getD_some] at h2 hlen
      have := congrArg (fun l => l[d]?) h2
      simp only [List.getElem?_set_self (show d < l.length from hlen), Option.some.injEq] at this
      rw [this]
    | _ => exact absurd h2 (by simp [afterOp])
  exact fun w hok => wpAny_take hi h1 h2 h3 (fun c a w hh => by obtain ⟨l, s, _, hq, _⟩ := hh; exact absurd hq (hQ c l s)) (.inl ⟨hw, fun w => key w⟩) (by rw [put_eq]; exact h w hok)
end
end Go.Proofs.GL
