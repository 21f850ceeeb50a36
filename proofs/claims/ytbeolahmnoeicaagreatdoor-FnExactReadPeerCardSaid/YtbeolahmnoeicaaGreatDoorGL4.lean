/- A logic of what is known of memory, over the kit's weakest preconditions: one part. No conditions: lemmas. -/
import Derived.Test.YtbeolahmnoeicaaGreatDoorGL3
set_option linter.unusedVariables false
set_option linter.unusedSimpArgs false
namespace Go.Proofs.GL
open Go
def Mono (s s' : St) : Prop := ∀ b i v, s.row b i v → s'.row b i v
structure Keep (D E : Nat → Prop) (s s' : St) : Prop where
 o : ∀ b y, ¬ D b → s.o b = some y → s'.o b = some y
 t : ∀ b y, ¬ E b → s.t b = some y → s'.t b = some y
 x : ∀ b y, s.x b = some y → s'.x b = some y
 g : ∀ b, s'.g b = s.g b
 dom : ∀ b, s.dom b = true → s'.dom b = true
def no (_ : Nat) : Prop := False
structure Chg (D E : Nat → Prop) (s s' : St) : Prop where
 mono : Mono s s'
 keep : Keep D E s s'
abbrev Sub (s s' : St) : Prop := Chg no no s s'
theorem Mono.refl (s : St) : Mono s s := fun _ _ _ h => h
theorem Mono.trans {s t u : St} (h : Mono s t) (k : Mono t u) : Mono s u := fun b i v hb => k b i v (h b i v hb)
theorem Sub.refl (s : St) : Sub s s := ⟨Mono.refl s, ⟨fun _ _ _ h => h, fun _ _ _ h => h, fun _ _ h => h, fun _ => rfl, fun _ h => h⟩⟩
theorem Chg.trans {D E : Nat → Prop} {s t u : St} (h : Chg D E s t) (k : Chg D E t u) : Chg D E s u :=
 ⟨h.mono.trans k.mono, ⟨fun b y hD hb => k.keep.o b y hD (h.keep.o b y hD hb), fun b y hD hb => k.keep.t b y hD (h.keep.t b y hD hb), fun b y hb => k.keep.x b y (h.keep.x b y hb),
  fun b => (k.keep.g b).trans (h.keep.g b), fun b hb => k.keep.dom b (h.keep.dom b hb)⟩⟩
theorem Chg.weak {D E D' E' : Nat → Prop} {s t : St} (h : Chg D E s t) (hD : ∀ b, D b → D' b) (hE : ∀ b, E b → E' b) : Chg D' E' s t :=
 ⟨h.mono, ⟨fun b y hn => h.keep.o b y (fun hb => hn (hD b hb)), fun b y hn => h.keep.t b y (fun hb => hn (hE b hb)), h.keep.x, h.keep.g, h.keep.dom⟩⟩
theorem Sub.chg {D E : Nat → Prop} {s s' : St} (h : Sub s s') : Chg D E s s' := h.weak (fun _ f => f.elim) (fun _ f => f.elim)
theorem row_setO_new {s : St} {b : Nat} (hf : s.fresh b) (y : Own) : Mono s (s.setO b y) := by
 rintro k i v (⟨cs, h1, h2⟩ | ⟨z, h1, h2⟩)
 ·exact .inl ⟨cs, h1, h2⟩
 ·refine .inr ⟨z, ?_, h2⟩
  by_cases e : k = b
  ·subst e; rw [hf.2.1] at h1; cases h1
  ·simpa [St.setO, e] using h1
theorem dom_setO (s : St) (b : Nat) (y : Own) {k : Nat} (h : s.dom k = true) : (s.setO b y).dom k = true := by
 by_cases e : k = b
 ·subst e; simp [St.dom, St.setO]
 ·simpa [St.dom, St.setO, e] using h
theorem dom_setT (s : St) (b : Nat) (y : List Value × TypeId) {k : Nat} (h : s.dom k = true) : (s.setT b y).dom k = true := by
 by_cases e : k = b
 ·subst e; simp [St.dom, St.setT]
 ·simpa [St.dom, St.setT, e] using h
theorem Sub.setO {s : St} {b : Nat} (hf : s.fresh b) (y : Own) : Sub s (s.setO b y) := by
 refine ⟨row_setO_new hf y, ⟨fun k z _ hk => ?_, fun k z _ hk => hk, fun k z hk => hk, fun _ => rfl, fun k hk => dom_setO s b y hk⟩⟩
 by_cases e : k = b
 ·subst e; rw [hf.2.1] at hk; cases hk
 ·simpa [St.setO, e] using hk
theorem Sub.setT {s : St} {b : Nat} (hf : s.fresh b) (y : List Value × TypeId) : Sub s (s.setT b y) := by
 refine ⟨fun k i v h => h, ⟨fun k z _ hk => hk, fun k z _ hk => ?_, fun k z hk => hk, fun _ => rfl, fun k hk => dom_setT s b y hk⟩⟩
 by_cases e : k = b
 ·subst e; rw [hf.2.2.1] at hk; cases hk
 ·simpa [St.setT, e] using hk
theorem fresh_dom {s : St} {b : Nat} (hf : s.fresh b) : s.dom b = false := by simp [St.dom, hf.2.1, hf.2.2.1, hf.2.2.2]
structure Kd (α : Type) where
 sz : Nat
 rep : St → List Value → α → Prop
 len : ∀ {s cs x}, rep s cs x → cs.length = sz
 one : ∀ {s cs x}, rep s cs x → ∀ v ∈ cs, isCell v = true
 mono : ∀ {s s' cs x}, Mono s s' → rep s cs x → rep s' cs x
def Kd.scalar {α : Type} (enc : α → Value) (h1 : ∀ x, isCell (enc x) = true) : Kd α where
 sz := 1
 rep := fun _ cs x => cs = [enc x]
 len := fun h => by rw [h]; rfl
 one := fun h v hv => by
  rw [h] at hv
  rw [List.mem_singleton.1 hv]
  exact h1 _
 mono := fun _ h => h
def Kd.int (k : IntKind) : Kd Int := Kd.scalar (Value.int k) (fun _ => rfl)
def Kd.bool : Kd Bool := Kd.scalar Value.bool (fun _ => rfl)
def Kd.str : Kd ByteArray := Kd.scalar Value.string (fun _ => rfl)
def maxN : Nat := 9223372036854775807
section
variable {α : Type}
def Rd (K : Kd α) (s : St) (A : Option Addr) (c : Nat) (xs : List α) : Prop :=
 xs.length ≤ c ∧ c ≤ maxN ∧ (xs ≠ [] → ∃ b o, A = some ⟨b, o, none⟩ ∧ ∀ i x, xs[i]? = some x → ∃ cs, K.rep s cs x ∧ ∀ j v, cs[j]? = some v → s.row b (o + i * K.sz + j) v)
theorem Rd.mono {K : Kd α} {s s' : St} {A c xs} (h : Rd K s A c xs) (hm : Mono s s') : Rd K s' A c xs :=
 ⟨h.1, h.2.1, fun hn => by
  obtain ⟨b, o, hA, hc⟩ := h.2.2 hn
  refine ⟨b, o, hA, fun i x hx => ?_⟩
  obtain ⟨cs, h1, h2⟩ := hc i x hx
  exact ⟨cs, K.mono hm h1, fun j v hj => hm _ _ _ (h2 j v hj)⟩⟩
theorem Rd.nil (K : Kd α) (s : St) : Rd K s none 0 [] := ⟨Nat.le_refl _, Nat.zero_le _, fun h => absurd rfl h⟩
theorem Rd.at {K : Kd α} {s : St} {A c xs} (h : Rd K s A c xs) (i : Nat) (hi : i < xs.length) : ∃ ad cs, A = some ad ∧ K.rep s cs xs[i] ∧ ∀ j v, cs[j]? = some v → s.has ((ad.add (i * K.sz)).add j) v := by
 obtain ⟨b, o, hA, hc⟩ := h.2.2 (by intro e; subst e; simp at hi)
 obtain ⟨cs, h1, h2⟩ := hc i xs[i] (List.getElem?_eq_getElem hi)
 refine ⟨_, cs, hA, h1, fun j v hj => ?_⟩
 have ha : ((⟨b, o, none⟩ : Addr).add (i * K.sz)).add j = ⟨b, o + i * K.sz + j, none⟩ := by
  unfold Addr.add
  by_cases e1 : i * K.sz = 0 <;> by_cases e2 : j = 0 <;> simp_all
 rw [ha]
 exact ⟨rfl, .inl (h2 j v hj)⟩
def Own.is (K : Kd α) (e : TypeId) (s : St) (A : Option Addr) (c : Nat) (xs : List α) : Prop :=
 (c = 0 ∧ xs = []) ∨ ∃ b cs, A = some ⟨b, 0, none⟩ ∧ s.o b = some ⟨cs, c * K.sz, e⟩ ∧ s.g b = none ∧ cs.length = xs.length * K.sz ∧ xs.length ≤ c ∧ c ≤ maxN ∧ ∀ i x, xs[i]? = some x → K.rep s ((cs.drop (i * K.sz)).take K.sz) x
theorem Own.nil (K : Kd α) (e : TypeId) (s : St) : Own.is K e s none 0 [] := .inl ⟨rfl, rfl⟩
theorem getElem?_drop_take {β : Type} {l : List β} {a n j : Nat} {v : β} (h : ((l.drop a).take n)[j]? = some v) : l[a + j]? = some v := by
 rw [List.getElem?_take] at h
 split at h
 ·rwa [List.getElem?_drop] at h
 ·cases h
theorem Own.is.rd {K : Kd α} {e : TypeId} {s : St} {A c xs} (h : Own.is K e s A c xs) : Rd K s A c xs := by
 rcases h with ⟨rfl, rfl⟩ | ⟨b, cs, rfl, ho, hg, hl, hc, hm, hr⟩
 ·exact ⟨Nat.le_refl _, Nat.zero_le _, fun h => absurd rfl h⟩
 ·refine ⟨hc, hm, fun _ => ⟨b, 0, rfl, fun i x hx => ⟨_, hr i x hx, fun j v hj => .inr ⟨_, ho, ?_⟩⟩⟩⟩
  have := getElem?_drop_take hj
  simpa using this
def inA (A : Option Addr) (b : Nat) : Prop := ∃ o, A = some ⟨b, o, none⟩
def eff (A : Option Addr) (c : Nat) : Option Addr := if c = 0 then Option.none else A
theorem effS {A : Option Addr} {c : Nat} (h : c ≠ 0) : eff A c = A := if_neg h
def Apart (A B : Option Addr) : Prop := ∀ b, inA A b → ¬ inA B b
def NewA (s : St) (A : Option Addr) : Prop := ∀ b, inA A b → s.dom b = false ∧ s.g b = Option.none
theorem Own.is.dom {K : Kd α} {e : TypeId} {s : St} {A c xs} (h : Own.is K e s A c xs) {b : Nat} (hb : inA (eff A c) b) : s.dom b = true := by
 obtain ⟨o, hb⟩ := hb
 by_cases hc0 : c = 0
 ·subst hc0; cases hb
 rw [effS hc0] at hb
 rcases h with ⟨h, _⟩ | ⟨b', cs, rfl, ho, _⟩
 ·exact absurd h hc0
 ·injection hb with hb
  injection hb with h1 _ _
  subst h1
  simp [St.dom, ho]
theorem Own.is.chg {K : Kd α} {e : TypeId} {s s' : St} {A c xs} {D E : Nat → Prop} (h : Own.is K e s A c xs) (hc : Chg D E s s') (hD : ∀ b, inA (eff A c) b → ¬ D b) : Own.is K e s' A c xs := by
 rcases h with ⟨rfl, rfl⟩ | ⟨b, cs, rfl, ho, hg, hl, hcc, hm, hr⟩
 ·exact .inl ⟨rfl, rfl⟩
 ·by_cases hc0 : c = 0
  ·subst hc0
   exact .inl ⟨rfl, List.eq_nil_of_length_eq_zero (by omega)⟩
  have hb : inA (eff (some ⟨b, 0, none⟩) c) b := ⟨0, effS hc0⟩
  exact .inr ⟨b, cs, rfl, hc.keep.o b _ (hD b hb) ho, (hc.keep.g b).trans hg, hl, hcc, hm, fun i x hx => K.mono hc.mono (hr i x hx)⟩
theorem Own.is.sub {K : Kd α} {e : TypeId} {s s' : St} {A c xs} {E : Nat → Prop} (h : Own.is K e s A c xs) (hs : Chg no E s s') : Own.is K e s' A c xs := h.chg hs (fun _ _ f => f)
theorem Own.is.apart {K : Kd α} {e : TypeId} {s : St} {A c xs B} (h : Own.is K e s A c xs) (hn : NewA s B) : Apart (eff A c) B := fun b hb hb' => by
 have h1 := h.dom hb
 rw [(hn b hb').1] at h1
 cases h1
theorem Apart.symm {A B : Option Addr} (h : Apart A B) : Apart B A := fun b hb hb' => h b hb' hb
theorem Apart.none (A : Option Addr) : Apart A Option.none := fun b _ h => by obtain ⟨o, h⟩ := h; cases h
variable {P : Program} {ro : Bool}
theorem GOk_askRoom {n : Nat} {s : St} {KU : Unit → St → Prop} (h : KU () s) : GOk P ro (askRoom n) s KU := by
 unfold askRoom
 split <;> exact h
theorem Rd.cells {K : Kd α} {s : St} {A c xs} (h : Rd K s A c xs) : ∃ cs : List Value, cs.length = xs.length * K.sz ∧ (∀ v ∈ cs, isCell v = true) ∧ (∀ i x, xs[i]? = some x → K.rep s ((cs.drop (i * K.sz)).take K.sz) x) ∧ (xs ≠ [] → ∃ b o, A = some ⟨b, o, none⟩ ∧ ∀ j v, cs[j]? = some v → s.has ((⟨b, o, none⟩ : Addr).add j) v) := by
 by_cases hn : xs = []
 ·subst hn
  exact ⟨[], by simp, by simp, by simp, fun h => absurd rfl h⟩
 obtain ⟨b, o, hA, hc⟩ := h.2.2 hn
 clear h
 have key : ∀ (ys : List α) (k : Nat), (∀ i x, ys[i]? = some x → ∃ cs, K.rep s cs x ∧ ∀ j v, cs[j]? = some v → s.row b (o + (k + i) * K.sz + j) v) →
   ∃ cs : List Value, cs.length = ys.length * K.sz ∧ (∀ v ∈ cs, isCell v = true) ∧ (∀ i x, ys[i]? = some x → K.rep s ((cs.drop (i * K.sz)).take K.sz) x) ∧ ∀ j v, cs[j]? = some v → s.row b (o + k * K.sz + j) v := by
  intro ys
  induction ys with
  | nil => intro k _; exact ⟨[], by simp, by simp, by simp, by simp⟩
  | cons y ys ih =>
   intro k hh
   obtain ⟨c1, r1, f1⟩ := hh 0 y rfl
   obtain ⟨c2, l2, o2, r2, f2⟩ := ih (k + 1) (fun i x hx => by
    obtain ⟨cs, a1, a2⟩ := hh (i + 1) x (by simpa using hx)
    exact ⟨cs, a1, fun j v hj => by have := a2 j v hj; rwa [show k + (i + 1) = k + 1 + i by omega] at this⟩)
   have l1 := K.len r1
   refine ⟨c1 ++ c2, by simp [l1, l2, Nat.add_mul]; omega, ?_, ?_, ?_⟩
   ·intro v hv
    rcases List.mem_append.1 hv with hv | hv
    ·exact K.one r1 v hv
    ·exact o2 v hv
   ·intro i x hx
    cases i with
    | zero =>
     have : y = x := by simpa using hx
     subst this
     simpa [← l1] using r1
    | succ i =>
     have e : (i + 1) * K.sz = c1.length + i * K.sz := by rw [l1, Nat.add_mul]; omega
     rw [e, List.drop_append, List.drop_eq_nil_of_le (by omega), List.nil_append, Nat.add_sub_cancel_left]
     exact r2 i x (by simpa using hx)
   ·intro j v hj
    by_cases hjl : j < c1.length
    ·rw [List.getElem?_append_left hjl] at hj
     have := f1 j v hj
     simpa using this
    ·rw [List.getElem?_append_right (by omega)] at hj
     have := f2 _ v hj
     have e : o + (k + 1) * K.sz + (j - c1.length) = o + k * K.sz + j := by
      rw [l1] at hjl ⊢
      rw [Nat.add_mul]
      omega
     rwa [e] at this
 obtain ⟨cs, h1, h2, h3, h4⟩ := key xs 0 (fun i x hx => by simpa using hc i x hx)
 refine ⟨cs, h1, h2, h3, fun _ => ⟨b, o, hA, fun j v hj => ?_⟩⟩
 have ha : (⟨b, o, none⟩ : Addr).add j = ⟨b, o + j, none⟩ := by unfold Addr.add; split <;> simp_all
 rw [ha]
 exact ⟨rfl, .inl (by simpa using h4 j v hj)⟩
theorem Mono.setO {s : St} {b : Nat} {y z : Own} (hb : s.o b = some y) (hp : y.cs <+: z.cs) : Mono s (s.setO b z) := by
 rintro k i v (⟨cs, h1, h2⟩ | ⟨u, h1, h2⟩)
 ·exact .inl ⟨cs, h1, h2⟩
 ·by_cases e : k = b
  ·subst e
   rw [hb] at h1
   injection h1 with h1
   subst h1
   exact .inr ⟨z, by simp [St.setO], prefix_getElem? hp h2⟩
  ·exact .inr ⟨u, by simpa [St.setO, e] using h1, h2⟩
theorem Keep.setO (s : St) (b : Nat) (z : Own) : Keep (fun k => k = b) no s (s.setO b z) :=
 ⟨fun k y hk h => by simpa [St.setO, show ¬ k = b from hk] using h, fun _ _ _ h => h, fun _ _ h => h, fun _ => rfl, fun k hk => dom_setO s b z hk⟩
theorem NewA.eff {s : St} {A : Option Addr} (h : NewA s A) (c : Nat) : NewA s (eff A c) := fun b hb => by
 obtain ⟨o, hb⟩ := hb
 unfold GL.eff at hb
 split at hb
 ·cases hb
 ·exact h b ⟨o, hb⟩
theorem NewA.none (s : St) : NewA s Option.none := fun b h => by obtain ⟨o, h⟩ := h; cases h
theorem NewA.of {D E : Nat → Prop} {s0 s : St} {A} (h : NewA s A) (hs : Chg D E s0 s) : NewA s0 A := fun b hb => by
 refine ⟨?_, (hs.keep.g b).symm.trans (h b hb).2⟩
 cases e : s0.dom b with
 | false => rfl
 | true => have := hs.keep.dom b e; rw [(h b hb).1] at this; cases this
theorem NewA.step {D E : Nat → Prop} {s0 s : St} {A A'} (h : A' = A ∨ NewA s A') (hA : NewA s0 A) (hs : Chg D E s0 s) : NewA s0 A' := by
 rcases h with rfl | h
 ·exact hA
 ·exact h.of hs
theorem Chg.app {D E : Nat → Prop} {s0 s s' : St} {A} (hs : Chg D E s0 s) (hc : Chg (inA A) no s s') (hA : NewA s0 A) : Chg D E s0 s' :=
 ⟨hs.mono.trans hc.mono, ⟨fun b y hD hb => hc.keep.o b y (fun h => by have := (hA b h).1; simp [St.dom, hb] at this) (hs.keep.o b y hD hb), fun b y hE hb => hc.keep.t b y (fun f => f) (hs.keep.t b y hE hb), fun b y hb => hc.keep.x b y (hs.keep.x b y hb),
  fun b => (hc.keep.g b).trans (hs.keep.g b), fun b hb => hc.keep.dom b (hs.keep.dom b hb)⟩⟩
theorem Apart.step {K : Kd α} {e : TypeId} {s : St} {A B B' c xs} (h : Apart (eff A c) B) (hB : B' = B ∨ NewA s B') (ho : Own.is K e s A c xs) : Apart (eff A c) B' := by
 rcases hB with rfl | hB
 ·exact h
 ·exact ho.apart hB
structure Var (s0 s : St) (b : Nat) (cs : List Value) (T : TypeId) : Prop where
 t : s.t b = some (cs, T)
 g : s.g b = none
 new : s0.dom b = false
theorem Var.dom {s0 s b cs T} (h : Var s0 s b cs T) : s.dom b = true := by simp [St.dom, h.t]
theorem Var.keep {D E : Nat → Prop} {s0 s s' : St} {b cs T} (h : Var s0 s b cs T) (hc : Chg D E s s') (hE : ¬ E b) : Var s0 s' b cs T := ⟨hc.keep.t b _ hE h.t, (hc.keep.g b).trans h.g, h.new⟩
theorem Var.sub {D : Nat → Prop} {s0 s s' : St} {b cs T} (h : Var s0 s b cs T) (hc : Chg D no s s') : Var s0 s' b cs T := h.keep hc (fun f => f)
theorem Var.set {s0 s : St} {b cs T} (h : Var s0 s b cs T) (cs' : List Value) : Var s0 (s.setT b (cs', T)) b cs' T := ⟨by simp [St.setT], h.g, h.new⟩
theorem Var.other {s0 s : St} {b b' cs T y} (h : Var s0 s b cs T) (hne : b ≠ b') : Var s0 (s.setT b' y) b cs T := ⟨by simpa [St.setT, hne] using h.t, h.g, h.new⟩
theorem Var.has {s0 s : St} {b cs T} (h : Var s0 s b cs T) {i : Nat} {v : Value} (hv : cs[i]? = some v) : s.has ⟨b, i, none⟩ v := ⟨rfl, .inr ⟨_, h.t, hv⟩⟩
theorem Chg.store {D E : Nat → Prop} {s0 s : St} {b cs T} (hs : Chg D E s0 s) (h : Var s0 s b cs T) (y : List Value × TypeId) : Chg D E s0 (s.setT b y) :=
 ⟨fun k i v hk => hs.mono k i v hk, ⟨fun k z hD hk => hs.keep.o k z hD hk, fun k z hE hk => by
   have : k ≠ b := by
    rintro rfl
    have := h.new
    simp [St.dom, hk] at this
   simpa [St.setT, this] using hs.keep.t k z hE hk, fun k z hk => hs.keep.x k z hk, fun k => hs.keep.g k, fun k hk => dom_setT s b y (hs.keep.dom k hk)⟩⟩
theorem Own.is.setT {K : Kd α} {e : TypeId} {s : St} {A c xs} (h : Own.is K e s A c xs) (b : Nat) (y : List Value × TypeId) : Own.is K e (s.setT b y) A c xs := by
 rcases h with h | ⟨b', cs, h1, h2, h3, h4, h5, h6, h7⟩
 ·exact .inl h
 ·exact .inr ⟨b', cs, h1, h2, h3, h4, h5, h6, fun i x hx => K.mono (show Mono s (s.setT b y) from fun _ _ _ h => h) (h7 i x hx)⟩
theorem Rd.setT {K : Kd α} {s : St} {A c xs} (h : Rd K s A c xs) (b : Nat) (y : List Value × TypeId) : Rd K (s.setT b y) A c xs := h.mono (show Mono s (s.setT b y) from fun _ _ _ h => h)
theorem Var.app {s0 s s' : St} {b cs T A} (h : Var s0 s b cs T) (hc : Chg (inA A) no s s') : Var s0 s' b cs T := h.sub hc
end
end Go.Proofs.GL

