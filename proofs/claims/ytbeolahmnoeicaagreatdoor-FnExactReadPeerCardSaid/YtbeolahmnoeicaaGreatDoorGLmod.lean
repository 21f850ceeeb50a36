/- A logic of what is known of memory, over the kit's weakest preconditions: one part. No conditions: lemmas. -/
import Derived.Below
import Derived.WalkKit
import Derived.KernelRfl
import Derived.Deep.LoopGhost
import Derived.OrdersHeld
set_option linter.unusedVariables false
set_option linter.unusedSimpArgs false
namespace Go.Proofs.GL
open Go
structure Own where
 cs : List Value
 room : Nat
 e : TypeId
structure St where
 g : Nat → Option (List Value)
 o : Nat → Option Own
 t : Nat → Option (List Value × TypeId)
 x : Nat → Option Obj
def isCell : Value → Bool
 | .agg _ | .tuple _ => false
 | _ => true
def notCells : Obj → Bool
 | .cells .. => false
 | _ => true
def St.setO (s : St) (b : Nat) (y : Own) : St := { s with o := fun k => if k = b then some y else s.o k }
def St.setT (s : St) (b : Nat) (y : List Value × TypeId) : St := { s with t := fun k => if k = b then some y else s.t k }
def St.setX (s : St) (b : Nat) (y : Obj) : St := { s with x := fun k => if k = b then some y else s.x k }
def St.dom (s : St) (b : Nat) : Bool := (s.o b).isSome || (s.t b).isSome || (s.x b).isSome
def St.row (s : St) (b i : Nat) (v : Value) : Prop := (∃ cs, s.g b = some cs ∧ cs[i]? = some v) ∨ (∃ y, s.o b = some y ∧ y.cs[i]? = some v)
def St.has (s : St) (a : Addr) (v : Value) : Prop := a.spot = none ∧ (s.row a.block a.off v ∨ ∃ y, s.t a.block = some y ∧ y.1[a.off]? = some v)
def St.shared (s : St) (b : Nat) : Nat := match s.g b with | some cs => cs.length | none => 0
def St.putO (s : St) (b off : Nat) (v : Value) : Option St :=
 match s.o b with
 | none => none
 | some y =>
  if s.shared b ≤ off then
   if off < y.cs.length then some (s.setO b { y with cs := y.cs.set off v })
   else if off = y.cs.length ∧ off < y.room then some (s.setO b { y with cs := y.cs ++ [v] })
   else none
  else none
def St.putT (s : St) (b off : Nat) (v : Value) : Option St :=
 match s.t b with
 | none => none
 | some y => if off < y.1.length ∧ s.g b = none then some (s.setT b (y.1.set off v, y.2)) else none
def St.puts (s : St) (a : Addr) (v : Value) (s' : St) : Prop := a.spot = none ∧ (s.putO a.block a.off v = some s' ∨ s.putT a.block a.off v = some s')
def St.fresh (s : St) (b : Nat) : Prop := s.g b = none ∧ s.o b = none ∧ s.t b = none ∧ s.x b = none
def St.alloc (s : St) (b : Nat) : Obj → St
 | .cells c e (0, 0) => s.setO b ⟨c.toList, c.size, e⟩
 | .cells _ _ _ => s
 | o => s.setX b o
def St.allocAs (s : St) (m : Option Nat) (b : Nat) (o : Obj) : St :=
 match m, o with
 | none, .cells c e (0, 0) => s.setT b (c.toList, e)
 | some n, .cells c e (0, 0) => s.setO b ⟨c.toList.take n, c.size, e⟩
 | _, o => s.alloc b o
def St.asVar (s : St) (b : Nat) (y : List Value × TypeId) : St := { s with o := fun k => if k = b then none else s.o k, t := fun k => if k = b then some y else s.t k }
structure Ok (w0 : World) (o0 : Nat → Bool) (w : World) (s : St) : Prop where
 g : ∀ b cs, s.g b = some cs → ∃ c t fr, w.heap[b]? = some (.cells c t fr) ∧ cs <+: c.toList
 o : ∀ b y, s.o b = some y → ∃ c, w.heap[b]? = some (.cells c y.e (0, 0)) ∧ c.size = y.room ∧ y.cs <+: c.toList
 t : ∀ b y, s.t b = some y → w.heap[b]? = some (.cells y.1.toArray y.2 (0, 0))
 x : ∀ b y, s.x b = some y → w.heap[b]? = some y ∧ notCells y = true
 go : ∀ b cs y, s.g b = some cs → s.o b = some y → cs <+: y.cs
 ot : ∀ b, (s.o b).isSome = true → s.t b = none
 os : w.os = w0.os
 tape : w.tape = w0.tape
 output : w.output = w0.output
 size : w0.heap.size ≤ w.heap.size
 blk : ∀ b, b < w0.heap.size → o0 b = false → w.heap[b]? = w0.heap[b]?
 dom : ∀ b, s.dom b = true → o0 b = true ∨ w0.heap.size ≤ b
theorem Ok.lt_g {w0 o0 w s b cs} (h : Ok w0 o0 w s) (hg : s.g b = some cs) : b < w.heap.size := by
 obtain ⟨c, t, fr, hh, _⟩ := h.g b cs hg
 exact (Array.getElem?_eq_some_iff.1 hh).1
theorem Ok.lt_o {w0 o0 w s b y} (h : Ok w0 o0 w s) (hg : s.o b = some y) : b < w.heap.size := by
 obtain ⟨c, hh, _⟩ := h.o b y hg
 exact (Array.getElem?_eq_some_iff.1 hh).1
theorem Ok.lt_t {w0 o0 w s b y} (h : Ok w0 o0 w s) (hg : s.t b = some y) : b < w.heap.size :=
 (Array.getElem?_eq_some_iff.1 (h.t b y hg)).1
theorem Ok.lt_x {w0 o0 w s b y} (h : Ok w0 o0 w s) (hg : s.x b = some y) : b < w.heap.size :=
 (Array.getElem?_eq_some_iff.1 (h.x b y hg).1).1
theorem Ok.fresh {w0 o0 w s} (h : Ok w0 o0 w s) : s.fresh w.heap.size := by
 refine ⟨?_, ?_, ?_, ?_⟩
 ·cases e : s.g w.heap.size with
  | none => rfl
  | some cs => exact absurd (h.lt_g e) (Nat.lt_irrefl _)
 ·cases e : s.o w.heap.size with
  | none => rfl
  | some cs => exact absurd (h.lt_o e) (Nat.lt_irrefl _)
 ·cases e : s.t w.heap.size with
  | none => rfl
  | some cs => exact absurd (h.lt_t e) (Nat.lt_irrefl _)
 ·cases e : s.x w.heap.size with
  | none => rfl
  | some cs => exact absurd (h.lt_x e) (Nat.lt_irrefl _)
theorem prefix_getElem? {α : Type} {xs ys : List α} (h : xs <+: ys) {i : Nat} {v : α} (hi : xs[i]? = some v) : ys[i]? = some v := by
 obtain ⟨t, rfl⟩ := h
 rw [List.getElem?_append_left (List.getElem?_eq_some_iff.1 hi).1]
 exact hi
theorem Ok.has {w0 o0 w s a v} (h : Ok w0 o0 w s) (hc : s.has a v) : w.cell? a = some v := by
 obtain ⟨hsp, hc⟩ := hc
 unfold World.cell?
 rcases hc with (⟨cs, h1, h2⟩ | ⟨y, h1, h2⟩) | ⟨y, h1, h2⟩
 ·obtain ⟨c, t, fr, hh, hp⟩ := h.g _ _ h1
  rw [hh]
  simp only [hsp]
  simpa using prefix_getElem? hp h2
 ·obtain ⟨c, hh, _, hp⟩ := h.o _ _ h1
  rw [hh]
  simp only [hsp]
  simpa using prefix_getElem? hp h2
 ·rw [h.t _ _ h1]
  simp only [hsp]
  simpa using h2
theorem setCell_heap (w : World) (b off : Nat) (v : Value) (k : Nat) : (w.setCell ⟨b, off, none⟩ v).heap[k]? = if k = b then (w.heap[b]?).map (fun | .cells c e fr => .cells (c.setIfInBounds off v) e fr | o => o) else w.heap[k]? := by
 unfold World.setCell
 simp only [Array.getElem?_modify]
 by_cases h : k = b
 ·subst h; simp; rfl
 ·have : ¬ b = k := fun e => h e.symm
  simp [h, this]
theorem prefix_set {α : Type} {xs ys : List α} (h : xs <+: ys) (i : Nat) (v : α) (hi : i < xs.length) : xs.set i v <+: ys.set i v := by
 obtain ⟨t, rfl⟩ := h
 rw [List.set_append_left _ _ hi]
 exact ⟨t, rfl⟩
theorem prefix_snoc {α : Type} {xs ys : List α} (h : xs <+: ys) (v : α) (hi : xs.length < ys.length) : xs ++ [v] <+: ys.set xs.length v := by
 obtain ⟨t, rfl⟩ := h
 cases t with
 | nil => simp at hi
 | cons u t =>
  refine ⟨t, ?_⟩
  simp [List.set_append_right]
theorem prefix_keep {α : Type} {xs ys : List α} (h : xs <+: ys) (i : Nat) (v : α) (hi : xs.length ≤ i) : xs <+: ys.set i v := by
 obtain ⟨t, rfl⟩ := h
 rw [List.set_append_right _ _ hi]
 exact ⟨_, rfl⟩
theorem Ok.putO {w0 o0 w s s' b off v} (h : Ok w0 o0 w s) (hp : s.putO b off v = some s') : (w.cell? ⟨b, off, none⟩).isSome = true ∧ w.frozen? ⟨b, off, none⟩ = false ∧ Ok w0 o0 (w.setCell ⟨b, off, none⟩ v) s' := by
 unfold St.putO at hp
 cases e : s.o b with
 | none => rw [e] at hp; cases hp
 | some y =>
  rw [e] at hp
  dsimp only at hp
  obtain ⟨c, hh, hsz, hpre⟩ := h.o _ _ e
  have hlen : y.cs.length ≤ c.toList.length := hpre.length_le
  split at hp
  case isFalse => cases hp
  rename_i hsh
  have key : ∀ y' : Own, y'.e = y.e → y'.room = y.room → y'.cs <+: c.toList.set off v → (∀ cs, s.g b = some cs → cs <+: y'.cs) → off < c.size → s' = s.setO b y' →
    (w.cell? ⟨b, off, none⟩).isSome = true ∧ w.frozen? ⟨b, off, none⟩ = false ∧ Ok w0 o0 (w.setCell ⟨b, off, none⟩ v) s' := by
   intro y' he hr hpre' hgo hlt hs'
   subst hs'
   have hset : ∀ k, (w.setCell ⟨b, off, none⟩ v).heap[k]? = if k = b then some (.cells (c.setIfInBounds off v) y.e (0, 0)) else w.heap[k]? := fun k => by
    rw [setCell_heap, hh]; rfl
   refine ⟨by simp [World.cell?, hh, hlt], by simp [World.frozen?, hh], ?_⟩
   refine ⟨?_, ?_, ?_, ?_, ?_, ?_, h.os, h.tape, h.output, ?_, ?_, ?_⟩
   ·intro k cs hk
    by_cases hkb : k = b
    ·subst hkb
     refine ⟨c.setIfInBounds off v, y.e, (0, 0), by rw [hset]; simp, ?_⟩
     obtain ⟨c', t', fr', hh', hp'⟩ := h.g _ _ hk
     rw [hh] at hh'
     injection hh' with hh'
     injection hh' with h1 h2 h3
     subst h1
     have : s.shared k = cs.length := by simp [St.shared, show s.g k = some cs from hk]
     rw [Array.toList_setIfInBounds]
     exact prefix_keep hp' off v (by omega)
    ·obtain ⟨c', t', fr', hh', hp'⟩ := h.g _ _ hk
     exact ⟨c', t', fr', by rw [hset, if_neg hkb]; exact hh', hp'⟩
   ·intro k z hk
    by_cases hkb : k = b
    ·subst hkb
     simp [St.setO] at hk
     subst hk
     refine ⟨c.setIfInBounds off v, by rw [hset]; simp [he], by simp [hsz, hr], ?_⟩
     rw [Array.toList_setIfInBounds]
     exact hpre'
    ·have hk' : s.o k = some z := by simpa [St.setO, hkb] using hk
     obtain ⟨c', hh', hz⟩ := h.o _ _ hk'
     exact ⟨c', by rw [hset, if_neg hkb]; exact hh', hz⟩
   ·intro k z hk
    have := h.t k z hk
    have hkb : k ≠ b := by
     rintro rfl
     exact absurd (h.ot k (by rw [e]; rfl)) (by rw [show s.t k = some z from hk]; simp)
    rw [hset, if_neg hkb]
    exact this
   ·intro k z hk
    have := h.x k z hk
    have hkb : k ≠ b := by
     rintro rfl
     rw [hh] at this
     obtain ⟨h1, h2⟩ := this
     injection h1 with h1
     subst h1
     simp [notCells] at h2
    rw [hset, if_neg hkb]
    exact this
   ·intro k cs z hk hz
    by_cases hkb : k = b
    ·subst hkb
     simp [St.setO] at hz
     subst hz
     exact hgo cs hk
    ·have hz' : s.o k = some z := by simpa [St.setO, hkb] using hz
     exact h.go k cs z hk hz'
   ·intro k hk
    by_cases hkb : k = b
    ·subst hkb; exact h.ot k (by rw [e]; rfl)
    ·exact h.ot k (by simpa [St.setO, hkb] using hk)
   ·have : (w.setCell ⟨b, off, none⟩ v).heap.size = w.heap.size := by simp [World.setCell]
    rw [this]; exact h.size
   ·intro k hk ho
    have hkb : k ≠ b := by
     rintro rfl
     rcases h.dom k (by simp [St.dom, e]) with h1 | h1
     ·rw [ho] at h1; cases h1
     ·omega
    rw [hset, if_neg hkb]
    exact h.blk k hk ho
   ·intro k hk
    by_cases hkb : k = b
    ·subst hkb
     exact h.dom k (by simp [St.dom, e])
    ·exact h.dom k (by simpa [St.dom, St.setO, hkb] using hk)
  have hgo0 : ∀ cs, s.g b = some cs → cs <+: y.cs ∧ cs.length ≤ off := fun cs hcs => by
   have : s.shared b = cs.length := by simp [St.shared, hcs]
   exact ⟨h.go b cs y hcs e, by omega⟩
  split at hp
  ·rename_i hlt
   injection hp with hp
   exact key { y with cs := y.cs.set off v } rfl rfl (prefix_set hpre off v hlt) (fun cs hcs => prefix_keep (hgo0 cs hcs).1 off v (hgo0 cs hcs).2) (by simp at hlen; omega) hp.symm
  ·split at hp
   ·rename_i hlt hx
    injection hp with hp
    obtain ⟨h1, h2⟩ := hx
    subst h1
    exact key { y with cs := y.cs ++ [v] } rfl rfl (prefix_snoc hpre v (by simp; omega)) (fun cs hcs => (hgo0 cs hcs).1.trans ⟨_, rfl⟩) (by omega) hp.symm
   ·cases hp
theorem Ok.putT {w0 o0 w s s' b off v} (h : Ok w0 o0 w s) (hp : s.putT b off v = some s') : (w.cell? ⟨b, off, none⟩).isSome = true ∧ w.frozen? ⟨b, off, none⟩ = false ∧ Ok w0 o0 (w.setCell ⟨b, off, none⟩ v) s' := by
 unfold St.putT at hp
 cases e : s.t b with
 | none => rw [e] at hp; cases hp
 | some y =>
  rw [e] at hp
  dsimp only at hp
  split at hp
  case isFalse => cases hp
  rename_i hlt
  obtain ⟨hlt, hgn⟩ := hlt
  injection hp with hp
  subst hp
  have hh := h.t _ _ e
  have hset : ∀ k, (w.setCell ⟨b, off, none⟩ v).heap[k]? = if k = b then some (.cells (y.1.set off v).toArray y.2 (0, 0)) else w.heap[k]? := fun k => by
   rw [setCell_heap, hh]; simp
  have hob : s.o b = none := by
   cases e2 : s.o b with
   | none => rfl
   | some z => exact absurd (h.ot b (by rw [e2]; rfl)) (by rw [e]; simp)
  refine ⟨by simp [World.cell?, hh, hlt], by simp [World.frozen?, hh], ?_⟩
  refine ⟨?_, ?_, ?_, ?_, h.go, ?_, h.os, h.tape, h.output, ?_, ?_, ?_⟩
  ·intro k cs hk
   have hkb : k ≠ b := by
    rintro rfl
    rw [show s.g k = some cs from hk] at hgn
    cases hgn
   obtain ⟨c', t', fr', hh', hp'⟩ := h.g _ _ hk
   exact ⟨c', t', fr', by rw [hset, if_neg hkb]; exact hh', hp'⟩
  ·intro k z hk
   have hkb : k ≠ b := by
    rintro rfl
    rw [show s.o k = some z from hk] at hob
    cases hob
   obtain ⟨c', hh', hz⟩ := h.o _ _ hk
   exact ⟨c', by rw [hset, if_neg hkb]; exact hh', hz⟩
  ·intro k z hk
   by_cases hkb : k = b
   ·subst hkb
    simp [St.setT] at hk
    subst hk
    rw [hset]; simp
   ·rw [hset, if_neg hkb]
    exact h.t k z (by simpa [St.setT, hkb] using hk)
  ·intro k z hk
   have := h.x k z hk
   have hkb : k ≠ b := by
    rintro rfl
    rw [hh] at this
    obtain ⟨h1, h2⟩ := this
    injection h1 with h1
    subst h1
    simp [notCells] at h2
   rw [hset, if_neg hkb]
   exact this
  ·intro k hk
   have hkb : k ≠ b := by
    rintro rfl
    rw [show (s.setT k (y.1.set off v, y.2)).o k = none from hob] at hk
    cases hk
   simpa [St.setT, hkb] using h.ot k hk
  ·have : (w.setCell ⟨b, off, none⟩ v).heap.size = w.heap.size := by simp [World.setCell]
   rw [this]; exact h.size
  ·intro k hk ho
   have hkb : k ≠ b := by
    rintro rfl
    rcases h.dom k (by simp [St.dom, e]) with h1 | h1
    ·rw [ho] at h1; cases h1
    ·omega
   rw [hset, if_neg hkb]
   exact h.blk k hk ho
  ·intro k hk
   by_cases hkb : k = b
   ·subst hkb
    exact h.dom k (by simp [St.dom, e])
   ·exact h.dom k (by simpa [St.dom, St.setT, hkb] using hk)
theorem Ok.puts {w0 o0 w s s' a v} (h : Ok w0 o0 w s) (hp : s.puts a v s') : (w.cell? a).isSome = true ∧ w.frozen? a = false ∧ Ok w0 o0 (w.setCell a v) s' := by
 obtain ⟨b, off, spot⟩ := a
 obtain ⟨hsp, hp⟩ := hp
 have : spot = none := hsp
 subst this
 rcases hp with hp | hp
 ·exact h.putO hp
 ·exact h.putT hp
theorem push_heap (w : World) (o : Obj) (k : Nat) : ({ w with heap := w.heap.push o } : World).heap[k]? = if k = w.heap.size then some o else w.heap[k]? := by
 simp [Array.getElem?_push]
theorem Ok.alloc {w0 o0 w s} (h : Ok w0 o0 w s) (o : Obj) : Ok w0 o0 { w with heap := w.heap.push o } (s.alloc w.heap.size o) := by
 have hf := h.fresh
 have base : Ok w0 o0 { w with heap := w.heap.push o } s := by
  refine ⟨?_, ?_, ?_, ?_, h.go, h.ot, h.os, h.tape, h.output, ?_, ?_, h.dom⟩
  ·intro k cs hk
   obtain ⟨c, t, fr, hh, hp⟩ := h.g _ _ hk
   exact ⟨c, t, fr, by rw [push_heap, if_neg (Nat.ne_of_lt (h.lt_g hk))]; exact hh, hp⟩
  ·intro k y hk
   obtain ⟨c, hh, hp⟩ := h.o _ _ hk
   exact ⟨c, by rw [push_heap, if_neg (Nat.ne_of_lt (h.lt_o hk))]; exact hh, hp⟩
  ·intro k y hk
   rw [push_heap, if_neg (Nat.ne_of_lt (h.lt_t hk))]
   exact h.t k y hk
  ·intro k y hk
   rw [push_heap, if_neg (Nat.ne_of_lt (h.lt_x hk))]
   exact h.x k y hk
  ·have := h.size
   simp
   omega
  ·intro k hk ho
   have := h.size
   rw [push_heap, if_neg (by omega)]
   exact h.blk k hk ho
 have hx : notCells o = true → Ok w0 o0 { w with heap := w.heap.push o } (s.setX w.heap.size o) := by
  intro ho
  refine ⟨base.g, base.o, base.t, ?_, base.go, base.ot, base.os, base.tape, base.output, base.size, base.blk, ?_⟩
  ·intro k y hk
   by_cases hkb : k = w.heap.size
   ·subst hkb
    simp [St.setX] at hk
    subst hk
    exact ⟨by rw [push_heap]; simp, ho⟩
   ·exact base.x k y (by simpa [St.setX, hkb] using hk)
  ·intro k hk
   by_cases hkb : k = w.heap.size
   ·subst hkb; exact .inr h.size
   ·exact base.dom k (by simpa [St.dom, St.setX, hkb] using hk)
 unfold St.alloc
 split
 ·rename_i c e
  refine ⟨base.g, ?_, base.t, base.x, ?_, ?_, base.os, base.tape, base.output, base.size, base.blk, ?_⟩
  ·intro k y hk
   by_cases hkb : k = w.heap.size
   ·subst hkb
    simp [St.setO] at hk
    subst hk
    exact ⟨c, by rw [push_heap]; simp, rfl, List.prefix_refl _⟩
   ·exact base.o k y (by simpa [St.setO, hkb] using hk)
  ·intro k cs y hk hy
   by_cases hkb : k = w.heap.size
   ·subst hkb
    have h2 : s.g w.heap.size = some cs := hk
    rw [hf.1] at h2
    cases h2
   ·exact base.go k cs y hk (by simpa [St.setO, hkb] using hy)
  ·intro k hk
   by_cases hkb : k = w.heap.size
   ·subst hkb; exact hf.2.2.1
   ·exact base.ot k (by simpa [St.setO, hkb] using hk)
  ·intro k hk
   by_cases hkb : k = w.heap.size
   ·subst hkb; exact .inr h.size
   ·exact base.dom k (by simpa [St.dom, St.setO, hkb] using hk)
 ·exact base
 ·rename_i h1 h2
  refine hx ?_
  cases o <;> first | rfl | skip
  rename_i c e fr
  obtain ⟨a, b⟩ := fr
  exact absurd rfl (h2 c e (a, b))
theorem Ok.setObj {w0 o0 w s r o} (h : Ok w0 o0 w s) (hr : (s.x r).isSome = true) (ho : notCells o = true) : Ok w0 o0 { w with heap := w.heap.setIfInBounds r o } (s.setX r o) := by
 obtain ⟨y, hy⟩ := Option.isSome_iff_exists.1 hr
 obtain ⟨hh, hn⟩ := h.x r y hy
 have hlt := h.lt_x hy
 have hset : ∀ k, (w.heap.setIfInBounds r o)[k]? = if k = r then some o else w.heap[k]? := fun k => by
  rw [Array.getElem?_setIfInBounds]
  by_cases e : k = r
  ·subst e; simp [hlt]
  ·have : ¬ r = k := fun e' => e e'.symm
   simp [e, this]
 have hne : ∀ k c t fr, w.heap[k]? = some (.cells c t fr) → k ≠ r := by
  rintro k c t fr hk rfl
  rw [hh] at hk
  injection hk with hk
  subst hk
  simp [notCells] at hn
 refine ⟨?_, ?_, ?_, ?_, h.go, h.ot, h.os, h.tape, h.output, ?_, ?_, ?_⟩
 ·intro k cs hk
  obtain ⟨c, t, fr, hh', hp⟩ := h.g _ _ hk
  exact ⟨c, t, fr, by rw [hset, if_neg (hne _ _ _ _ hh')]; exact hh', hp⟩
 ·intro k z hk
  obtain ⟨c, hh', hp⟩ := h.o _ _ hk
  exact ⟨c, by rw [hset, if_neg (hne _ _ _ _ hh')]; exact hh', hp⟩
 ·intro k z hk
  rw [hset, if_neg (hne _ _ _ _ (h.t k z hk))]
  exact h.t k z hk
 ·intro k z hk
  by_cases hkb : k = r
  ·subst hkb
   simp [St.setX] at hk
   subst hk
   exact ⟨by rw [hset]; simp, ho⟩
  ·rw [hset, if_neg hkb]
   exact h.x k z (by simpa [St.setX, hkb] using hk)
 ·simpa using h.size
 ·intro k hk hok
  have : k ≠ r := by
   rintro rfl
   rcases h.dom k (by simp [St.dom, hy]) with h1 | h1
   ·rw [hok] at h1; cases h1
   ·omega
  rw [hset, if_neg this]
  exact h.blk k hk hok
 ·intro k hk
  by_cases hkb : k = r
  ·subst hkb
   exact h.dom k (by simp [St.dom, hy])
  ·exact h.dom k (by simpa [St.dom, St.setX, hkb] using hk)
theorem Ok.asVar {w0 o0 w s b y} (h : Ok w0 o0 w s) (ho : s.o b = some y) (hy : y.cs.length = y.room) : Ok w0 o0 w (s.asVar b (y.cs, y.e)) := by
 have hc : w.heap[b]? = some (.cells y.cs.toArray y.e (0, 0)) := by
  obtain ⟨c, hh, hs, hp⟩ := h.o b y ho
  have : y.cs = c.toList := hp.eq_of_length (by simp; omega)
  rw [hh, this]
 refine ⟨h.g, ?_, ?_, h.x, ?_, ?_, h.os, h.tape, h.output, h.size, h.blk, ?_⟩
 ·intro k z hk
  by_cases e : k = b
  ·subst e; simp [St.asVar] at hk
  ·exact h.o k z (by simpa [St.asVar, e] using hk)
 ·intro k z hk
  by_cases e : k = b
  ·subst e; simp [St.asVar] at hk; subst hk; exact hc
  ·exact h.t k z (by simpa [St.asVar, e] using hk)
 ·intro k cs z hk hz
  by_cases e : k = b
  ·subst e; simp [St.asVar] at hz
  ·exact h.go k cs z hk (by simpa [St.asVar, e] using hz)
 ·intro k hk
  by_cases e : k = b
  ·subst e; simp [St.asVar] at hk
  ·simpa [St.asVar, e] using h.ot k (by simpa [St.asVar, e] using hk)
 ·intro k hk
  by_cases e : k = b
  ·subst e; exact h.dom k (by simp [St.dom, ho])
  ·exact h.dom k (by simpa [St.dom, St.asVar, e] using hk)
def GOk (P : Program) (ro : Bool) {α : Type} : Sem α → St → (α → St → Prop) → Prop
 | .pure a, s, K => K a s
 | .load _ a k, s, K => ∃ v, s.has a v ∧ GOk P ro (k v) s K
 | .store _ a v k, s, K => ro = false ∧ isCell v = true ∧ ∃ s', s.puts a v s' ∧ GOk P ro k s' K
 | .new o k, s, K => ro = false ∧ ∃ m, ∀ b, s.fresh b → GOk P ro (k b) (s.allocAs m b o) K
 | .shape r k, s, K => ∃ y, s.o r = some y ∧ GOk P ro (k (some (y.e, y.room))) s K
 | .freeze _ _ _, _, _ => False
 | .frozen a k, s, K => (s.o a.block).isSome = true ∧ GOk P ro (k false) s K
 | .getObj r k, s, K => ∃ y, s.x r = some y ∧ GOk P ro (k y) s K
 | .setObj r o k, s, K => ro = false ∧ (s.x r).isSome = true ∧ notCells o = true ∧ GOk P ro k (s.setX r o) K
 | .choose q k, s, K => ro = false ∧ if q.forced = true then GOk P ro (k 0) s K else ∀ n, GOk P ro (k (q.cut n)) s K
 | .sys _ _, _, _ => False
 | .program k, s, K => GOk P ro (k P) s K
 | .mark _ k, s, K => GOk P ro k s K
 | .halt _, _, _ => False
theorem Ok.drawn {w0 o0 w s} (h : Ok w0 o0 w s) (n : Nat) : Ok w0 o0 { w with drawn := n } s :=
 ⟨h.g, h.o, h.t, h.x, h.go, h.ot, h.os, h.tape, h.output, h.size, h.blk, h.dom⟩
theorem Ok.cutO {w0 o0 w s b y} (h : Ok w0 o0 w s) (ho : s.o b = some y) (hg : s.g b = none) (n : Nat) : Ok w0 o0 w (s.setO b { y with cs := y.cs.take n }) := by
 refine ⟨h.g, ?_, h.t, h.x, ?_, ?_, h.os, h.tape, h.output, h.size, h.blk, ?_⟩
 ·intro k z hk
  by_cases e : k = b
  ·subst e
   simp [St.setO] at hk
   subst hk
   obtain ⟨c, hh, hs, hp⟩ := h.o k y ho
   exact ⟨c, hh, hs, (List.take_prefix n y.cs).trans hp⟩
  ·exact h.o k z (by simpa [St.setO, e] using hk)
 ·intro k cs z hk hz
  by_cases e : k = b
  ·subst e
   rw [show s.g k = some cs from hk] at hg
   cases hg
  ·exact h.go k cs z hk (by simpa [St.setO, e] using hz)
 ·intro k hk
  by_cases e : k = b
  ·subst e; exact h.ot k (by rw [ho]; rfl)
  ·exact h.ot k (by simpa [St.setO, e] using hk)
 ·intro k hk
  by_cases e : k = b
  ·subst e; exact h.dom k (by simp [St.dom, ho])
  ·exact h.dom k (by simpa [St.dom, St.setO, e] using hk)
theorem Ok.allocAs {w0 o0 w s} (h : Ok w0 o0 w s) (m : Option Nat) (o : Obj) : Ok w0 o0 { w with heap := w.heap.push o } (s.allocAs m w.heap.size o) := by
 unfold St.allocAs
 split
 ·rename_i c e
  have h1 := (h.alloc (.cells c e (0, 0)))
  have h2 := h1.asVar (b := w.heap.size) (y := ⟨c.toList, c.size, e⟩) (by simp [St.alloc, St.setO]) (by simp)
  have e : (s.alloc w.heap.size (.cells c e (0, 0))).asVar w.heap.size (c.toList, e) = s.setT w.heap.size (c.toList, e) := by
   unfold St.alloc St.asVar St.setO St.setT
   congr 1
   funext k
   by_cases hk : k = w.heap.size
   ·subst hk; simp [h.fresh.2.1]
   ·simp [hk]
  rwa [e] at h2
 ·rename_i n c e
  have h1 := (h.alloc (.cells c e (0, 0)))
  have h2 := h1.cutO (b := w.heap.size) (y := ⟨c.toList, c.size, e⟩) (by simp [St.alloc, St.setO]) (by exact h.fresh.1) n
  have e : (s.alloc w.heap.size (.cells c e (0, 0))).setO w.heap.size { (⟨c.toList, c.size, e⟩ : Own) with cs := c.toList.take n } = s.setO w.heap.size ⟨c.toList.take n, c.size, e⟩ := by
   unfold St.alloc St.setO
   congr 1
   funext k
   by_cases hk : k = w.heap.size <;> simp [hk]
  rwa [e] at h2
 ·exact h.alloc o
theorem GOk.sound {P : Program} {ro : Bool} {α : Type} {w0 : World} {o0 : Nat → Bool} {K : α → St → Prop} : ∀ (m : Sem α) (w : World) (s : St), Ok w0 o0 w s → GOk P ro m s K → ∃ x w' s', m.run P w = .ok x w' ∧ K x s' ∧ Ok w0 o0 w' s' ∧ (ro = true → w' = w) := by
 intro m
 induction m with
 | pure a => exact fun w s h hk => ⟨a, w, s, rfl, hk, h, fun _ => rfl⟩
 | load md a k ih =>
  rintro w s h ⟨v, hv, hk⟩
  obtain ⟨x, w', s', hr, hx, ho, hw⟩ := ih v w s h hk
  exact ⟨x, w', s', by simp only [Sem.run, h.has hv]; exact hr, hx, ho, hw⟩
 | store md a v k ih =>
  rintro w s h ⟨hro, hc, s1, hp, hk⟩
  obtain ⟨h1, h2, h3⟩ := h.puts hp
  obtain ⟨u, hu⟩ := Option.isSome_iff_exists.1 h1
  obtain ⟨x, w', s', hr, hx, ho, hw⟩ := ih _ s1 h3 hk
  refine ⟨x, w', s', ?_, hx, ho, fun e => by rw [hro] at e; cases e⟩
  rw [← hr]
  cases v <;> first | (simp [isCell] at hc; done) | (simp only [Sem.run, hu, h2]; rfl)
 | new o k ih =>
  rintro w s h ⟨hro, v, hk⟩
  obtain ⟨x, w', s', hr, hx, ho, hw⟩ := ih w.heap.size _ _ (h.allocAs v o) (hk _ h.fresh)
  exact ⟨x, w', s', by simp only [Sem.run]; exact hr, hx, ho, fun e => by rw [hro] at e; cases e⟩
 | shape r k ih =>
  rintro w s h ⟨y, hy, hk⟩
  obtain ⟨c, hh, hsz, _⟩ := h.o _ _ hy
  obtain ⟨x, w', s', hr, hx, ho, hw⟩ := ih _ w s h hk
  refine ⟨x, w', s', ?_, hx, ho, hw⟩
  have : w.shape? r = some (y.e, y.room) := by simp [World.shape?, hh, hsz]
  simp only [Sem.run, this]
  exact hr
 | freeze a n k ih => exact fun w s h hk => hk.elim
 | frozen a k ih =>
  rintro w s h ⟨hy, hk⟩
  obtain ⟨y, hy⟩ := Option.isSome_iff_exists.1 hy
  obtain ⟨c, hh, hsz, _⟩ := h.o _ _ hy
  obtain ⟨x, w', s', hr, hx, ho, hw⟩ := ih _ w s h hk
  refine ⟨x, w', s', ?_, hx, ho, hw⟩
  have : w.frozen? a = false := by simp [World.frozen?, hh]
  simp only [Sem.run, this]
  exact hr
 | getObj r k ih =>
  rintro w s h ⟨y, hy, hk⟩
  obtain ⟨hh, hn⟩ := h.x _ _ hy
  obtain ⟨x, w', s', hr, hx, ho, hw⟩ := ih _ w s h hk
  refine ⟨x, w', s', ?_, hx, ho, hw⟩
  simp only [Sem.run, hh]
  cases y <;> first | (simp [notCells] at hn; done) | exact hr
 | setObj r o k ih =>
  rintro w s h ⟨hro, hy, hn, hk⟩
  obtain ⟨y, hy'⟩ := Option.isSome_iff_exists.1 hy
  obtain ⟨hh, hn'⟩ := h.x _ _ hy'
  obtain ⟨x, w', s', hr, hx, ho, hw⟩ := ih _ _ (h.setObj hy hn) hk
  refine ⟨x, w', s', ?_, hx, ho, fun e => by rw [hro] at e; cases e⟩
  simp only [Sem.run, hh]
  cases y <;> first | (simp [notCells] at hn'; done) | exact hr
 | choose q k ih =>
  intro w s h hk
  unfold GOk at hk
  obtain ⟨hro, hk⟩ := hk
  by_cases hq : q.forced = true
  ·rw [if_pos hq] at hk
   obtain ⟨x, w', s', hr, hx, ho, hw⟩ := ih _ w s h hk
   exact ⟨x, w', s', by simp only [Sem.run, hq, if_true]; exact hr, hx, ho, fun e => by rw [hro] at e; cases e⟩
  ·rw [if_neg hq] at hk
   obtain ⟨x, w', s', hr, hx, ho, hw⟩ := ih _ _ s (h.drawn (w.drawn + 1)) (hk (w.tape w.drawn q))
   exact ⟨x, w', s', by simp only [Sem.run, hq]; exact hr, hx, ho, fun e => by rw [hro] at e; cases e⟩
 | sys c k ih => exact fun w s h hk => hk.elim
 | program k ih =>
  intro w s h hk
  obtain ⟨x, w', s', hr, hx, ho, hw⟩ := ih P w s h hk
  exact ⟨x, w', s', by simp only [Sem.run]; exact hr, hx, ho, hw⟩
 | mark md k ih =>
  intro w s h hk
  obtain ⟨x, w', s', hr, hx, ho, hw⟩ := ih w s h hk
  exact ⟨x, w', s', by simp only [Sem.run]; exact hr, hx, ho, hw⟩
 | halt h => exact fun w s _ hk => hk.elim
theorem Ok.refl {w0 o0 w s} (h : Ok w0 o0 w s) : Ok w s.dom w s :=
 ⟨h.g, h.o, h.t, h.x, h.go, h.ot, rfl, rfl, rfl, Nat.le_refl _, fun _ _ _ => rfl, fun _ hb => .inl hb⟩
theorem Ok.trans {w0 o0 w s w' s'} (h : Ok w0 o0 w s) (k : Ok w s.dom w' s') : Ok w0 o0 w' s' := by
 have hd : ∀ b, b < w0.heap.size → o0 b = false → s.dom b = false := fun b hb ho => by
  cases e : s.dom b with
  | false => rfl
  | true =>
   rcases h.dom b e with h1 | h1
   ·rw [ho] at h1; cases h1
   ·omega
 refine ⟨k.g, k.o, k.t, k.x, k.go, k.ot, k.os.trans h.os, k.tape.trans h.tape, k.output.trans h.output, Nat.le_trans h.size k.size, ?_, ?_⟩
 ·intro b hb ho
  rw [k.blk b (Nat.lt_of_lt_of_le hb h.size) (hd b hb ho)]
  exact h.blk b hb ho
 ·intro b hb
  rcases k.dom b hb with h1 | h1
  ·exact h.dom b h1
  ·exact .inr (Nat.le_trans h.size h1)
def yg (P : Program) (f : FuncId) (args : Array Value) (s : St) (R : Value → St → Prop) : Prop :=
 ∀ w, Ok w s.dom w s → Calls P f args w fun e w' => ∃ v s', e = .returned v ∧ R v s' ∧ Ok w s.dom w' s'
theorem yg.mono {P f args s R R'} (h : yg P f args s R) (hr : ∀ v s', R v s' → R' v s') : yg P f args s R' :=
 fun w hw => (h w hw).mono fun _ _ ⟨v, s', he, hv, ho⟩ => ⟨v, s', he, hr v s' hv, ho⟩
def getL : List Value → Nat → Value
 | [], _ => undef
 | x :: _, 0 => x
 | _ :: xs, n + 1 => getL xs n
def setL : List Value → Nat → Value → List Value
 | [], _, _ => []
 | _ :: xs, 0, v => v :: xs
 | x :: xs, n + 1, v => x :: setL xs n v
def yh (l : List Value) (d : Option Tmp) (v : Value) : List Value :=
 match d with
 | some d => setL l d v
 | none => l
def mkA (l : List Value) : Act := ⟨l.toArray, []⟩
def evL (l : List Value) : Operand → Value
 | .tmp t => getL l t
 | .const v => v
 | .global g => .pointer (some ⟨g, 0, none⟩)
 | .func f => .func (.func f) #[] #[]
theorem getL_eq : ∀ (l : List Value) (n : Nat), getL l n = l[n]?.getD undef
 | [], n => by simp [getL]
 | x :: xs, 0 => by simp [getL]
 | x :: xs, n + 1 => by simp [getL, getL_eq xs n]
theorem setL_eq : ∀ (l : List Value) (n : Nat) (v : Value), setL l n v = l.set n v
 | [], n, v => by simp [setL]
 | x :: xs, 0, v => by simp [setL]
 | x :: xs, n + 1, v => by simp [setL, setL_eq xs n]
theorem ev_eq (l : List Value) : (mkA l).eval = evL l := by
 funext x
 cases x <;> simp [Act.eval, evL, mkA, getL_eq, Array.getD_eq_getD_getElem?]
theorem put_eq (l : List Value) (d : Option Tmp) (v : Value) : (mkA l).put d v = mkA (yh l d v) := by
 cases d <;> simp [Act.put, yh, mkA, setL_eq]
def afterOp (P : Program) (ro : Bool) (o : Oper) (l : List Value) (K : List Value → St → Prop) (n : Next) (s : St) : Prop :=
 match n with
 | .value v => K (yh l o.dst v) s
 | .skip => ro = false ∧ K (yh l o.dst undef) s
 | .enter f args => ro = false ∧ yg P f args s fun v s' => K (yh l o.dst v) s'
 | _ => False
def HO (P : Program) (ro : Bool) (o : Oper) (l : List Value) (s : St) (K : List Value → St → Prop) : Prop := GOk P ro (execOp (evL l) o) s (afterOp P ro o l K)
def wantL (ops : Array Oper) (o : Oper) (l : List Value) : Bool := Region.wanted o (yielded ops l.toArray)
section
variable {P : Program} {w0 : World} {o0 : Nat → Bool} {ops : Array Oper} {Q : Exit → List Value → St → Prop} {o : Oper} {rest : List Oper} {l : List Value} {s : St}
def QQ (w0 : World) (o0 : Nat → Bool) (Q : Exit → List Value → St → Prop) : Exit → Act → World → Prop := fun e a w => ∃ l s, a = mkA l ∧ Q e l s ∧ Ok w0 o0 w s
theorem HO.sound {ro : Bool} {K : List Value → St → Prop} {K' : Act → World → Prop} {Q' : Exit → Act → World → Prop} (h : HO P ro o l s K) (hK : ∀ l s w, K l s → Ok w0 o0 w s → K' (mkA l) w) (w : World) (hw : Ok w0 o0 w s) : o.wp P (mkA l) w K' Q' := by
 obtain ⟨x, w', s', hr, hx, ho, _⟩ := GOk.sound _ w s hw h
 unfold Oper.wp
 rw [ev_eq, hr]
 cases x with
 | value v =>
  show K' ((mkA l).put o.dst v) w'
  rw [put_eq]
  exact hK _ _ _ hx ho
 | skip =>
  show K' ((mkA l).put o.dst undef) w'
  rw [put_eq]
  exact hK _ _ _ hx.2 ho
 | enter f args =>
  refine (hx.2 w' ho.refl).mono ?_
  rintro e w'' ⟨v, s'', rfl, hv, ho'⟩
  show K' ((mkA l).put o.dst v) w''
  rw [put_eq]
  exact hK _ _ _ hv (ho.trans ho')
 | _ => exact hx.elim
def HL (P : Program) (w0 : World) (o0 : Nat → Bool) (ops : Array Oper) (Q : Exit → List Value → St → Prop) (r : List Oper) (l : List Value) (s : St) : Prop :=
 ∀ w, Ok w0 o0 w s → wpList P ops (QQ w0 o0 Q) r (mkA l) w
theorem y0 (h : Q .normal l s) : HL P w0 o0 ops Q [] l s := fun w hw => ⟨l, s, rfl, h, hw⟩
theorem HL_want (hw : wantL ops o l = true) (h : HO P false o l s fun l' s' => HL P w0 o0 ops Q rest l' s') : HL P w0 o0 ops Q (o :: rest) l s := by
 intro w hok
 unfold wpList
 rw [if_pos (show Region.wanted o (yielded ops (mkA l).tmps) = true from hw)]
 exact .inl (h.sound (fun l s w hk ho => hk w ho) w hok)
theorem HL_cons (hg : o.guard = none) (h : HO P false o l s fun l' s' => HL P w0 o0 ops Q rest l' s') : HL P w0 o0 ops Q (o :: rest) l s :=
 HL_want (by simp [wantL, Region.wanted, hg]) h
theorem HL_skip (hw : wantL ops o l = false) (h : HL P w0 o0 ops Q rest (yh l o.dst undef) s) : HL P w0 o0 ops Q (o :: rest) l s := by
 intro w hok
 unfold wpList
 rw [if_neg (by rw [show Region.wanted o (yielded ops (mkA l).tmps) = false from hw]; simp), put_eq]
 exact h w hok
def HT (P : Program) (w0 : World) (o0 : Nat → Bool) (c : Code) (Q : Exit → List Value → St → Prop) (l : List Value) (s : St) : Prop :=
 ∀ w, Ok w0 o0 w s → c.wp P (QQ w0 o0 Q) (mkA l) w
def thenG (K : List Value → St → Prop) (Q : Exit → List Value → St → Prop) : Exit → List Value → St → Prop
 | .normal, l, s => K l s
 | e, l, s => Q e l s
def blockG (id : Nat) (Q : Exit → List Value → St → Prop) : Exit → List Value → St → Prop
 | .exit id', l, s => if id' = id then Q .normal l s else Q (.exit id') l s
 | e, l, s => Q e l s
theorem y7 (h : Q .normal l s) : HT P w0 o0 .skip Q l s := fun w hw => wp_skip ⟨l, s, rfl, h, hw⟩
theorem HT_exit {id : Nat} (h : Q (.exit id) l s) : HT P w0 o0 (.exit id) Q l s := fun w hw => wp_exit ⟨l, s, rfl, h, hw⟩
theorem HT_ret (h : Q .ret l s) : HT P w0 o0 .ret Q l s := fun w hw => wp_ret ⟨l, s, rfl, h, hw⟩
theorem y6 {id : Nat} {r : List Oper} (h : HL P w0 o0 r.toArray Q r l s) : HT P w0 o0 (.region id r.toArray false) Q l s := fun w hw => wp_region_lit (h w hw)
theorem HT_seq {x y : Code} (h : HT P w0 o0 x (thenG (HT P w0 o0 y Q) Q) l s) : HT P w0 o0 (.seq x y) Q l s := fun w hw =>
 wp_seq (wp_mono (h w hw) fun e a' w' ⟨l', s', hl, hq, ho⟩ => by
  subst hl
  cases e with
  | normal => exact hq w' ho
  | _ => exact ⟨l', s', rfl, hq, ho⟩)
theorem y4 {x y : Code} (h : ∀ K : List Value → St → Prop, (∀ l s, HT P w0 o0 y Q l s → K l s) → HT P w0 o0 x (thenG K Q) l s) : HT P w0 o0 (.seq x y) Q l s := HT_seq (h _ fun _ _ h => h)
theorem HT_true {c : Operand} {x y : Code} (hc : evL l c = .bool true) (h : HT P w0 o0 x Q l s) : HT P w0 o0 (.cond c x y) Q l s := fun w hw => wp_cond_true (by rw [ev_eq]; exact hc) (h w hw)
theorem HT_false {c : Operand} {x y : Code} (hc : evL l c = .bool false) (h : HT P w0 o0 y Q l s) : HT P w0 o0 (.cond c x y) Q l s := fun w hw => wp_cond_false (by rw [ev_eq]; exact hc) (h w hw)
theorem yf {id : Nat} {c : Code} (h : HT P w0 o0 c (blockG id Q) l s) : HT P w0 o0 (.block id c) Q l s := fun w hw =>
 wp_block (wp_mono (h w hw) fun e a' w' ⟨l', s', hl, hq, ho⟩ => by
  subst hl
  cases e with
  | exit id' =>
   by_cases hid : id' = id
   ·simp only [blockG, hid, if_true] at hq
    simp only [Exit.inBlock, hid, if_true]
    exact ⟨l', s', rfl, hq, ho⟩
   ·simp only [blockG, hid, if_false] at hq
    simp only [Exit.inBlock, hid, if_false]
    exact ⟨l', s', rfl, hq, ho⟩
  | _ => exact ⟨l', s', rfl, hq, ho⟩)
theorem HT_loop {c : Code} (I : Nat → List Value → St → Prop) (n : Nat) (h0 : I n l s)
  (round : ∀ n l s, I n l s → HT P w0 o0 c (thenG (fun l' s' => ∃ n', n' < n ∧ I n' l' s') Q) l s) : HT P w0 o0 (.loop c) Q l s := fun w hw =>
 wp_loop_ghost (fun n a w => ∃ l s, a = mkA l ∧ I n l s ∧ Ok w0 o0 w s) n ⟨l, s, rfl, h0, hw⟩ fun n a w ⟨l, s, ha, hI, ho⟩ => by
  subst ha
  refine wp_mono (round n l s hI w ho) fun e a' w' ⟨l', s', hl, hq, ho'⟩ => ?_
  subst hl
  cases e with
  | normal => obtain ⟨n', hn, hI'⟩ := hq; exact ⟨n', hn, l', s', rfl, hI', ho'⟩
  | _ => exact ⟨l', s', rfl, hq, ho'⟩
theorem HT_mono {c : Code} {Q' : Exit → List Value → St → Prop} (h : HT P w0 o0 c Q' l s) (hq : ∀ e l s, Q' e l s → Q e l s) : HT P w0 o0 c Q l s :=
 fun w hw => wp_mono (h w hw) fun e a' w' ⟨l', s', hl, h1, h2⟩ => ⟨l', s', hl, hq e l' s' h1, h2⟩
end
def resOne (tmps : Array Value) : ResultVar → Sem Value
 | .tmp t => pure (tmps.getD t undef)
 | .cell a t => do loadVar t (← asAddr (tmps.getD a undef))
theorem results_eq (fn : Func) (tmps : Array Value) : results fn tmps = (do
 let vs ← fn.results.mapM (resOne tmps)
 pure (if h : vs.size = 1 then vs[0] else .tuple vs)) := by
 unfold results
 congr 1
end Go.Proofs.GL

