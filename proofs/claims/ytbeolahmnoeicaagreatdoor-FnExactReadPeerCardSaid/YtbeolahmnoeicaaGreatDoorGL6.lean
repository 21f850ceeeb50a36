/- A logic of what is known of memory, over the kit's weakest preconditions: one part. No conditions: lemmas. -/
import Derived.Test.YtbeolahmnoeicaaGreatDoorGL5
set_option linter.unusedVariables false
set_option linter.unusedSimpArgs false
namespace Go.Proofs.GL
open Go
def Kd.pair {α β : Type} (K : Kd α) (L : Kd β) : Kd (α × β) where
 sz := K.sz + L.sz
 rep := fun s cs x => ∃ c1 c2, cs = c1 ++ c2 ∧ K.rep s c1 x.1 ∧ L.rep s c2 x.2
 len := by
  rintro s cs x ⟨c1, c2, rfl, h1, h2⟩
  rw [List.length_append, K.len h1, L.len h2]
 one := by
  rintro s cs x ⟨c1, c2, rfl, h1, h2⟩ v hv
  rcases List.mem_append.1 hv with hv | hv
  ·exact K.one h1 v hv
  ·exact L.one h2 v hv
 mono := by
  rintro s s' cs x hm ⟨c1, c2, rfl, h1, h2⟩
  exact ⟨c1, c2, rfl, K.mono hm h1, L.mono hm h2⟩
def Kd.sl {α : Type} (K : Kd α) : Kd (List α) where
 sz := 1
 rep := fun s cs x => ∃ A c, cs = [.slice A x.length c] ∧ Rd K s A c x
 len := by rintro s cs x ⟨A, c, rfl, _⟩; rfl
 one := by
  rintro s cs x ⟨A, c, rfl, _⟩ v hv
  rw [List.mem_singleton.1 hv]
  rfl
 mono := by
  rintro s s' cs x hm ⟨A, c, rfl, h⟩
  exact ⟨A, c, rfl, h.mono hm⟩
inductive Lo (σ ρ : Type) where
 | go (x : σ)
 | ret (r : ρ)
def rd? {α : Type} (xs : List α) (i : Int) : Option α := if 0 ≤ i then xs[i.toNat]? else none
theorem rd?_some {α : Type} {xs : List α} {i : Int} {x : α} (h : rd? xs i = some x) : 0 ≤ i ∧ i < xs.length ∧ xs[i.toNat]? = some x := by
 unfold rd? at h
 split at h
 ·rename_i h0
  have := (List.getElem?_eq_some_iff.1 h).1
  exact ⟨h0, by omega, h⟩
 ·cases h
def app? {α : Type} (n : Nat) (xs ys : List α) : Option (List α) := if xs.length + ys.length ≤ n then some (xs ++ ys) else none
theorem app?_some {α : Type} {n : Nat} {xs ys zs : List α} (h : app? n xs ys = some zs) : xs.length + ys.length ≤ n ∧ zs = xs ++ ys := by
 unfold app? at h
 split at h
 ·rename_i h0
  exact ⟨h0, (Option.some.inj h).symm⟩
 ·cases h
def cut? {α : Type} (xs : List α) (lo hi : Int) : Option (List α) := if 0 ≤ lo ∧ lo ≤ hi ∧ hi ≤ xs.length then some ((xs.take hi.toNat).drop lo.toNat) else none
theorem cut?_some {α : Type} {xs ys : List α} {lo hi : Int} (h : cut? xs lo hi = some ys) : (0 ≤ lo ∧ lo ≤ hi ∧ hi ≤ xs.length) ∧ ys = (xs.take hi.toNat).drop lo.toNat := by
 unfold cut? at h
 split at h
 ·rename_i h0
  exact ⟨h0, (Option.some.inj h).symm⟩
 ·cases h
def quo? (k : IntKind) (x y : Int) : Option Int := if y = 0 then none else some (k.wrap (x.tdiv y))
def rem? (x y : Int) : Option Int := if y = 0 then none else some (x.tmod y)
theorem quo?_some {k x y z} (h : quo? k x y = some z) : y ≠ 0 ∧ z = k.wrap (x.tdiv y) := by
 unfold quo? at h
 split at h
 ·cases h
 ·rename_i h0; exact ⟨h0, (Option.some.inj h).symm⟩
theorem rem?_some {x y z} (h : rem? x y = some z) : y ≠ 0 ∧ z = x.tmod y := by
 unfold rem? at h
 split at h
 ·cases h
 ·rename_i h0; exact ⟨h0, (Option.some.inj h).symm⟩
theorem bindE {α β : Type} {t : Option α} {f : α → Option β} {r : β} (H : t.bind f = some r) : ∃ a, t = some a ∧ f a = some r := Option.bind_eq_some_iff.1 H
section
variable {P : Program} {ro : Bool} {l : List Value} {s : St} {Kl : List Value → St → Prop} {d : Option Tmp} {ty : TypeId} {pos : String} {af : Array Edge} {gd : Option (Nat × Bool)}
theorem o_quo' {xt yt : TypeId} {x y : Operand} {k : IntKind} {n m q : Int} (hx : evL l x = .int k n) (hy : evL l y = .int k m) (hq : quo? k n m = some q) (h : Kl (yh l d (.int k q)) s) :
  HO P ro ⟨d, .binOp .quo xt x y yt, ty, pos, af, gd⟩ l s Kl := by
 obtain ⟨h1, rfl⟩ := quo?_some hq
 exact o_quo hx hy h1 h
theorem o_rem' {xt yt : TypeId} {x y : Operand} {k : IntKind} {n m q : Int} (hx : evL l x = .int k n) (hy : evL l y = .int k m) (hq : rem? n m = some q) (h : Kl (yh l d (.int k q)) s) :
  HO P ro ⟨d, .binOp .rem xt x y yt, ty, pos, af, gd⟩ l s Kl := by
 obtain ⟨h1, rfl⟩ := rem?_some hq
 exact o_rem hx hy h1 h
end
end Go.Proofs.GL

