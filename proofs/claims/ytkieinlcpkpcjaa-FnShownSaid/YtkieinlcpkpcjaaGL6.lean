/- A logic of what is known of memory, over the kit's weakest preconditions: part GL6. No conditions: lemmas. -/
import Derived.Test.YtkieinlcpkpcjaaGL5
set_option linter.unusedVariables false
set_option linter.unusedSimpArgs false
namespace Go.Proofs.GL
open Go

/-! ### 15. Kinds of several cells -/
def Kd.pair {α β : Type} (K : Kd α) (L : Kd β) : Kd (α × β) where
  sz := K.sz + L.sz
  rep := fun s cs x => ∃ c1 c2, cs = c1 ++ c2 ∧ K.rep s c1 x.1 ∧ L.rep s c2 x.2
  len := by
    rintro s cs x ⟨c1, c2, rfl, h1, h2⟩
    rw [List.length_append, K.len h1, L.len h2]
  one := by
    rintro s cs x ⟨c1, c2, rfl, h1, h2⟩ v hv
    rcases List.mem_append.1 hv with hv | hv
    · exact K.one h1 v hv
    · exact L.one h2 v hv
  mono := by
    rintro s s' cs x hm ⟨c1, c2, rfl, h1, h2⟩
    exact ⟨c1, c2, rfl, K.mono hm h1, L.mono hm h2⟩
def Kd.sl {α : Type} (K : Kd α) : Kd (List α) where
  sz := 1
  rep := fun s cs x => ∃ A c, cs = [.slice A x.length c] ∧ Rd K s A c x
  len := by rintro s cs x ⟨A, c, rfl, _⟩; rfl
  one := by
    rintro s cs x ⟨A, c, rfl, _⟩ v hv
    rw [List.mem_singleton.1 hv]
    rfl
  mono := by
    rintro s s' cs x hm ⟨A, c, rfl, h⟩
    exact ⟨A, c, rfl, h.mono hm⟩

/-! ### 16. The words of the plain functions -/
/-- What a loop comes to: it goes on behind, or the function hands back. -/
inductive Lo (σ ρ : Type) where
  | go (x : σ)
  | ret (r : ρ)
/-- Element i, if there is one. -/
def rd? {α : Type} (xs : List α) (i : Int) : Option α := if 0 ≤ i then xs[i.toNat]? else none
theorem rd?_some {α : Type} {xs : List α} {i : Int} {x : α} (h : rd? xs i = some x) : 0 ≤ i ∧ i < xs.length ∧ xs[i.toNat]? = some x := by
  unfold rd? at h
  split at h
  · rename_i h0
    have := (List.getElem?_eq_some_iff.1 h).1
    exact ⟨h0, by omega, h⟩
  · cases h
def app? {α : Type} (n : Nat) (xs ys : List α) : Option (List α) := if xs.length + ys.length ≤ n then some (xs ++ ys) else none
theorem app?_some {α : Type} {n : Nat} {xs ys zs : List α} (h : app? n xs ys = some zs) : xs.length + ys.length ≤ n ∧ zs = xs ++ ys := by
  unfold app? at h
  split at h
  · rename_i h0
    exact ⟨h0, (Option.some.inj h).symm⟩
  · cases h
/-- xs[lo:hi]. -/
def cut? {α : Type} (xs : List α) (lo hi : Int) : Option (List α) := if 0 ≤ lo ∧ lo ≤ hi ∧ hi ≤ xs.length then some ((xs.take hi.toNat).drop lo.toNat) else none
theorem cut?_some {α : Type} {xs ys : List α} {lo hi : Int} (h : cut? xs lo hi = some ys) : (0 ≤ lo ∧ lo ≤ hi ∧ hi ≤ xs.length) ∧ ys = (xs.take hi.toNat).drop lo.toNat := by
  unfold cut? at h
  split at h
  · rename_i h0
    exact ⟨h0, (Option.some.inj h).symm⟩
  · cases h
def quo? (k : IntKind) (x y : Int) : Option Int := if y = 0 then none else some (k.wrap (x.tdiv y))
def rem? (x y : Int) : Option Int := if y = 0 then none else some (x.tmod y)
theorem quo?_some {k x y z} (h : quo? k x y = some z) : y ≠ 0 ∧ z = k.wrap (x.tdiv y) := by
  unfold quo? at h
  split at h
  · cases h
  · rename_i h0; exact ⟨h0, (Option.some.inj h).symm⟩
theorem rem?_some {x y z} (h : rem? x y = some z) : y ≠ 0 ∧ z = x.tmod y := by
  unfold rem? at h
  split at h
  · cases h
  · rename_i h0; exact ⟨h0, (Option.some.inj h).symm⟩
theorem bindE {α β : Type} {t : Option α} {f : α → Option β} {r : β} (H : t.bind f = some r) : ∃ a, t = some a ∧ f a = some r := Option.bind_eq_some_iff.1 H
/-- What follows a piece stands behind a letter. -/
theorem joinE {α β : Type} {t : Option α} {F : α → Option β} {r : β} {goal : Prop} (H : t.bind F = some r) (h : ∀ G : α → Option β, (∀ o, G o = some r → F o = some r) → t.bind G = some r → goal) : goal := h F (fun _ h => h) H
/-- A way that leaves the piece. -/
theorem escE {σ ρ : Type} {X : Option ρ} {G : Lo σ ρ → Option ρ} {r : ρ} (hG : ∀ z, G (.ret z) = some r → z = r) (H : (X.bind fun z => some (Lo.ret z)).bind G = some r) : X = some r := by
  obtain ⟨o, h1, h2⟩ := bindE H
  obtain ⟨z, h3, h4⟩ := bindE h1
  obtain rfl := Option.some.inj h4
  rw [h3, hG z h2]
theorem at_el {α : Type} {K : Kd α} {s : St} {cs : List Value} {xs : List α} {i : Nat} {x : α} {hlt : i < xs.length} (h : K.rep s cs xs[i]) (hx : xs[i]? = some x) : K.rep s cs x := by
  rw [List.getElem?_eq_getElem hlt] at hx
  rwa [Option.some.inj hx] at h
section
variable {P : Program} {ro : Bool} {l : List Value} {s : St} {Kl : List Value → St → Prop} {d : Option Tmp} {ty : TypeId} {pos : String} {af : Array Edge} {gd : Option (Nat × Bool)}
/-- The address of an element, and its cells. -/
theorem o_el {α : Type} {K : Kd α} {xs : List α} {x ix : Operand} {t e : TypeId} {z : Value} {by_ : Nat} {A : Option Addr} {c : Nat} {k : IntKind} {i : Int} {u : α} (hx : evL l x = .slice A xs.length c) (hi : evL l ix = .int k i) (hu : P.underlying t = some (.slice e)) (ht : TI P e z K.sz by_) (hr : Rd K s A c xs)
    (hrd : rd? xs i = some u) (h : ∀ b o cs, K.rep s cs u → (∀ j v, cs[j]? = some v → s.has ⟨b, o + j, none⟩ v) → Kl (putL l d (.pointer (some ⟨b, o, none⟩))) s) : HO P ro ⟨d, .indexAddr t x ix, ty, pos, af, gd⟩ l s Kl := by
  obtain ⟨h0, h1, h2⟩ := rd?_some hrd
  have hlt : i.toNat < xs.length := by omega
  obtain ⟨b, o, rfl, hc⟩ := hr.2.2 (fun e' => by rw [e'] at hlt; simp at hlt)
  obtain ⟨cs, r1, r2⟩ := hc i.toNat u h2
  have := h b (o + i.toNat * K.sz) cs r1 (fun j v hj => ⟨rfl, .inl (r2 j v hj)⟩)
  refine o_iaddr hx hi hu ht h0 h1 ?_
  rw [addp]
  exact this
theorem o_quo' {xt yt : TypeId} {x y : Operand} {k : IntKind} {n m q : Int} (hx : evL l x = .int k n) (hy : evL l y = .int k m) (hq : quo? k n m = some q) (h : Kl (putL l d (.int k q)) s) :
    HO P ro ⟨d, .binOp .quo xt x y yt, ty, pos, af, gd⟩ l s Kl := by
  obtain ⟨h1, rfl⟩ := quo?_some hq
  exact o_quo hx hy h1 h
theorem o_rem' {xt yt : TypeId} {x y : Operand} {k : IntKind} {n m q : Int} (hx : evL l x = .int k n) (hy : evL l y = .int k m) (hq : rem? n m = some q) (h : Kl (putL l d (.int k q)) s) :
    HO P ro ⟨d, .binOp .rem xt x y yt, ty, pos, af, gd⟩ l s Kl := by
  obtain ⟨h1, rfl⟩ := rem?_some hq
  exact o_rem hx hy h1 h
theorem o_cut' {α : Type} {K : Kd α} {xs ys : List α} {x : Operand} {lo hi : Option Operand} {t e : TypeId} {z : Value} {by_ : Nat} {A : Option Addr} {c : Nat} {kl kh : IntKind} {L H : Int} (hx : evL l x = .slice A xs.length c) (hlo : (lo.map (evL l)).getD (.int kl 0) = .int kl L) (hhi : (hi.map (evL l)).getD (.int kh xs.length) = .int kh H) (hu : P.underlying t = some (.slice e)) (ht : TI P e z K.sz by_) (hr : Rd K s A c xs)
    (hc : cut? xs L H = some ys) (h : ∀ A', Rd K s A' (c - L.toNat) ys → Kl (putL l d (.slice A' ys.length (c - L.toNat))) s) : HO P ro ⟨d, .slice t x lo hi none, ty, pos, af, gd⟩ l s Kl := by
  obtain ⟨⟨h0, h1, h2⟩, rfl⟩ := cut?_some hc
  exact o_cut hx hlo hhi hu ht hr h0 h1 h2 h
theorem o_append' {α : Type} {K : Kd α} {x y : Operand} {t e : TypeId} {z : Value} {by_ n : Nat} {A B : Option Addr} {c c2 : Nat} {xs ys zs : List α}
    (hx : evL l x = .slice A xs.length c) (hy : evL l y = .slice B ys.length c2) (hu : P.underlying t = some (.slice e)) (ht : TI P e z K.sz by_) (hz : z.cells.size = K.sz) (hpos : 0 < K.sz) (hby : 0 < by_) (hn : n * by_ ≤ 140737488355328) (ho : Own.is K e s A c xs) (hr : Rd K s B c2 ys) (hl : app? n xs ys = some zs)
    (h : ∀ v s', Appended K e s A c zs v s' → Kl (putL l d v) s') : HO P false ⟨d, .call { callee := .builtin .append, args := #[x, y], argTypes := #[t, t] }, ty, pos, af, gd⟩ l s Kl := by
  obtain ⟨h1, rfl⟩ := app?_some hl
  exact o_append hx hy hu ht hz hpos hby ho hr (Nat.le_trans (Nat.mul_le_mul_right _ h1) hn) h
end
end Go.Proofs.GL
