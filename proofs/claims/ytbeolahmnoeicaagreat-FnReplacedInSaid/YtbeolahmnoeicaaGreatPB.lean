/- A logic of what is known of memory, over the kit's weakest preconditions: one part. No conditions: lemmas. -/
import Derived.Test.YtbeolahmnoeicaaGreatGLR
set_option linter.unusedVariables false
set_option linter.unusedSimpArgs false
namespace Go.Proofs.GL
open Go
theorem yr {n : Int} (h0 : -9223372036854775808 ≤ n) (h1 : n < 9223372036854775808) : IntKind.i64.wrap n = n := by rw [IntKind.wrap_i64]; omega
theorem yw (i : Nat) (h : i < 9223372036854775807) : IntKind.i64.wrap ((i : Int) + 1) = ((i + 1 : Nat) : Int) := by rw [yr (by omega) (by omega)]; omega
theorem rd?_at {α : Type} {xs : List α} {i : Nat} (h : i < xs.length) : rd? xs (i : Int) = some xs[i] := by
 unfold rd?
 rw [if_pos (Int.natCast_nonneg i), Int.toNat_natCast, List.getElem?_eq_getElem h]
theorem st?_at {α : Type} {xs : List α} {i : Nat} (x : α) (h : i < xs.length) : st? xs (i : Int) x = some (xs.set i x) := by
 unfold st?
 rw [if_pos (by omega), Int.toNat_natCast]
theorem app?_at {α : Type} {n : Nat} {xs ys : List α} (h : xs.length + ys.length ≤ n) : app? n xs ys = some (xs ++ ys) := by
 unfold app?
 rw [if_pos h]
theorem mk?_at {α : Type} {n k : Nat} {x : α} (h : k ≤ n) : mk? n x (k : Int) = some (List.replicate k x) := by
 unfold mk?
 rw [if_pos (by omega), Int.toNat_natCast]
theorem cut?_at {α : Type} {xs : List α} {a b : Nat} (h1 : a ≤ b) (h2 : b ≤ xs.length) : cut? xs (a : Int) (b : Int) = some ((xs.take b).drop a) := by
 unfold cut?
 rw [if_pos (by omega), Int.toNat_natCast, Int.toNat_natCast]
abbrev big : Nat := 17592186044416
theorem scan_loop {α ρ : Type} (p : List α) (hp : p.length ≤ big) (t : α → Bool) (g : Int → α → ρ) (L : Nat → Int → Option (Lo Unit ρ))
  (hL : ∀ k i, L (k + 1) i = if decide (i < (p.length : Int)) = true then (rd? p i).bind fun u => if t u = true then some (.ret (g i u)) else L k (IntKind.i64.wrap (i + 1)) else some (.go ())) :
  ∀ (k i : Nat), i ≤ p.length → p.length - i < k → L k i = (match (p.drop i).findIdx? t with | some j => (p[i + j]?).map fun u => .ret (g ((i + j : Nat) : Int) u) | none => some (.go ())) := by
 intro k
 induction k with
 | zero => intro i _ h; omega
 | succ k ih =>
  intro i hi hk
  rw [hL]
  by_cases h : i < p.length
  ·rw [if_pos (by simpa using h), rd?_at h, List.drop_eq_getElem_cons h, List.findIdx?_cons]
   simp only [Option.bind_some]
   cases ht : t p[i] with
   | true => simp [h]
   | false =>
    rw [if_neg (by simp), yw i (by unfold big at hp; omega), ih (i + 1) h (by omega)]
    simp only [Bool.false_eq_true, if_false]
    cases hf : (p.drop (i + 1)).findIdx? t with
    | none => rfl
    | some j => simp only [Option.map_some]; rw [show i + 1 + j = i + (j + 1) by omega]
  ·rw [if_neg (by simpa using h), List.drop_eq_nil_of_le (by omega)]
   rfl
theorem all_loop {α ρ : Type} (p : List α) (hp : p.length ≤ big) (t : α → Bool) (c : ρ) (L : Nat → Int → Option (Lo Unit ρ))
  (hL : ∀ k i, L (k + 1) i = if decide (i < (p.length : Int)) = true then (rd? p i).bind fun u => if t u = true then some (.ret c) else L k (IntKind.i64.wrap (i + 1)) else some (.go ())) :
  ∀ (k i : Nat), i ≤ p.length → p.length - i < k → L k i = some (if (p.drop i).any t then .ret c else .go ()) := by
 intro k
 induction k with
 | zero => intro i _ h; omega
 | succ k ih =>
  intro i hi hk
  rw [hL]
  by_cases h : i < p.length
  ·rw [if_pos (by simpa using h), rd?_at h, List.drop_eq_getElem_cons h, List.any_cons]
   simp only [Option.bind_some]
   cases ht : t p[i] with
   | true => simp
   | false =>
    rw [if_neg (by simp), yw i (by unfold big at hp; omega), ih (i + 1) h (by omega), Bool.false_or]
  ·rw [if_neg (by simpa using h), List.drop_eq_nil_of_le (by omega)]
   rfl
theorem eq_loop {α : Type} [DecidableEq α] [BEq α] [LawfulBEq α] (p q : List α) (hl : p.length = q.length) (hp : p.length ≤ big) (L : Nat → Int → Option (Lo Unit Bool))
  (hL : ∀ k i, L (k + 1) i = if decide (i < (p.length : Int)) = true then (rd? p i).bind fun u => (rd? q i).bind fun v => if (u != v) = true then some (.ret false) else L k (IntKind.i64.wrap (i + 1)) else some (.go ())) :
  ∀ (k i : Nat), i ≤ p.length → p.length - i < k → L k i = some (if p.drop i = q.drop i then .go () else .ret false) := by
 intro k
 induction k with
 | zero => intro i _ h; omega
 | succ k ih =>
  intro i hi hk
  rw [hL]
  by_cases h : i < p.length
  ·have h' : i < q.length := by omega
   rw [if_pos (by simpa using h), rd?_at h]
   simp only [Option.bind_some]
   rw [rd?_at h', List.drop_eq_getElem_cons (l := p) h, List.drop_eq_getElem_cons (l := q) h']
   simp only [Option.bind_some]
   by_cases he : p[i] = q[i]
   ·have e : (p[i] :: p.drop (i + 1) = q[i] :: q.drop (i + 1)) ↔ (p.drop (i + 1) = q.drop (i + 1)) := ⟨fun h => (List.cons.inj h).2, fun h => by rw [he, h]⟩
    rw [if_neg (by simp [he]), yw i (by unfold big at hp; omega), ih (i + 1) h (by omega)]
    simp only [e]
   ·have e : ¬ (p[i] :: p.drop (i + 1) = q[i] :: q.drop (i + 1)) := fun h => he (List.cons.inj h).1
    rw [if_pos (by simpa using he), if_neg e]
  ·rw [if_neg (by simpa using h), List.drop_eq_nil_of_le (by omega), List.drop_eq_nil_of_le (by omega)]
   rfl
theorem eq_all {α : Type} [DecidableEq α] [BEq α] [LawfulBEq α] (p q : List α) (hp : p.length ≤ big) (L : Nat → Int → Option (Lo Unit Bool)) (n : Nat) (hn : p.length < n)
  (hL : p.length = q.length → ∀ k i, L (k + 1) i = if decide (i < (p.length : Int)) = true then (rd? p i).bind fun u => (rd? q i).bind fun v => if (u != v) = true then some (.ret false) else L k (IntKind.i64.wrap (i + 1)) else some (.go ())) :
  (if ((p.length : Int) != (q.length : Int)) = true then some false else (L n 0).bind fun (o : Lo Unit Bool) => match o with | .go () => some true | .ret z => some z) = some (decide (p = q)) := by
 by_cases hl : p.length = q.length
 ·rw [if_neg (by simp [hl])]
  have := eq_loop p q hl hp L (hL hl) n 0 (by omega) (by omega)
  rw [show ((0 : Nat) : Int) = 0 from rfl] at this
  rw [this]
  by_cases he : p = q <;> simp [he]
 ·rw [if_pos (by simp; omega)]
  have : p ≠ q := fun e => hl (by rw [e])
  simp [this]
def sumW {α : Type} (w : α → Int) : List α → Int
 | [] => 0
 | u :: us => w u + sumW w us
theorem sumW_pos {α : Type} {w : α → Int} : ∀ {us : List α}, (∀ u ∈ us, 0 ≤ w u) → 0 ≤ sumW w us
 | [], _ => Int.le_refl _
 | u :: us, h => by
  have h1 := h u (by simp)
  have h2 := sumW_pos fun v hv => h v (List.mem_cons_of_mem _ hv)
  unfold sumW
  omega
theorem sumW_mem {α : Type} {w : α → Int} : ∀ {us : List α}, (∀ u ∈ us, 0 ≤ w u) → ∀ u ∈ us, w u ≤ sumW w us
 | [], _, u, hu => by cases hu
 | v :: us, h, u, hu => by
  have h1 := h v (by simp)
  have h2 := sumW_pos fun v hv => h v (List.mem_cons_of_mem _ hv)
  unfold sumW
  rcases List.mem_cons.1 hu with rfl | hu
  ·omega
  ·have := sumW_mem (fun v hv => h v (List.mem_cons_of_mem _ hv)) u hu
   omega
end Go.Proofs.GL

