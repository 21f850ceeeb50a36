/- A logic of what is known of memory, over the kit's weakest preconditions: one part. No conditions: lemmas. -/
import Derived.Test.YtbeolahmnoeicaaGreatDoorGLR
set_option linter.unusedVariables false
set_option linter.unusedSimpArgs false
namespace Go.Proofs.GL
open Go
theorem wrapS {n : Int} (h0 : -9223372036854775808 ≤ n) (h1 : n < 9223372036854775808) : IntKind.i64.wrap n = n := by rw [IntKind.wrap_i64]; omega
theorem wrapN (i : Nat) (h : i < 9223372036854775807) : IntKind.i64.wrap ((i : Int) + 1) = ((i + 1 : Nat) : Int) := by rw [wrapS (by omega) (by omega)]; omega
theorem rd?_at {α : Type} {xs : List α} {i : Nat} (h : i < xs.length) : rd? xs (i : Int) = some xs[i] := by
 unfold rd?
 rw [if_pos (Int.natCast_nonneg i), Int.toNat_natCast, List.getElem?_eq_getElem h]
theorem st?_at {α : Type} {xs : List α} {i : Nat} (x : α) (h : i < xs.length) : st? xs (i : Int) x = some (xs.set i x) := by
 unfold st?
 rw [if_pos (by omega), Int.toNat_natCast]
theorem app?_at {α : Type} {n : Nat} {xs ys : List α} (h : xs.length + ys.length ≤ n) : app? n xs ys = some (xs ++ ys) := by
 unfold app?
 rw [if_pos h]
theorem cut?_at {α : Type} {xs : List α} {a b : Nat} (h1 : a ≤ b) (h2 : b ≤ xs.length) : cut? xs (a : Int) (b : Int) = some ((xs.take b).drop a) := by
 unfold cut?
 rw [if_pos (by omega), Int.toNat_natCast, Int.toNat_natCast]
abbrev big : Nat := 17592186044416
theorem scan_loop {α ρ : Type} (p : List α) (hp : p.length ≤ big) (t : α → Bool) (g : Int → α → ρ) (L : Nat → Int → Option (Lo Unit ρ))
  (hL : ∀ k i, L (k + 1) i = if decide (i < (p.length : Int)) = true then (rd? p i).bind fun u => if t u = true then some (.ret (g i u)) else L k (IntKind.i64.wrap (i + 1)) else some (.go ())) :
  ∀ (k i : Nat), i ≤ p.length → p.length - i < k → L k i = (match (p.drop i).findIdx? t with | some j => (p[i + j]?).map fun u => .ret (g ((i + j : Nat) : Int) u) | none => some (.go ())) := by
 intro k
 induction k with
 | zero => intro i _ h; omega
 | succ k ih =>
  intro i hi hk
  rw [hL]
  by_cases h : i < p.length
  ·rw [if_pos (by simpa using h), rd?_at h, List.drop_eq_getElem_cons h, List.findIdx?_cons]
   simp only [Option.bind_some]
   cases ht : t p[i] with
   | true => simp [h]
   | false =>
    rw [if_neg (by simp), wrapN i (by unfold big at hp; omega), ih (i + 1) h (by omega)]
    simp only [Bool.false_eq_true, if_false]
    cases hf : (p.drop (i + 1)).findIdx? t with
    | none => rfl
    | some j => simp only [Option.map_some]; rw [show i + 1 + j = i + (j + 1) by omega]
  ·rw [if_neg (by simpa using h), List.drop_eq_nil_of_le (by omega)]
   rfl
theorem all_loop {α ρ : Type} (p : List α) (hp : p.length ≤ big) (t : α → Bool) (c : ρ) (L : Nat → Int → Option (Lo Unit ρ))
  (hL : ∀ k i, L (k + 1) i = if decide (i < (p.length : Int)) = true then (rd? p i).bind fun u => if t u = true then some (.ret c) else L k (IntKind.i64.wrap (i + 1)) else some (.go ())) :
  ∀ (k i : Nat), i ≤ p.length → p.length - i < k → L k i = some (if (p.drop i).any t then .ret c else .go ()) := by
 intro k
 induction k with
 | zero => intro i _ h; omega
 | succ k ih =>
  intro i hi hk
  rw [hL]
  by_cases h : i < p.length
  ·rw [if_pos (by simpa using h), rd?_at h, List.drop_eq_getElem_cons h, List.any_cons]
   simp only [Option.bind_some]
   cases ht : t p[i] with
   | true => simp
   | false =>
    rw [if_neg (by simp), wrapN i (by unfold big at hp; omega), ih (i + 1) h (by omega), Bool.false_or]
  ·rw [if_neg (by simpa using h), List.drop_eq_nil_of_le (by omega)]
   rfl
def sumW {α : Type} (w : α → Int) : List α → Int
 | [] => 0
 | u :: us => w u + sumW w us
theorem sumW_pos {α : Type} {w : α → Int} : ∀ {us : List α}, (∀ u ∈ us, 0 ≤ w u) → 0 ≤ sumW w us
 | [], _ => Int.le_refl _
 | u :: us, h => by
  have h1 := h u (by simp)
  have h2 := sumW_pos fun v hv => h v (List.mem_cons_of_mem _ hv)
  unfold sumW
  omega
theorem sumW_mem {α : Type} {w : α → Int} : ∀ {us : List α}, (∀ u ∈ us, 0 ≤ w u) → ∀ u ∈ us, w u ≤ sumW w us
 | [], _, u, hu => by cases hu
 | v :: us, h, u, hu => by
  have h1 := h v (by simp)
  have h2 := sumW_pos fun v hv => h v (List.mem_cons_of_mem _ hv)
  unfold sumW
  rcases List.mem_cons.1 hu with rfl | hu
  ·omega
  ·have := sumW_mem (fun v hv => h v (List.mem_cons_of_mem _ hv)) u hu
   omega
def mAll {α : Type} (m : α → Int → Int × α) : List α → Int → Int × List α
 | [], c => (c, [])
 | u :: us, c => ((mAll m us (m u c).1).1, (m u c).2 :: (mAll m us (m u c).1).2)
theorem mAll_len {α : Type} (m : α → Int → Int × α) : ∀ (us : List α) (c : Int), (mAll m us c).2.length = us.length
 | [], c => rfl
 | u :: us, c => by simp [mAll, mAll_len m us]
theorem mark_loop {α : Type} (n : Nat) (hn : n ≤ big) (m : α → Int → Int × α) (Good : List α → Int → Prop) (hG : ∀ u us c, Good (u :: us) c → Good us (m u c).1) (L : Nat → List α → Int → Int → Option (Int × List α)) (M : List α → Int → Int → (List α → Int → Option (Int × List α)) → Option (Int × List α))
  (hM : ∀ (pre : List α) (u : α) (us : List α) (c : Int) K, Good (u :: us) c → M (pre ++ u :: us) c pre.length K = K (pre ++ (m u c).2 :: us) (m u c).1)
  (hL : ∀ k x c i, L (k + 1) x c i = if decide (i < (n : Int)) = true then M x c i fun x' c' => L k x' c' (IntKind.i64.wrap (i + 1)) else some (c, x)) :
  ∀ (us pre : List α) (c : Int) (k : Nat), pre.length + us.length = n → us.length < k → Good us c → L k (pre ++ us) c pre.length = some ((mAll m us c).1, pre ++ (mAll m us c).2) := by
 intro us
 induction us with
 | nil =>
  intro pre c k hl hk _
  obtain ⟨k, rfl⟩ := Nat.exists_eq_succ_of_ne_zero (show k ≠ 0 by omega)
  rw [hL, if_neg (by simp at hl ⊢; omega)]
  rfl
 | cons u us ih =>
  intro pre c k hl hk hg
  obtain ⟨k, rfl⟩ := Nat.exists_eq_succ_of_ne_zero (show k ≠ 0 by omega)
  simp only [List.length_cons] at hl hk
  rw [hL, if_pos (by simp; omega), hM pre u us c _ hg, wrapN _ (by unfold big at hn; omega)]
  have := ih (pre ++ [(m u c).2]) (m u c).1 k (by simp; omega) (by omega) (hG u us c hg)
  simp only [List.length_append, List.length_cons, List.length_nil, Nat.zero_add, List.append_assoc, List.cons_append, List.nil_append] at this
  rw [this]
  rfl
theorem held_loop {α : Type} (n : Nat) (hn : n ≤ big) (m : α → Int → Int × α) (Good : List α → Int → Prop) (hG : ∀ u us c, Good (u :: us) c → Good us (m u c).1) (L : List α → Nat → Int → Int → Option (Lo Int Int)) (M : List α → Int → Int → (Int → Option (Lo Int Int)) → Option (Lo Int Int))
  (hM : ∀ (pre post : List α) (u : α) (us : List α) (c : Int) K, Good (u :: us) c → M (pre ++ (m u c).2 :: post) c pre.length K = K (m u c).1)
  (hL : ∀ p k c i, L p (k + 1) c i = if decide (i < (p.length : Int)) = true then M p c i fun c' => L p k c' (IntKind.i64.wrap (i + 1)) else some (.go c)) :
  ∀ (us pre : List α) (c : Int) (k : Nat), pre.length + us.length ≤ n → us.length < k → Good us c → L (pre ++ (mAll m us c).2) k c pre.length = some (.go (mAll m us c).1) := by
 intro us
 induction us with
 | nil =>
  intro pre c k hl hk _
  obtain ⟨k, rfl⟩ := Nat.exists_eq_succ_of_ne_zero (show k ≠ 0 by omega)
  rw [hL, if_neg (by simp [mAll])]
  rfl
 | cons u us ih =>
  intro pre c k hl hk hg
  obtain ⟨k, rfl⟩ := Nat.exists_eq_succ_of_ne_zero (show k ≠ 0 by omega)
  simp only [List.length_cons] at hl hk
  have e : (mAll m (u :: us) c).2 = (m u c).2 :: (mAll m us (m u c).1).2 := rfl
  rw [e, hL, if_pos (by simp; omega), hM pre _ u us c _ hg, wrapN _ (by unfold big at hn; omega)]
  have := ih (pre ++ [(m u c).2]) (m u c).1 k (by simp; omega) (by omega) (hG u us c hg)
  simp only [List.length_append, List.length_cons, List.length_nil, Nat.zero_add, List.append_assoc, List.cons_append, List.nil_append] at this
  rw [this]
  rfl
end Go.Proofs.GL

