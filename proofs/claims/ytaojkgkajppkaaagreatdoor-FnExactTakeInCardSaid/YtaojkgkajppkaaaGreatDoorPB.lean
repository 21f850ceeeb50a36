/- A logic of what is known of memory, over the kit's weakest preconditions: one part. No conditions: lemmas. -/
import Derived.Test.YtaojkgkajppkaaaGreatDoorGLR
set_option linter.unusedVariables false
set_option linter.unusedSimpArgs false
namespace Go.Proofs.GL
open Go
theorem yv {n : Int} (h0 : -9223372036854775808 ≤ n) (h1 : n < 9223372036854775808) : IntKind.i64.wrap n = n := by rw [IntKind.wrap_i64]; omega
theorem wrapN (i : Nat) (h : i < 9223372036854775807) : IntKind.i64.wrap ((i : Int) + 1) = ((i + 1 : Nat) : Int) := by rw [yv (by omega) (by omega)]; omega
theorem rd?_at {α : Type} {xs : List α} {i : Nat} (h : i < xs.length) : rd? xs (i : Int) = some xs[i] := by
  unfold rd?
  rw [if_pos (Int.natCast_nonneg i), Int.toNat_natCast, List.getElem?_eq_getElem h]
theorem st?_at {α : Type} {xs : List α} {i : Nat} (x : α) (h : i < xs.length) : st? xs (i : Int) x = some (xs.set i x) := by
  unfold st?
  rw [if_pos (by omega), Int.toNat_natCast]
theorem app?_at {α : Type} {n : Nat} {xs ys : List α} (h : xs.length + ys.length ≤ n) : app? n xs ys = some (xs ++ ys) := by
  unfold app?
  rw [if_pos h]
theorem mk?_at {α : Type} {n k : Nat} {x : α} (h : k ≤ n) : mk? n x (k : Int) = some (List.replicate k x) := by
  unfold mk?
  rw [if_pos (by omega), Int.toNat_natCast]
theorem cut?_at {α : Type} {xs : List α} {a b : Nat} (h1 : a ≤ b) (h2 : b ≤ xs.length) : cut? xs (a : Int) (b : Int) = some ((xs.take b).drop a) := by
  unfold cut?
  rw [if_pos (by omega), Int.toNat_natCast, Int.toNat_natCast]
abbrev big : Nat := 17592186044416
theorem scan_loop {α ρ : Type} (p : List α) (hp : p.length ≤ big) (t : α → Bool) (g : Int → α → ρ) (L : Nat → Int → Option (Lo Unit ρ))
    (hL : ∀ k i, L (k + 1) i = if decide (i < (p.length : Int)) = true then (rd? p i).bind fun u => if t u = true then some (.ret (g i u)) else L k (IntKind.i64.wrap (i + 1)) else some (.go ())) :
    ∀ (k i : Nat), i ≤ p.length → p.length - i < k → L k i = (match (p.drop i).findIdx? t with | some j => (p[i + j]?).map fun u => .ret (g ((i + j : Nat) : Int) u) | none => some (.go ())) := by
  intro k
  induction k with
  | zero => intro i _ h; omega
  | succ k ih =>
    intro i hi hk
    rw [hL]
    by_cases h : i < p.length
    · rw [if_pos (by simpa using h), rd?_at h, List.drop_eq_getElem_cons h, List.findIdx?_cons]
      simp only [Option.bind_some]
      cases ht : t p[i] with
      | true => simp [h]
      | false =>
        rw [if_neg (by simp), wrapN i (by unfold big at hp; omega), ih (i + 1) h (by omega)]
        simp only [Bool.false_eq_true, if_false]
        cases hf : (p.drop (i + 1)).findIdx? t with
        | none => rfl
        | some j => simp only [Option.map_some]; rw [show i + 1 + j = i + (j + 1) by omega]
    · rw [if_neg (by simpa using h), List.drop_eq_nil_of_le (by omega)]
      rfl
theorem all_loop {α ρ : Type} (p : List α) (hp : p.length ≤ big) (t : α → Bool) (c : ρ) (L : Nat → Int → Option (Lo Unit ρ))
    (hL : ∀ k i, L (k + 1) i = if decide (i < (p.length : Int)) = true then (rd? p i).bind fun u => if t u = true then some (.ret c) else L k (IntKind.i64.wrap (i + 1)) else some (.go ())) :
    ∀ (k i : Nat), i ≤ p.length → p.length - i < k → L k i = some (if (p.drop i).any t then .ret c else .go ()) := by
  intro k
  induction k with
  | zero => intro i _ h; omega
  | succ k ih =>
    intro i hi hk
    rw [hL]
    by_cases h : i < p.length
    · rw [if_pos (by simpa using h), rd?_at h, List.drop_eq_getElem_cons h, List.any_cons]
      simp only [Option.bind_some]
      cases ht : t p[i] with
      | true => simp
      | false =>
        rw [if_neg (by simp), wrapN i (by unfold big at hp; omega), ih (i + 1) h (by omega), Bool.false_or]
    · rw [if_neg (by simpa using h), List.drop_eq_nil_of_le (by omega)]
      rfl
def runS {α σ ρ : Type} (step : σ → α → (σ → Option ρ) → Option ρ) (fin : σ → Option ρ) : List α → σ → Option ρ
  | [], s => fin s
  | u :: us, s => step s u fun s' => runS step fin us s'
theorem run_loop {α σ ρ : Type} (p : List α) (hp : p.length ≤ big) (step : σ → α → (σ → Option ρ) → Option ρ) (fin : σ → Option ρ) (L : Nat → σ → Int → Option ρ)
    (hL : ∀ k s i, L (k + 1) s i = if decide (i < (p.length : Int)) = true then (rd? p i).bind fun u => step s u fun s' => L k s' (IntKind.i64.wrap (i + 1)) else fin s) :
    ∀ (k i : Nat) (s : σ), i ≤ p.length → p.length - i < k → L k s i = runS step fin (p.drop i) s := by
  intro k
  induction k with
  | zero => intro i s _ h; omega
  | succ k ih =>
    intro i s hi hk
    rw [hL]
    by_cases h : i < p.length
    · rw [if_pos (by simpa using h), rd?_at h, List.drop_eq_getElem_cons h]
      simp only [Option.bind_some, runS]
      congr 1
      funext s'
      rw [wrapN i (by unfold big at hp; omega)]
      exact ih (i + 1) s' h (by omega)
    · rw [if_neg (by simpa using h), List.drop_eq_nil_of_le (by omega)]
      rfl
theorem runS_fold {α σ ρ : Type} (f : σ → α → σ) (fin : σ → Option ρ) : ∀ (us : List α) (s : σ), runS (fun s u K => K (f s u)) fin us s = fin (us.foldl f s)
  | [], s => rfl
  | u :: us, s => by
    show runS _ fin us (f s u) = _
    rw [runS_fold f fin us]; rfl
theorem eq_loop {α : Type} [DecidableEq α] [BEq α] [LawfulBEq α] (p q : List α) (hl : p.length = q.length) (hp : p.length ≤ big) (L : Nat → Int → Option (Lo Unit Bool))
    (hL : ∀ k i, L (k + 1) i = if decide (i < (p.length : Int)) = true then (rd? p i).bind fun u => (rd? q i).bind fun v => if (u != v) = true then some (.ret false) else L k (IntKind.i64.wrap (i + 1)) else some (.go ())) :
    ∀ (k i : Nat), i ≤ p.length → p.length - i < k → L k i = some (if p.drop i = q.drop i then .go () else .ret false) := by
  intro k
  induction k with
  | zero => intro i _ h; omega
  | succ k ih =>
    intro i hi hk
    rw [hL]
    by_cases h : i < p.length
    · have h' : i < q.length := by omega
      rw [if_pos (by simpa using h), rd?_at h]
      simp only [Option.bind_some]
      rw [rd?_at h', List.drop_eq_getElem_cons (l := p) h, List.drop_eq_getElem_cons (l := q) h']
      simp only [Option.bind_some]
      by_cases he : p[i] = q[i]
      · have e : (p[i] :: p.drop (i + 1) = q[i] :: q.drop (i + 1)) ↔ (p.drop (i + 1) = q.drop (i + 1)) := ⟨fun h => (List.cons.inj h).2, fun h => by rw [he, h]⟩
        rw [if_neg (by simp [he]), wrapN i (by unfold big at hp; omega), ih (i + 1) h (by omega)]
        simp only [e]
      · have e : ¬ (p[i] :: p.drop (i + 1) = q[i] :: q.drop (i + 1)) := fun h => he (List.cons.inj h).1
        rw [if_pos (by simpa using he), if_neg e]
    · rw [if_neg (by simpa using h), List.drop_eq_nil_of_le (by omega), List.drop_eq_nil_of_le (by omega)]
      rfl
theorem eq_all {α : Type} [DecidableEq α] [BEq α] [LawfulBEq α] (p q : List α) (hp : p.length ≤ big) (L : Nat → Int → Option (Lo Unit Bool)) (n : Nat) (hn : p.length < n)
    (hL : p.length = q.length → ∀ k i, L (k + 1) i = if decide (i < (p.length : Int)) = true then (rd? p i).bind fun u => (rd? q i).bind fun v => if (u != v) = true then some (.ret false) else L k (IntKind.i64.wrap (i + 1)) else some (.go ())) :
    (if ((p.length : Int) != (q.length : Int)) = true then some false else (L n 0).bind fun (o : Lo Unit Bool) => match o with | .go () => some true | .ret z => some z) = some (decide (p = q)) := by
  by_cases hl : p.length = q.length
  · rw [if_neg (by simp [hl])]
    have := eq_loop p q hl hp L (hL hl) n 0 (by omega) (by omega)
    rw [show ((0 : Nat) : Int) = 0 from rfl] at this
    rw [this]
    by_cases he : p = q <;> simp [he]
  · rw [if_pos (by simp; omega)]
    have : p ≠ q := fun e => hl (by rw [e])
    simp [this]
theorem copy_loop {α : Type} (p : List α) (hp : p.length ≤ big) (F : α → (α → Option (List α)) → Option (List α)) (hF : ∀ u ∈ p, ∀ K, F u K = K u) (L : Nat → List α → Int → Option (List α))
    (hL : ∀ k x i, L (k + 1) x i = if decide (i < (p.length : Int)) = true then (rd? p i).bind fun u => F u fun v => (rd? x i).bind fun _ => (st? x i v).bind fun x' => L k x' (IntKind.i64.wrap (i + 1)) else some x) :
    ∀ (k i : Nat) (x : List α), i ≤ p.length → p.length - i < k → x.length = p.length → x.take i = p.take i → L k x i = some p := by
  intro k
  induction k with
  | zero => intro i x _ h; omega
  | succ k ih =>
    intro i x hi hk hl ht
    rw [hL]
    by_cases h : i < p.length
    · rw [if_pos (by simpa using h), rd?_at h]
      simp only [Option.bind_some]
      rw [hF _ (List.getElem_mem h), rd?_at (by omega : i < x.length)]
      simp only [Option.bind_some]
      rw [st?_at p[i] (by omega : i < x.length)]
      simp only [Option.bind_some]
      rw [wrapN i (by unfold big at hp; omega)]
      refine ih (i + 1) _ h (by omega) (by simpa using hl) ?_
      rw [List.take_add_one, List.take_add_one, List.take_set_of_le (Nat.le_refl i), ht]
      simp [h, hl]
    · rw [if_neg (by simpa using h)]
      obtain rfl : i = p.length := by omega
      rw [List.take_length, ← hl, List.take_length] at ht
      rw [ht]
theorem copy_all {α : Type} (p : List α) (hp : p.length ≤ big) (F : α → (α → Option (List α)) → Option (List α)) (hF : ∀ u ∈ p, ∀ K, F u K = K u) (L : Nat → List α → Int → Option (List α)) (z : α) (n m : Nat) (hn : p.length < n) (hm : p.length ≤ m)
    (hL : ∀ k x i, L (k + 1) x i = if decide (i < (p.length : Int)) = true then (rd? p i).bind fun u => F u fun v => (rd? x i).bind fun _ => (st? x i v).bind fun x' => L k x' (IntKind.i64.wrap (i + 1)) else some x) :
    ((mk? m z (p.length : Int)).bind fun x => (L n x 0).bind fun (o : List α) => match o with | y => some y) = some p := by
  rw [mk?_at hm]
  simp only [Option.bind_some]
  have := copy_loop p hp F hF L hL n 0 (List.replicate p.length z) (by omega) (by omega) (by simp) (by simp)
  rw [show ((0 : Nat) : Int) = 0 from rfl] at this
  rw [this]
  rfl
theorem eqS_all {α : Type} [DecidableEq α] (p q : List α) (hp : p.length ≤ big) (E : α → α → Option Bool) (hE : ∀ u ∈ p, ∀ v, E u v = some (decide (u = v))) (L : Nat → Int → Option (Lo Unit Bool)) (n : Nat) (hn : p.length < n)
    (hL : ∀ k i, L (k + 1) i = if decide (i < (p.length : Int)) = true then (rd? p i).bind fun u => (rd? q i).bind fun v => (E u v).bind fun b => if (!b) = true then some (.ret false) else L k (IntKind.i64.wrap (i + 1)) else some (.go ())) :
    (if ((p.length : Int) != (q.length : Int)) = true then some false else (L n 0).bind fun (o : Lo Unit Bool) => match o with | .go () => some true | .ret z => some z) = some (decide (p = q)) := by
  by_cases hl : p.length = q.length
  · rw [if_neg (by simp [hl])]
    have key : ∀ (k i : Nat), i ≤ p.length → p.length - i < k → L k i = some (if p.drop i = q.drop i then .go () else .ret false) := by
      intro k
      induction k with
      | zero => intro i _ h; omega
      | succ k ih =>
        intro i hi hk
        rw [hL]
        by_cases h : i < p.length
        · have h' : i < q.length := by omega
          rw [if_pos (by simpa using h), rd?_at h]
          simp only [Option.bind_some]
          rw [rd?_at h', List.drop_eq_getElem_cons (l := p) h, List.drop_eq_getElem_cons (l := q) h']
          simp only [Option.bind_some]
          rw [hE _ (List.getElem_mem h)]
          simp only [Option.bind_some]
          by_cases he : p[i] = q[i]
          · have e : (p[i] :: p.drop (i + 1) = q[i] :: q.drop (i + 1)) ↔ (p.drop (i + 1) = q.drop (i + 1)) := ⟨fun h => (List.cons.inj h).2, fun h => by rw [he, h]⟩
            rw [if_neg (by simp [he]), wrapN i (by unfold big at hp; omega), ih (i + 1) h (by omega)]
            simp only [e]
          · have e : ¬ (p[i] :: p.drop (i + 1) = q[i] :: q.drop (i + 1)) := fun h => he (List.cons.inj h).1
            rw [if_pos (by simpa using he), if_neg e]
        · rw [if_neg (by simpa using h), List.drop_eq_nil_of_le (by omega), List.drop_eq_nil_of_le (by omega)]
          rfl
    have := key n 0 (by omega) (by omega)
    rw [show ((0 : Nat) : Int) = 0 from rfl] at this
    rw [this]
    by_cases he : p = q <;> simp [he]
  · rw [if_pos (by simp; omega)]
    have : p ≠ q := fun e => hl (by rw [e])
    simp [this]
def sumW {α : Type} (w : α → Int) : List α → Int
  | [] => 0
  | u :: us => w u + sumW w us
theorem sumW_pos {α : Type} {w : α → Int} : ∀ {us : List α}, (∀ u ∈ us, 0 ≤ w u) → 0 ≤ sumW w us
  | [], _ => Int.le_refl _
  | u :: us, h => by
    have h1 := h u (by simp)
    have h2 := sumW_pos fun v hv => h v (List.mem_cons_of_mem _ hv)
    unfold sumW
    omega
theorem sumW_mem {α : Type} {w : α → Int} : ∀ {us : List α}, (∀ u ∈ us, 0 ≤ w u) → ∀ u ∈ us, w u ≤ sumW w us
  | [], _, u, hu => by cases hu
  | v :: us, h, u, hu => by
    have h1 := h v (by simp)
    have h2 := sumW_pos fun v hv => h v (List.mem_cons_of_mem _ hv)
    unfold sumW
    rcases List.mem_cons.1 hu with rfl | hu
    · omega
    · have := sumW_mem (fun v hv => h v (List.mem_cons_of_mem _ hv)) u hu
      omega
theorem sz_loop {α : Type} (p : List α) (hp : p.length ≤ big) (Z : α → Int → Option Int) (w : α → Int) (hZ : ∀ u ∈ p, ∀ n, 0 ≤ n → n ≤ 1048576 → ∃ r, Z u n = some r ∧ (r < 0 ∨ 0 ≤ r ∧ r + w u ≤ n)) (hw : ∀ u ∈ p, 0 ≤ w u) (L : Nat → Int → Int → Option (Lo Int Int))
    (hL : ∀ k n i, L (k + 1) n i = if decide (i < (p.length : Int)) = true then (rd? p i).bind fun u => (Z u n).bind fun r => if decide (r < 0) = true then some (.ret (-1)) else L k r (IntKind.i64.wrap (i + 1)) else some (.go n)) :
    ∀ (k i : Nat) (n : Int), i ≤ p.length → p.length - i < k → 0 ≤ n → n ≤ 1048576 → ∃ o, L k n i = some o ∧ (o = .ret (-1) ∨ ∃ r, o = .go r ∧ 0 ≤ r ∧ r + sumW w (p.drop i) ≤ n) := by
  intro k
  induction k with
  | zero => intro i n _ h; omega
  | succ k ih =>
    intro i n hi hk h0 h1
    rw [hL]
    by_cases h : i < p.length
    · rw [if_pos (by simpa using h), rd?_at h]
      simp only [Option.bind_some]
      obtain ⟨r, e, hr⟩ := hZ _ (List.getElem_mem h) n h0 h1
      have hwu := hw _ (List.getElem_mem h)
      rw [e]
      simp only [Option.bind_some]
      by_cases hr0 : r < 0
      · rw [if_pos (by simpa using hr0)]; exact ⟨_, rfl, .inl rfl⟩
      · rw [if_neg (by simpa using hr0), wrapN i (by unfold big at hp; omega)]
        rcases hr with hr | ⟨a1, a2⟩
        · exact absurd hr hr0
        obtain ⟨o, e2, ho⟩ := ih (i + 1) r h (by omega) a1 (by omega)
        refine ⟨o, e2, ho.imp id fun ⟨q, b1, b2, b3⟩ => ⟨q, b1, b2, ?_⟩⟩
        rw [List.drop_eq_getElem_cons h]
        unfold sumW
        omega
    · rw [if_neg (by simpa using h), List.drop_eq_nil_of_le (by omega)]
      exact ⟨_, rfl, .inr ⟨n, rfl, h0, by simp [sumW]⟩⟩
theorem sz_all {α : Type} (p : List α) (hp : p.length ≤ maxN) (n : Int) (h0 : 0 ≤ n) (h1 : n ≤ 1048576) (Z : α → Int → Option Int) (w : α → Int) (hZ : ∀ u ∈ p, ∀ n, 0 ≤ n → n ≤ 1048576 → ∃ r, Z u n = some r ∧ (r < 0 ∨ 0 ≤ r ∧ r + w u ≤ n)) (hw : ∀ u ∈ p, 0 ≤ w u) (L : Nat → Int → Int → Option (Lo Int Int)) (m : Nat) (hm : p.length < m)
    (hL : ∀ k n i, L (k + 1) n i = if decide (i < (p.length : Int)) = true then (rd? p i).bind fun u => (Z u n).bind fun r => if decide (r < 0) = true then some (.ret (-1)) else L k r (IntKind.i64.wrap (i + 1)) else some (.go n)) :
    ∃ r, (if (decide ((IntKind.i64.wrap (n - (p.length : Int))) < 0)) = true then (some (-1)) else ((L m (IntKind.i64.wrap (n - (p.length : Int))) 0).bind fun (o : Lo Int Int) => match o with | .go x48 => (some x48) | .ret z => some z)) = some r ∧ (r < 0 ∨ 0 ≤ r ∧ r + (p.length + sumW w p) ≤ n) := by
  unfold maxN at hp
  rw [yv (by omega) (by omega)]
  by_cases h : n - (p.length : Int) < 0
  · rw [if_pos (by simpa using h)]; exact ⟨_, rfl, .inl (by decide)⟩
  · rw [if_neg (by simpa using h)]
    obtain ⟨o, e, ho⟩ := sz_loop p (by unfold big; omega) Z w hZ hw L hL m 0 (n - p.length) (by omega) (by omega) (by omega) (by omega)
    rw [show ((0 : Nat) : Int) = 0 from rfl] at e
    rw [e]
    simp only [Option.bind_some]
    rcases ho with rfl | ⟨r, rfl, a1, a2⟩
    · exact ⟨_, rfl, .inl (by decide)⟩
    · rw [List.drop_zero] at a2
      exact ⟨_, rfl, .inr ⟨a1, by omega⟩⟩
end Go.Proofs.GL

