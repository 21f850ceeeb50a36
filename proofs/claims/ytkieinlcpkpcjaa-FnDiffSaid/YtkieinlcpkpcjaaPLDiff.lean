/- Plain laws of the printed functions. Conditions as each lemma says. -/
import Derived.Test.YtkieinlcpkpcjaaPB
import Derived.Test.YtkieinlcpkpcjaaWLDiff4
set_option linter.unusedVariables false
set_option linter.unusedSimpArgs false
namespace Go.Proofs.Ytkieinlcpkpcjaa
open Go Go.Proofs.GL
theorem p_mostT (a b : Int) : spec_l1Most.f a b = some (max a b) := by
  unfold spec_l1Most.f
  by_cases h : a > b
  · rw [if_pos (by simpa using h), Int.max_eq_left (by omega)]
  · rw [if_neg (by simpa using h), Int.max_eq_right (by omega)]
theorem p_com2 (a b : List Int) (i : Int) : ∀ (k : Nat) (t : List (List Int)) (j : Int), impl_commons.l2 a b i k t j = spec_l15Common.l2 a b i k t j := by
  intro k
  induction k with
  | zero => intro t j; rfl
  | succ k ih =>
    intro t j
    rw [impl_commons.l2, spec_l15Common.l2]
    simp only [p_mostT, Option.bind_some, ih]
theorem p_com1 (a b : List Int) : ∀ (k : Nat) (t : List (List Int)) (j : Int), impl_commons.l1 a b k t j = spec_l15Common.l1 a b k t j := by
  intro k
  induction k with
  | zero => intro t j; rfl
  | succ k ih =>
    intro t j
    rw [impl_commons.l1, spec_l15Common.l1]
    simp only [p_com2, ih]
theorem p_com (a b : List Int) : impl_commons.f a b = spec_l15Common.f a b := by
  unfold impl_commons.f spec_l15Common.f
  simp only [p_com1]
/-- The rows from i on are there. -/
def Tab (i n m : Nat) (t : List (List Int)) : Prop := t.length = n + 1 ∧ ∀ r, i ≤ r → r ≤ n → ∃ row, t[r]? = some row ∧ row.length = m + 1
theorem Tab.set {i n m : Nat} {t : List (List Int)} (T : Tab i n m t) {r : Nat} (row : List Int) (h : row.length = m + 1) : Tab i n m (t.set r row) := by
  refine ⟨by simpa using T.1, fun q h1 h2 => ?_⟩
  obtain ⟨x, e1, e2⟩ := T.2 q h1 h2
  by_cases hq : r = q
  · subst hq
    have := (List.getElem?_eq_some_iff.1 e1).1
    exact ⟨row, by rw [List.getElem?_set_self this], h⟩
  · exact ⟨x, by rw [List.getElem?_set_ne hq]; exact e1, e2⟩
theorem rd?_get {α : Type} {xs : List α} {i : Nat} {x : α} (h : xs[i]? = some x) : rd? xs (i : Int) = some x := by
  obtain ⟨h1, h2⟩ := List.getElem?_eq_some_iff.1 h
  rw [rd?_at h1, h2]
theorem p_com2_ok (a b : List Int) (ha : a.length ≤ 1000) (hb : b.length ≤ 1000) (i : Nat) (hi : i ≤ a.length) : ∀ (k q : Nat) (t : List (List Int)), q ≤ b.length → q < k → Tab i a.length b.length t → ∃ t', spec_l15Common.l2 a b i k t ((q : Int) - 1) = some t' ∧ Tab i a.length b.length t' := by
  intro k
  induction k with
  | zero => intro q _ _ h; omega
  | succ k ih =>
    intro q t hq hk T
    rw [spec_l15Common.l2]
    cases q with
    | zero =>
      have c1 : decide (((0 : Nat) : Int) - 1 ≥ 0) = false := by decide
      simp only [c1, Bool.false_eq_true, if_false, Option.bind_some]
      exact ⟨t, rfl, T⟩
    | succ p =>
      have e1 : ((p + 1 : Nat) : Int) - 1 = (p : Int) := by omega
      rw [e1]
      have c1 : decide ((p : Int) ≥ 0) = true := by simp
      simp only [c1, if_true, Option.bind_some]
      by_cases hl : i < a.length
      · have c2 : decide ((i : Int) < (a.length : Int)) = true := by simpa using hl
        simp only [c2, if_true]
        obtain ⟨r1, g1, l1⟩ := T.2 (i + 1) (by omega) (by omega)
        obtain ⟨r0, g0, l0⟩ := T.2 i (by omega) (by omega)
        have q1 : rd? t (((i + 1 : Nat)) : Int) = some r1 := rd?_get g1
        have q0 : rd? t (i : Int) = some r0 := rd?_get g0
        have s1 : rd? r1 (((p + 1 : Nat)) : Int) = some r1[p + 1] := rd?_at (by omega)
        have s2 : rd? r1 (p : Int) = some r1[p] := rd?_at (by omega)
        have s3 : rd? r0 (((p + 1 : Nat)) : Int) = some r0[p + 1] := rd?_at (by omega)
        have s4 : rd? r0 (p : Int) = some r0[p] := rd?_at (by omega)
        have s5 : ∀ v, st? r0 (p : Int) v = some (r0.set p v) := fun v => st?_at v (by omega)
        have s6 : ∀ v, st? t (i : Int) v = some (t.set i v) := fun v => st?_at v (by have := T.1; omega)
        have w1 := wrapN i (by omega)
        have w2 := wrapN p (by omega)
        have w3 : IntKind.i64.wrap ((p : Int) - 1) = (p : Int) - 1 := wrapS (by omega) (by omega)
        simp only [rd?_at hl, rd?_at (show p < b.length by omega), Option.bind_some, w1, w2, w3, q1, q0, s1, s2, s3, s4, s5, s6, p_mostT]
        split
        · exact ih p _ (by omega) (by omega) (T.set _ (by simpa using l0))
        · exact ih p _ (by omega) (by omega) (T.set _ (by simpa using l0))
      · have c2 : decide ((i : Int) < (a.length : Int)) = false := by simpa using hl
        simp only [c2, Bool.false_eq_true, if_false]
        exact ⟨t, rfl, T⟩
theorem p_com1_ok (a b : List Int) (ha : a.length ≤ 1000) (hb : b.length ≤ 1000) : ∀ (k q : Nat) (t : List (List Int)), q ≤ a.length + 1 → q < k → Tab q a.length b.length t → ∃ t', spec_l15Common.l1 a b k t ((q : Int) - 1) = some t' ∧ Tab 0 a.length b.length t' := by
  intro k
  induction k with
  | zero => intro q _ _ h; omega
  | succ k ih =>
    intro q t hq hk T
    rw [spec_l15Common.l1]
    cases q with
    | zero =>
      have c1 : decide (((0 : Nat) : Int) - 1 ≥ 0) = false := by decide
      simp only [c1, Bool.false_eq_true, if_false]
      exact ⟨t, rfl, T⟩
    | succ i =>
      have e1 : ((i + 1 : Nat) : Int) - 1 = (i : Int) := by omega
      rw [e1]
      have c1 : decide ((i : Int) ≥ 0) = true := by simp
      have w1 := wrapN b.length (by omega)
      have w2 : IntKind.i64.wrap ((b.length : Int) - 1) = (b.length : Int) - 1 := wrapS (by omega) (by omega)
      have w3 : IntKind.i64.wrap ((i : Int) - 1) = (i : Int) - 1 := wrapS (by omega) (by omega)
      have m1 : mk? 17592186044416 (0 : Int) (((b.length + 1 : Nat)) : Int) = some (List.replicate (b.length + 1) 0) := mk?_at (by omega)
      have hit : i < t.length := by have := T.1; omega
      have T' : Tab i a.length b.length (t.set i (List.replicate (b.length + 1) 0)) := by
        refine ⟨by simpa using T.1, fun r h1 h2 => ?_⟩
        by_cases hr : i = r
        · subst hr
          exact ⟨_, List.getElem?_set_self hit, by simp⟩
        · obtain ⟨x, g1, g2⟩ := T.2 r (by omega) h2
          exact ⟨x, by rw [List.getElem?_set_ne hr]; exact g1, g2⟩
      have hf : b.length < ((b.length : Int) - 1 - 0).toNat + 2 := by omega
      obtain ⟨t', g1, g2⟩ := p_com2_ok a b ha hb i (by omega) (((b.length : Int) - 1 - 0).toNat + 2) b.length _ (Nat.le_refl _) hf T'
      simp only [c1, if_true, w1, w2, w3, m1, Option.bind_some, rd?_at hit, st?_at _ hit, g1]
      exact ih i t' (by omega) (by omega) g2
theorem p_table (a b : List Int) (ha : a.length ≤ 1000) (hb : b.length ≤ 1000) : ∃ t, impl_commons.f a b = some t ∧ spec_l15Common.f a b = some t ∧ Tab 0 a.length b.length t := by
  rw [p_com]
  have w1 := wrapN a.length (by omega)
  have m1 : mk? 5864062014805 ([] : List Int) (((a.length + 1 : Nat)) : Int) = some (List.replicate (a.length + 1) []) := mk?_at (by omega)
  obtain ⟨t, g1, g2⟩ := p_com1_ok a b ha hb (((a.length : Int) - 0).toNat + 2) (a.length + 1) (List.replicate (a.length + 1) []) (Nat.le_refl _) (by omega) ⟨by simp, fun r h1 h2 => by omega⟩
  rw [show ((a.length + 1 : Nat) : Int) - 1 = (a.length : Int) by omega] at g1
  have : spec_l15Common.f a b = some t := by
    unfold spec_l15Common.f
    simp only [w1, m1, Option.bind_some, g1]
  exact ⟨t, this, this, g2⟩
def marks (k : Int) (n : Nat) : List Int := (List.range n).map fun i : Nat => k + i
theorem marks_len (k : Int) (n : Nat) : (marks k n).length = n := by simp [marks]
theorem marks_get (k : Int) (n i : Nat) (h : i < n) : (marks k n)[i]? = some (k + i) := by simp [marks, h]
def nxt (a : Int) : List Int → List Int → Int → List Int
  | x :: y :: ys, u :: us, r => min (if (u != r) = true then x + 1 else x) (min (y + 1) (a + 1)) :: nxt (min (if (u != r) = true then x + 1 else x) (min (y + 1) (a + 1))) (y :: ys) us r
  | _, _, _ => []
def inB (B : Int) (x : List Int) : Prop := ∀ e ∈ x, 0 ≤ e ∧ e ≤ B
theorem nxt_bd : ∀ (us row : List Int) (a B r : Int), inB B row → 0 ≤ a → inB (a + us.length) (nxt a row us r)
  | [], row, a, B, r, _, _ => by cases row with | nil => simp [nxt, inB] | cons x row => cases row <;> simp [nxt, inB]
  | u :: us, [], a, B, r, _, _ => by simp [nxt, inB]
  | u :: us, [x], a, B, r, _, _ => by simp [nxt, inB]
  | u :: us, x :: y :: ys, a, B, r, h, ha => by
    have hx := h x (by simp)
    have hy := h y (by simp)
    have hv : 0 ≤ min (if (u != r) = true then x + 1 else x) (min (y + 1) (a + 1)) ∧ min (if (u != r) = true then x + 1 else x) (min (y + 1) (a + 1)) ≤ a + 1 := by
      split <;> omega
    have ih := nxt_bd us (y :: ys) _ B r (fun e he => h e (List.mem_cons_of_mem _ he)) hv.1
    intro e he
    unfold nxt at he
    simp only [List.length_cons]
    rcases List.mem_cons.1 he with rfl | he
    · omega
    · have := ih e he
      omega
theorem nxt_len : ∀ (us row : List Int) (a r : Int), row.length = us.length + 1 → (nxt a row us r).length = us.length
  | [], [x], a, r, _ => rfl
  | [], [], a, r, h => by simp at h
  | [], x :: y :: ys, a, r, h => by simp at h
  | u :: us, [], a, r, h => by simp at h
  | u :: us, [x], a, r, h => by simp at h
  | u :: us, x :: y :: ys, a, r, h => by
    unfold nxt
    simp only [List.length_cons]
    rw [nxt_len us (y :: ys) _ r (by simpa using h)]
theorem marks_succ (k : Int) (n : Nat) : marks k (n + 1) = marks k n ++ [k + n] := by simp [marks, List.range_succ]
theorem marks_cons (k : Int) (n : Nat) : marks k (n + 1) = k :: marks (k + 1) n := by
  simp only [marks, List.range_succ_eq_map, List.map_cons, List.map_map]
  congr 1
  · simp
  · apply List.map_congr_left
    intro i _
    simp only [Function.comp_apply, Nat.succ_eq_add_one]
    omega
def lev : List Int → List Int → Int
  | [], b => b.length
  | x :: a, [] => (a.length : Int) + 1
  | x :: a, y :: b => min (lev a b + if x = y then 0 else 1) (min (lev (x :: a) b + 1) (lev a (y :: b) + 1))
termination_by a b => a.length + b.length
theorem lev_nl (b : List Int) : lev [] b = b.length := by rw [lev]
theorem lev_nr (a : List Int) : lev a [] = a.length := by
  cases a with
  | nil => rw [lev]
  | cons x a => rw [lev]; simp
theorem lev_cc (x : Int) (a : List Int) (y : Int) (b : List Int) : lev (x :: a) (y :: b) = min (lev a b + if x = y then 0 else 1) (min (lev (x :: a) b + 1) (lev a (y :: b) + 1)) := by rw [lev]
theorem lev_ind {P : List Int → List Int → Prop} (h1 : ∀ b, P [] b) (h2 : ∀ a, P a []) (h3 : ∀ x a y b, P a b → P (x :: a) b → P a (y :: b) → P (x :: a) (y :: b)) : ∀ a b, P a b := by
  have : ∀ n a b, a.length + b.length ≤ n → P a b := by
    intro n
    induction n with
    | zero => intro a b h; obtain rfl : a = [] := List.eq_nil_of_length_eq_zero (by omega); exact h1 b
    | succ n ih =>
      intro a b h
      cases a with
      | nil => exact h1 b
      | cons x a =>
        cases b with
        | nil => exact h2 _
        | cons y b =>
          simp only [List.length_cons] at h
          exact h3 x a y b (ih _ _ (by omega)) (ih _ _ (by simp only [List.length_cons]; omega)) (ih _ _ (by simp only [List.length_cons]; omega))
  exact fun a b => this _ a b (Nat.le_refl _)
theorem lev_pos : ∀ a b, 0 ≤ lev a b := by
  refine lev_ind (fun b => by rw [lev_nl]; omega) (fun a => by rw [lev_nr]; omega) fun x a y b h1 h2 h3 => ?_
  rw [lev_cc]
  split <;> omega
theorem lev_le : ∀ a b, lev a b ≤ a.length + b.length := by
  refine lev_ind (fun b => by rw [lev_nl]; simp) (fun a => by rw [lev_nr]; simp) fun x a y b h1 h2 h3 => ?_
  rw [lev_cc]
  simp only [List.length_cons] at *
  split <;> omega
theorem lev_len : ∀ a b, (a.length : Int) ≤ b.length + lev a b ∧ (b.length : Int) ≤ a.length + lev a b := by
  refine lev_ind (fun b => by rw [lev_nl]; simp; omega) (fun a => by rw [lev_nr]; simp; omega) fun x a y b h1 h2 h3 => ?_
  rw [lev_cc]
  simp only [List.length_cons] at *
  split <;> omega
theorem lev_symm : ∀ a b, lev a b = lev b a := by
  refine lev_ind (fun b => by rw [lev_nl, lev_nr]) (fun a => by rw [lev_nl, lev_nr]) fun x a y b h1 h2 h3 => ?_
  rw [lev_cc, lev_cc, h1, h2, h3]
  by_cases h : x = y
  · rw [if_pos h, if_pos h.symm]; omega
  · rw [if_neg h, if_neg (fun e => h e.symm)]; omega
theorem lev_self : ∀ a, lev a a = 0
  | [] => by rw [lev_nl]; rfl
  | x :: a => by
    rw [lev_cc, lev_self a, if_pos rfl]
    have := lev_pos (x :: a) a
    have := lev_pos a (x :: a)
    omega
theorem lev_zero : ∀ a b, lev a b = 0 → a = b := by
  refine lev_ind (fun b h => ?_) (fun a h => ?_) fun x a y b h1 h2 h3 h => ?_
  · rw [lev_nl] at h
    exact (List.eq_nil_of_length_eq_zero (by omega)).symm
  · rw [lev_nr] at h
    exact List.eq_nil_of_length_eq_zero (by omega)
  · rw [lev_cc] at h
    have p1 := lev_pos a b
    have p2 := lev_pos (x :: a) b
    have p3 := lev_pos a (y :: b)
    by_cases e : x = y
    · rw [if_pos e] at h
      rw [e, h1 (by omega)]
    · rw [if_neg e] at h
      omega
theorem lev_tri : ∀ (n : Nat) (a b c : List Int), a.length + b.length + c.length ≤ n → lev a c ≤ lev a b + lev b c := by
  intro n
  induction n with
  | zero =>
    intro a b c h
    obtain rfl : a = [] := List.eq_nil_of_length_eq_zero (by omega)
    obtain rfl : b = [] := List.eq_nil_of_length_eq_zero (by omega)
    obtain rfl : c = [] := List.eq_nil_of_length_eq_zero (by omega)
    simp [lev_nl]
  | succ n ih =>
    intro a b c h
    cases a with
    | nil => have := (lev_len b c).2; rw [lev_nl, lev_nl]; omega
    | cons x a =>
      cases c with
      | nil => have := (lev_len (x :: a) b).1; rw [lev_nr, lev_nr]; omega
      | cons z c =>
        cases b with
        | nil => have := lev_le (x :: a) (z :: c); rw [lev_nr, lev_nl]; omega
        | cons y b =>
          simp only [List.length_cons] at h
          have i1 := ih a (y :: b) (z :: c) (by simp only [List.length_cons]; omega)
          have i2 := ih (x :: a) (y :: b) c (by simp only [List.length_cons]; omega)
          have i3 := ih (x :: a) b (z :: c) (by simp only [List.length_cons]; omega)
          have i4 := ih (x :: a) b c (by simp only [List.length_cons]; omega)
          have i5 := ih a b (z :: c) (by simp only [List.length_cons]; omega)
          have i6 := ih a b c (by omega)
          have e1 := lev_cc x a y b
          have e2 := lev_cc y b z c
          have e3 := lev_cc x a z c
          by_cases h1 : x = y <;> by_cases h2 : y = z <;> by_cases h3 : x = z
          all_goals first
            | exact absurd (h1.trans h2) h3
            | exact absurd (h1.symm.trans h3) h2
            | exact absurd (h3.trans h2.symm) h1
            | (simp only [h1, h2, h3, if_true, if_false] at e1 e2 e3; simp only [h1, h2, h3] at *; omega)
/-- The least distance to a beginning. -/
def sel : List Int → List Int → Int
  | [], t => 0
  | x :: a, [] => (a.length : Int) + 1
  | x :: a, y :: t => min (sel a t + if x = y then 0 else 1) (min (sel (x :: a) t + 1) (sel a (y :: t) + 1))
termination_by a t => a.length + t.length
theorem sel_nl (t : List Int) : sel [] t = 0 := by rw [sel]
theorem sel_nr (a : List Int) : sel a [] = a.length := by
  cases a with
  | nil => rw [sel]; rfl
  | cons x a => rw [sel]; simp
theorem sel_cc (x : Int) (a : List Int) (y : Int) (t : List Int) : sel (x :: a) (y :: t) = min (sel a t + if x = y then 0 else 1) (min (sel (x :: a) t + 1) (sel a (y :: t) + 1)) := by rw [sel]
theorem sel_le : ∀ (a t : List Int) (j : Nat), sel a t ≤ lev a (t.take j) := by
  refine lev_ind (fun b j => by rw [sel_nl]; exact lev_pos _ _) (fun a j => by rw [sel_nr, List.take_nil, lev_nr]; exact Int.le_refl _) fun x a y b h1 h2 h3 j => ?_
  rw [sel_cc]
  cases j with
  | zero =>
    have := h3 0
    simp only [List.take_zero, lev_nr, List.length_cons] at *
    omega
  | succ j =>
    have i1 := h1 j
    have i2 := h2 j
    have i3 := h3 (j + 1)
    simp only [List.take_succ_cons] at *
    rw [lev_cc]
    omega
theorem sel_is : ∀ (a t : List Int), ∃ j, j ≤ t.length ∧ sel a t = lev a (t.take j) := by
  refine lev_ind (fun b => ⟨0, Nat.zero_le _, by rw [sel_nl, List.take_zero, lev_nl]; rfl⟩) (fun a => ⟨0, Nat.le_refl _, by rw [sel_nr, List.take_nil, lev_nr]⟩) fun x a y b h1 h2 h3 => ?_
  obtain ⟨j1, l1, e1⟩ := h1
  obtain ⟨j2, l2, e2⟩ := h2
  obtain ⟨j3, l3, e3⟩ := h3
  have hs := sel_cc x a y b
  have k1 := sel_le (x :: a) (y :: b) (j1 + 1)
  have k2 := sel_le (x :: a) (y :: b) (j2 + 1)
  have k3 := sel_le (x :: a) (y :: b) j3
  simp only [List.length_cons] at *
  have c1 := lev_cc x a y (b.take j1)
  have c2 := lev_cc x a y (b.take j2)
  have c3 : lev (x :: a) ((y :: b).take j3) ≤ lev a ((y :: b).take j3) + 1 := by
    cases j3 with
    | zero => simp only [List.take_zero, lev_nr, List.length_cons]; omega
    | succ j3 => rw [List.take_succ_cons, lev_cc]; omega
  simp only [List.take_succ_cons] at k1 k2
  by_cases hA : sel (x :: a) (y :: b) = sel a b + if x = y then 0 else 1
  · exact ⟨j1 + 1, by omega, by rw [List.take_succ_cons]; omega⟩
  · by_cases hB : sel (x :: a) (y :: b) = sel (x :: a) b + 1
    · exact ⟨j2 + 1, by omega, by rw [List.take_succ_cons]; omega⟩
    · exact ⟨j3, by omega, by omega⟩
/-- A row of a table. -/
def lrow (f : List Int → Int) : List Int → List Int → List Int
  | pre, [] => [f pre]
  | pre, u :: us => f pre :: lrow f (u :: pre) us
theorem lrow_cons (f : List Int → Int) (pre us : List Int) : ∃ z, lrow f pre us = f pre :: z := by cases us <;> exact ⟨_, rfl⟩
theorem lrow_len (f : List Int → Int) : ∀ us pre, (lrow f pre us).length = us.length + 1
  | [], pre => rfl
  | u :: us, pre => by simp [lrow, lrow_len f us]
theorem lrow_last (f : List Int → Int) : ∀ us pre, (lrow f pre us)[us.length]? = some (f (us.reverse ++ pre))
  | [], pre => rfl
  | u :: us, pre => by
    have := lrow_last f us (u :: pre)
    simp only [lrow, List.length_cons, List.getElem?_cons_succ, this, List.reverse_cons, List.append_assoc, List.cons_append, List.nil_append]
theorem lrow_all (f : List Int → Int) (Q : Int → Prop) (h : ∀ p, Q (f p)) : ∀ us pre, ∀ e ∈ lrow f pre us, Q e
  | [], pre, e, he => by simp [lrow] at he; subst he; exact h _
  | u :: us, pre, e, he => by
    rcases List.mem_cons.1 he with rfl | he
    · exact h _
    · exact lrow_all f Q h us _ e he
theorem nxt_row (F : List Int → List Int → Int) (hF : ∀ u p r t, F (u :: p) (r :: t) = min (F p t + if u = r then 0 else 1) (min (F (u :: p) t + 1) (F p (r :: t) + 1))) (r : Int) (t : List Int) : ∀ us pre, F pre (r :: t) :: nxt (F pre (r :: t)) (lrow (F · t) pre us) us r = lrow (F · (r :: t)) pre us
  | [], pre => by simp [lrow, nxt]
  | u :: us, pre => by
    obtain ⟨z, hz⟩ := lrow_cons (F · t) (u :: pre) us
    have ih := nxt_row F hF r t us (u :: pre)
    have e : min (if (u != r) = true then F pre t + 1 else F pre t) (min (F (u :: pre) t + 1) (F pre (r :: t) + 1)) = F (u :: pre) (r :: t) := by
      rw [hF]
      by_cases h : u = r <;> simp [h]
    simp only [lrow, hz] at ih ⊢
    rw [nxt, e, ih]
theorem lrow_zero : ∀ us pre, lrow (fun p : List Int => (p.length : Int)) pre us = marks pre.length (us.length + 1)
  | [], pre => by simp [lrow, marks]
  | u :: us, pre => by
    rw [lrow, lrow_zero us (u :: pre), show (u :: us).length + 1 = (us.length + 1) + 1 from rfl, marks_cons (pre.length : Int) (us.length + 1)]
    simp
def lcs : List Int → List Int → Int
  | [], _ => 0
  | _ :: _, [] => 0
  | x :: a, y :: b => if x = y then lcs a b + 1 else max (lcs a (y :: b)) (lcs (x :: a) b)
termination_by a b => a.length + b.length
theorem lcs_nl (b : List Int) : lcs [] b = 0 := by rw [lcs]
theorem lcs_nr (a : List Int) : lcs a [] = 0 := by cases a <;> rw [lcs]
theorem lcs_cc (x : Int) (a : List Int) (y : Int) (b : List Int) : lcs (x :: a) (y :: b) = if x = y then lcs a b + 1 else max (lcs a (y :: b)) (lcs (x :: a) b) := by rw [lcs]
theorem lcs_symm : ∀ a b, lcs a b = lcs b a := by
  refine lev_ind (fun b => by rw [lcs_nl, lcs_nr]) (fun a => by rw [lcs_nl, lcs_nr]) fun x a y b h1 h2 h3 => ?_
  rw [lcs_cc, lcs_cc, h1, h2, h3]
  by_cases h : x = y
  · rw [if_pos h, if_pos h.symm]
  · rw [if_neg h, if_neg (fun e => h e.symm)]; omega
theorem lcs_bd : ∀ a b, 0 ≤ lcs a b ∧ lcs a b ≤ a.length := by
  refine lev_ind (fun b => by rw [lcs_nl]; simp) (fun a => by rw [lcs_nr]; simp) fun x a y b h1 h2 h3 => ?_
  rw [lcs_cc]
  simp only [List.length_cons] at *
  split <;> omega
/-- The steps along two lists. -/
def wk : List Int → List Int → List (Int × Int)
  | [], [] => []
  | [], y :: b => (3, y) :: wk [] b
  | x :: a, [] => (2, x) :: wk a []
  | x :: a, y :: b => if x = y then (1, x) :: wk a b else if lcs a (y :: b) = lcs (x :: a) (y :: b) then (2, x) :: wk a (y :: b) else (3, y) :: wk (x :: a) b
termination_by a b => a.length + b.length
theorem wk_nn : wk [] [] = [] := by rw [wk]
theorem wk_nc (y : Int) (b : List Int) : wk [] (y :: b) = (3, y) :: wk [] b := by rw [wk]
theorem wk_cn (x : Int) (a : List Int) : wk (x :: a) [] = (2, x) :: wk a [] := by rw [wk]
theorem wk_cc (x : Int) (a : List Int) (y : Int) (b : List Int) : wk (x :: a) (y :: b) = if x = y then (1, x) :: wk a b else if lcs a (y :: b) = lcs (x :: a) (y :: b) then (2, x) :: wk a (y :: b) else (3, y) :: wk (x :: a) b := by rw [wk]
def pickO (f : Int → Bool) (l : List (Int × Int)) : List Int := l.flatMap fun e => if f e.1 then [e.2] else []
theorem pickO_cons (f : Int → Bool) (k r : Int) (l : List (Int × Int)) : pickO f ((k, r) :: l) = (if f k then [r] else []) ++ pickO f l := rfl
theorem wk_ind {P : List Int → List Int → Prop} (h0 : P [] []) (h1 : ∀ y b, P [] b → P [] (y :: b)) (h2 : ∀ x a, P a [] → P (x :: a) []) (h3 : ∀ x a y b, P a b → P (x :: a) b → P a (y :: b) → P (x :: a) (y :: b)) : ∀ a b, P a b := by
  refine lev_ind (fun b => ?_) (fun a => ?_) h3
  · induction b with
    | nil => exact h0
    | cons y b ih => exact h1 y b ih
  · induction a with
    | nil => exact h0
    | cons x a ih => exact h2 x a ih
theorem wk_src : ∀ a b, pickO (fun k => k != 3) (wk a b) = a := by
  refine wk_ind (by rw [wk_nn]; rfl) (fun y b h => by rw [wk_nc, pickO_cons, h]; rfl) (fun x a h => by rw [wk_cn, pickO_cons, h]; rfl) fun x a y b h1 h2 h3 => ?_
  rw [wk_cc]
  by_cases e : x = y
  · rw [if_pos e, pickO_cons, h1]; rfl
  · rw [if_neg e]
    split
    · rw [pickO_cons, h3]; rfl
    · rw [pickO_cons, h2]; rfl
theorem wk_dst : ∀ a b, pickO (fun k => k != 2) (wk a b) = b := by
  refine wk_ind (by rw [wk_nn]; rfl) (fun y b h => by rw [wk_nc, pickO_cons, h]; rfl) (fun x a h => by rw [wk_cn, pickO_cons, h]; rfl) fun x a y b h1 h2 h3 => ?_
  rw [wk_cc]
  by_cases e : x = y
  · rw [if_pos e, pickO_cons, h1, e]; rfl
  · rw [if_neg e]
    split
    · rw [pickO_cons, h3]; rfl
    · rw [pickO_cons, h2]; rfl
theorem wk_len : ∀ a b, (wk a b).length ≤ a.length + b.length := by
  refine wk_ind (by rw [wk_nn]; simp) (fun y b h => by rw [wk_nc]; simp at h ⊢; omega) (fun x a h => by rw [wk_cn]; simp at h ⊢; omega) fun x a y b h1 h2 h3 => ?_
  rw [wk_cc]
  simp only [List.length_cons] at *
  split
  · simp only [List.length_cons]; omega
  · split <;> (simp only [List.length_cons]; omega)
theorem wk_keep : ∀ a b, ((pickO (fun k => k == 1) (wk a b)).length : Int) = lcs a b := by
  refine wk_ind (by rw [wk_nn, lcs_nl]; rfl) (fun y b h => by rw [wk_nc, pickO_cons, lcs_nl]; rw [lcs_nl] at h; simpa using h) (fun x a h => by rw [wk_cn, pickO_cons, lcs_nr]; rw [lcs_nr] at h; simpa using h) fun x a y b h1 h2 h3 => ?_
  rw [wk_cc]
  by_cases e : x = y
  · rw [if_pos e, pickO_cons, lcs_cc, if_pos e, ← h1]
    simp <;> omega
  · rw [if_neg e]
    have hc := lcs_cc x a y b
    rw [if_neg e] at hc
    split
    · rename_i hh
      rw [pickO_cons, ← hh, ← h3]; simp
    · rename_i hh
      rw [pickO_cons]
      have : lcs (x :: a) (y :: b) = lcs (x :: a) b := by omega
      rw [this, ← h2]; simp
theorem wk_kind : ∀ a b, ∀ e ∈ wk a b, 1 ≤ e.1 ∧ e.1 ≤ 3 := by
  refine wk_ind (by rw [wk_nn]; simp) (fun y b h e he => ?_) (fun x a h e he => ?_) fun x a y b h1 h2 h3 e he => ?_
  · rw [wk_nc] at he
    rcases List.mem_cons.1 he with rfl | he
    · refine ⟨?_, ?_⟩ <;> simp
    · exact h e he
  · rw [wk_cn] at he
    rcases List.mem_cons.1 he with rfl | he
    · refine ⟨?_, ?_⟩ <;> simp
    · exact h e he
  · rw [wk_cc] at he
    split at he
    · rcases List.mem_cons.1 he with rfl | he
      · refine ⟨?_, ?_⟩ <;> simp
      · exact h1 e he
    · split at he
      · rcases List.mem_cons.1 he with rfl | he
        · refine ⟨?_, ?_⟩ <;> simp
        · exact h3 e he
      · rcases List.mem_cons.1 he with rfl | he
        · refine ⟨?_, ?_⟩ <;> simp
        · exact h2 e he
theorem pickO_sub {f g : Int → Bool} (h : ∀ k, f k = true → g k = true) : ∀ l, (pickO f l).Sublist (pickO g l)
  | [] => List.Sublist.slnil
  | (k, r) :: l => by
    rw [pickO_cons, pickO_cons]
    refine List.Sublist.append ?_ (pickO_sub h l)
    by_cases hf : f k = true
    · rw [if_pos hf, if_pos (h k hf)]; exact List.Sublist.refl _
    · rw [if_neg hf]; exact List.nil_sublist _
/-- A common list bounds the distance. -/
theorem lev_sub : ∀ a b c : List Int, c.Sublist a → c.Sublist b → lev a b ≤ a.length + b.length - 2 * c.length := by
  refine lev_ind (P := fun a b => ∀ c : List Int, c.Sublist a → c.Sublist b → lev a b ≤ a.length + b.length - 2 * c.length) (fun b c h1 h2 => ?_) (fun a c h1 h2 => ?_) fun x a y b h1 h2 h3 c s1 s2 => ?_
  · obtain rfl := List.sublist_nil.1 h1
    rw [lev_nl]; simp
  · obtain rfl := List.sublist_nil.1 h2
    rw [lev_nr]; simp
  · have hc := lev_cc x a y b
    simp only [List.length_cons] at *
    cases s1 with
    | cons _ s1 => have := h3 c s1 s2; split at hc <;> omega
    | cons_cons _ s1 =>
      cases s2 with
      | cons _ s2 => have := h2 _ (List.Sublist.cons_cons _ s1) s2; simp only [List.length_cons] at *; split at hc <;> omega
      | cons_cons _ s2 => have := h1 _ s1 s2; simp only [List.length_cons]; simp only [if_true] at hc; omega
/-- The rows from i on hold what they should. -/
def TabV (i : Nat) (a b : List Int) (t : List (List Int)) : Prop := t.length = a.length + 1 ∧ ∀ r, i ≤ r → r ≤ a.length → ∃ row, t[r]? = some row ∧ row.length = b.length + 1 ∧ ∀ j, j ≤ b.length → row[j]? = some (lcs (a.drop r) (b.drop j))
def RowV (i q : Nat) (a b : List Int) (t : List (List Int)) : Prop := TabV (i + 1) a b t ∧ ∃ row, t[i]? = some row ∧ row.length = b.length + 1 ∧ ∀ j, q ≤ j → j ≤ b.length → row[j]? = some (lcs (a.drop i) (b.drop j))
theorem RowV.tab {i : Nat} {a b : List Int} {t : List (List Int)} (h : RowV i 0 a b t) : TabV i a b t := by
  obtain ⟨⟨h1, h2⟩, row, h3, h4, h5⟩ := h
  refine ⟨h1, fun r hr hr2 => ?_⟩
  by_cases hri : r = i
  · subst hri; exact ⟨row, h3, h4, fun j hj => h5 j (Nat.zero_le _) hj⟩
  · exact h2 r (by omega) hr2
theorem getE {α : Type} {xs : List α} {i : Nat} {x : α} (h : xs[i]? = some x) : ∃ hi : i < xs.length, xs[i] = x := List.getElem?_eq_some_iff.1 h
theorem p_com2V (a b : List Int) (ha : a.length ≤ 1000) (hb : b.length ≤ 1000) (i : Nat) (hi : i < a.length) : ∀ (k q : Nat) (t : List (List Int)), q ≤ b.length → q < k → RowV i q a b t → ∃ t', spec_l15Common.l2 a b i k t ((q : Int) - 1) = some t' ∧ RowV i 0 a b t' := by
  intro k
  induction k with
  | zero => intro q _ _ h; omega
  | succ k ih =>
    intro q t hq hk T
    rw [spec_l15Common.l2]
    cases q with
    | zero =>
      have c1 : decide (((0 : Nat) : Int) - 1 ≥ 0) = false := by decide
      simp only [c1, Bool.false_eq_true, if_false, Option.bind_some]
      exact ⟨t, rfl, T⟩
    | succ p =>
      have e1 : ((p + 1 : Nat) : Int) - 1 = (p : Int) := by omega
      rw [e1]
      have c1 : decide ((p : Int) ≥ 0) = true := by simp
      simp only [c1, if_true, Option.bind_some]
      have c2 : decide ((i : Int) < (a.length : Int)) = true := by simpa using hi
      simp only [c2, if_true]
      obtain ⟨T1, r0, g0, l0, v0⟩ := T
      obtain ⟨r1, g1, l1, v1⟩ := T1.2 (i + 1) (by omega) (by omega)
      have hit : i < t.length := by have := T1.1; omega
      have q1 : rd? t (((i + 1 : Nat)) : Int) = some r1 := rd?_get g1
      have q0 : rd? t (i : Int) = some r0 := rd?_get g0
      have hp : p < b.length := by omega
      have s1 : rd? r1 (((p + 1 : Nat)) : Int) = some (lcs (a.drop (i + 1)) (b.drop (p + 1))) := rd?_get (v1 _ (by omega))
      have s2 : rd? r1 (p : Int) = some (lcs (a.drop (i + 1)) (b.drop p)) := rd?_get (v1 _ (by omega))
      have s3 : rd? r0 (((p + 1 : Nat)) : Int) = some (lcs (a.drop i) (b.drop (p + 1))) := rd?_get (v0 _ (by omega) (by omega))
      have s4 : rd? r0 (p : Int) = some r0[p] := rd?_at (by omega)
      have s5 : ∀ v, st? r0 (p : Int) v = some (r0.set p v) := fun v => st?_at v (by omega)
      have s6 : ∀ v, st? t (i : Int) v = some (t.set i v) := fun v => st?_at v hit
      have w1 := wrapN i (by omega)
      have w2 := wrapN p (by omega)
      have w3 : IntKind.i64.wrap ((p : Int) - 1) = (p : Int) - 1 := wrapS (by omega) (by omega)
      have bd := lcs_bd (a.drop (i + 1)) (b.drop (p + 1))
      have bl : (a.drop (i + 1)).length ≤ 1000 := by simp; omega
      have w4 : IntKind.i64.wrap (lcs (a.drop (i + 1)) (b.drop (p + 1)) + 1) = lcs (a.drop (i + 1)) (b.drop (p + 1)) + 1 := wrapS (by omega) (by omega)
      have hc := lcs_cc a[i] (a.drop (i + 1)) b[p] (b.drop (p + 1))
      rw [← List.drop_eq_getElem_cons hi, ← List.drop_eq_getElem_cons hp] at hc
      have key : ∀ v, v = lcs (a.drop i) (b.drop p) → ∃ t', spec_l15Common.l2 a b i k (t.set i (r0.set p v)) ((p : Int) - 1) = some t' ∧ RowV i 0 a b t' := by
        intro v hv
        refine ih p _ (by omega) (by omega) ⟨⟨by simpa using T1.1, fun r h1 h2 => ?_⟩, r0.set p v, List.getElem?_set_self hit, by simpa using l0, fun j h1 h2 => ?_⟩
        · rw [List.getElem?_set_ne (by omega)]
          exact T1.2 r h1 h2
        · by_cases hj : p = j
          · subst hj; rw [List.getElem?_set_self (by omega), hv]
          · rw [List.getElem?_set_ne hj]
            exact v0 j (by omega) h2
      simp only [rd?_at hi, rd?_at hp, Option.bind_some, w1, w2, w3, w4, q1, q0, s1, s2, s3, s4, s5, s6, p_mostT]
      by_cases he : a[i] = b[p]
      · rw [if_pos (by simpa using he)]
        rw [if_pos he] at hc
        exact key _ hc.symm
      · rw [if_neg (by simpa using he)]
        rw [if_neg he] at hc
        exact key _ hc.symm
theorem p_com1V (a b : List Int) (ha : a.length ≤ 1000) (hb : b.length ≤ 1000) : ∀ (k q : Nat) (t : List (List Int)), q ≤ a.length + 1 → q < k → TabV q a b t → ∃ t', spec_l15Common.l1 a b k t ((q : Int) - 1) = some t' ∧ TabV 0 a b t' := by
  intro k
  induction k with
  | zero => intro q _ _ h; omega
  | succ k ih =>
    intro q t hq hk T
    rw [spec_l15Common.l1]
    cases q with
    | zero =>
      have c1 : decide (((0 : Nat) : Int) - 1 ≥ 0) = false := by decide
      simp only [c1, Bool.false_eq_true, if_false]
      exact ⟨t, rfl, T⟩
    | succ i =>
      have e1 : ((i + 1 : Nat) : Int) - 1 = (i : Int) := by omega
      rw [e1]
      have c1 : decide ((i : Int) ≥ 0) = true := by simp
      have w1 := wrapN b.length (by omega)
      have w2 : IntKind.i64.wrap ((b.length : Int) - 1) = (b.length : Int) - 1 := wrapS (by omega) (by omega)
      have w3 : IntKind.i64.wrap ((i : Int) - 1) = (i : Int) - 1 := wrapS (by omega) (by omega)
      have m1 : mk? 17592186044416 (0 : Int) (((b.length + 1 : Nat)) : Int) = some (List.replicate (b.length + 1) 0) := mk?_at (by omega)
      have hit : i < t.length := by have := T.1; omega
      have hf : b.length < ((b.length : Int) - 1 - 0).toNat + 2 := by omega
      have T' : TabV (i + 1) a b (t.set i (List.replicate (b.length + 1) 0)) := ⟨by simpa using T.1, fun r h1 h2 => by rw [List.getElem?_set_ne (by omega)]; exact T.2 r h1 h2⟩
      have key : ∃ t', spec_l15Common.l2 a b i (((b.length : Int) - 1 - 0).toNat + 2) (t.set i (List.replicate (b.length + 1) 0)) ((b.length : Int) - 1) = some t' ∧ RowV i 0 a b t' := by
        by_cases hl : i < a.length
        · refine p_com2V a b ha hb i hl _ b.length _ (Nat.le_refl _) hf ⟨T', _, List.getElem?_set_self hit, by simp, fun j h1 h2 => ?_⟩
          obtain rfl : j = b.length := by omega
          rw [List.drop_length, lcs_nr]
          simp
        · obtain rfl : i = a.length := by omega
          refine ⟨t.set a.length (List.replicate (b.length + 1) 0), ?_, T', _, List.getElem?_set_self hit, by simp, fun j h1 h2 => ?_⟩
          · rw [spec_l15Common.l2]
            have c3 : decide ((a.length : Int) < (a.length : Int)) = false := by simp
            simp only [c3]
            by_cases c4 : (b.length : Int) - 1 ≥ 0
            · have c5 : decide ((b.length : Int) - 1 ≥ 0) = true := by simpa using c4
              simp only [c5, if_true, Bool.false_eq_true, if_false, Option.bind_some]
            · have c5 : decide ((b.length : Int) - 1 ≥ 0) = false := by simpa using c4
              simp only [c5, Bool.false_eq_true, if_false, Option.bind_some]
          · rw [List.drop_length, lcs_nl]
            rw [List.getElem?_replicate, if_pos (by omega)]
      obtain ⟨t', g1, g2⟩ := key
      simp only [c1, if_true, w1, w2, w3, m1, Option.bind_some, rd?_at hit, st?_at _ hit, g1]
      exact ih i t' (by omega) (by omega) g2.tab
theorem p_tableV (a b : List Int) (ha : a.length ≤ 1000) (hb : b.length ≤ 1000) : ∃ t, spec_l15Common.f a b = some t ∧ TabV 0 a b t := by
  have w1 := wrapN a.length (by omega)
  have m1 : mk? 5864062014805 ([] : List Int) (((a.length + 1 : Nat)) : Int) = some (List.replicate (a.length + 1) []) := mk?_at (by omega)
  obtain ⟨t, g1, g2⟩ := p_com1V a b ha hb (((a.length : Int) - 0).toNat + 2) (a.length + 1) (List.replicate (a.length + 1) []) (Nat.le_refl _) (by omega) ⟨by simp, fun r h1 h2 => by omega⟩
  rw [show ((a.length + 1 : Nat) : Int) - 1 = (a.length : Int) by omega] at g1
  refine ⟨t, ?_, g2⟩
  unfold spec_l15Common.f
  simp only [w1, m1, Option.bind_some, g1]
def keeps (d : List (Int × List Int)) : List Int := d.flatMap fun e => if (e.1 == 1) = true then e.2 else []
theorem p_add (d : List (Int × List Int)) (k r : Int) (N : Nat) (hN : N ≤ 2000) (hd : d.length ≤ N) (ht : ∀ e ∈ d, e.2.length ≤ N) : ∃ d', spec_l15Add.f d k r = some d' ∧ keeps d' = keeps d ++ (if (k == 1) = true then [r] else []) ∧ d'.length ≤ N + 1 ∧ ∀ e ∈ d', e.2.length ≤ N + 1 := by
  have new : ∃ d', app? 4398046511104 d [(k, [r])] = some d' ∧ keeps d' = keeps d ++ (if (k == 1) = true then [r] else []) ∧ d'.length ≤ N + 1 ∧ ∀ e ∈ d', e.2.length ≤ N + 1 := by
    refine ⟨d ++ [(k, [r])], app?_at (by simp; omega), ?_, by simp; omega, fun e he => ?_⟩
    · unfold keeps
      rw [List.flatMap_append]
      simp
    · rcases List.mem_append.1 he with he | he
      · have := ht e he; omega
      · rw [List.mem_singleton.1 he]; simp
  unfold spec_l15Add.f
  rcases List.eq_nil_or_concat d with rfl | ⟨d0, e, rfl⟩
  · obtain ⟨d', g1, g2⟩ := new
    refine ⟨d', ?_, g2⟩
    have c1 : decide (((([] : List (Int × List Int)).length : Nat) : Int) > 0) = false := by simp
    simp only [c1, Bool.false_eq_true, if_false, Option.bind_some, g1]
  · rw [List.concat_eq_append] at *
    have c1 : decide ((((d0 ++ [e]).length : Nat) : Int) > 0) = true := by rw [decide_eq_true_eq, List.length_append, List.length_singleton]; omega
    have w1 : IntKind.i64.wrap ((((d0 ++ [e]).length : Nat) : Int) - 1) = (d0.length : Int) := by
      rw [List.length_append, List.length_singleton] at hd ⊢
      rw [wrapS (by omega) (by omega)]
      omega
    have r1 : rd? (d0 ++ [e]) (d0.length : Int) = some e := by
      have := rd?_at (xs := d0 ++ [e]) (i := d0.length) (by simp)
      rw [this]
      simp
    simp only [c1, if_true, w1, r1, Option.bind_some]
    have he : e.2.length ≤ N := ht e (by simp)
    cases hk : e.1 == k with
    | false =>
      obtain ⟨d', g1, g2⟩ := new
      refine ⟨d', ?_, g2⟩
      simp only [Bool.false_eq_true, if_false, g1, Option.bind_some]
    | true =>
      have a1 : app? 17592186044416 e.2 [r] = some (e.2 ++ [r]) := app?_at (by simp; omega)
      have s1 : st? (d0 ++ [e]) (d0.length : Int) (e.1, e.2 ++ [r]) = some (d0 ++ [(e.1, e.2 ++ [r])]) := by
        rw [st?_at _ (by simp)]
        simp
      simp only [if_true, a1, s1, Option.bind_some]
      have hk' : e.1 = k := by simpa using hk
      subst hk'
      refine ⟨_, rfl, ?_, by simpa using (by simp at hd; omega : d0.length ≤ N), fun x hx => ?_⟩
      · unfold keeps
        rw [List.flatMap_append, List.flatMap_append]
        simp
        split <;> simp
      · rcases List.mem_append.1 hx with hx | hx
        · have := ht x (by simp [hx]); omega
        · rw [List.mem_singleton.1 hx]; simp; omega
theorem p_l1In (a b c : Int) : spec_l1In.f a b c = some (decide (b ≤ a) && decide (a ≤ c)) := by
  unfold spec_l1In.f
  by_cases h : b ≤ a
  · rw [if_pos (by simpa using h)]; simp [h]
  · rw [if_neg (by simpa using h)]; simp [h]
theorem p_inRange (a b c : Int) : impl_inRange.f a b c = some (decide (b ≤ a) && decide (a ≤ c)) := by
  unfold impl_inRange.f
  by_cases h : b ≤ a
  · rw [if_pos (by simpa using h)]; simp [h]
  · rw [if_neg (by simpa using h)]; simp [h]
def okRune (r : Int) : Bool := decide (0 ≤ r) && decide (r ≤ 1114111) && !(decide (55296 ≤ r) && decide (r ≤ 57343))
theorem p_specRune (r : Int) : spec_GoodRune.f r = some (okRune r) := by
  unfold spec_GoodRune.f okRune
  simp only [p_l1In, Option.bind_some]
  cases (decide (0 ≤ r) && decide (r ≤ 1114111)) <;> rfl
theorem p_implRune (r : Int) : impl_GoodRune.f r = some (okRune r) := by
  unfold impl_GoodRune.f okRune
  simp only [p_inRange, Option.bind_some]
  cases (decide (0 ≤ r) && decide (r ≤ 1114111)) <;> rfl
theorem p_allRunes (p : List Int) (hp : p.length ≤ big) : spec_l1AllRunes.f p = some (p.all okRune && decide (p.length ≤ 1000)) := by
  unfold spec_l1AllRunes.f
  have := all_loop p hp (fun u => !okRune u) false (spec_l1AllRunes.l1 p) (fun k i => by rw [spec_l1AllRunes.l1]; simp only [p_specRune, Option.bind_some]) (((p.length : Int) - 0).toNat + 2) 0 (by omega) (by omega)
  rw [show ((0 : Nat) : Int) = 0 from rfl] at this
  rw [this, List.drop_zero]
  have e : p.any (fun u => !okRune u) = !p.all okRune := by rw [List.all_eq_not_any_not]; simp
  rw [e]
  cases h : p.all okRune <;> simp
  omega
theorem p_areRunes (p : List Int) (n : Int) (hp : p.length ≤ big) : impl_areRunes.f p n = some (decide ((p.length : Int) ≤ n) && p.all okRune) := by
  unfold impl_areRunes.f slices_ContainsFunc_int_int_impl_areRunes_1.f slices_IndexFunc_int_int_impl_areRunes_1.f
  by_cases h : (p.length : Int) ≤ n
  · rw [if_pos (by simpa using h)]
    have := scan_loop p hp (fun u => !okRune u) (fun i _ => i) (slices_IndexFunc_int_int_impl_areRunes_1.l1 p) (fun k i => by rw [slices_IndexFunc_int_int_impl_areRunes_1.l1]; simp only [impl_areRunes_1.f, p_implRune, Option.bind_some]) (((p.length : Int) - 0).toNat + 2) 0 (by omega) (by omega)
    rw [show ((0 : Nat) : Int) = 0 from rfl] at this
    rw [this, List.drop_zero]
    have e : p.all okRune = !(p.any fun u => !okRune u) := List.all_eq_not_any_not
    rw [e]
    cases hf : p.findIdx? (fun u => !okRune u) with
    | none =>
      have : p.any (fun u => !okRune u) = false := by
        rw [List.findIdx?_eq_none_iff] at hf
        simpa using hf
      rw [this]; simp [h]
    | some j =>
      obtain ⟨hj, h1, h2⟩ := List.findIdx?_eq_some_iff_getElem.1 hf
      have : p.any (fun u => !okRune u) = true := List.any_eq_true.2 ⟨_, List.getElem_mem hj, h1⟩
      rw [this]
      simp [hj]
  · rw [if_neg (by simpa using h)]
    simp [h]
def okShort (p : List Int) : Bool := decide ((p.length : Int) ≤ 60) && p.all okRune
theorem p_areShort (p : List (List Int)) (hp : p.length ≤ big) (hq : ∀ q ∈ p, q.length ≤ big) : impl_areShort.f p = some (p.all okShort) := by
  unfold impl_areShort.f slices_ContainsFunc_int_int_impl_areShort_1.f slices_IndexFunc_int_int_impl_areShort_1.f
  have key : ∀ (k i : Nat), i ≤ p.length → p.length - i < k → ∃ o, slices_IndexFunc_int_int_impl_areShort_1.l1 p k i = some o ∧ (if (p.drop i).all okShort then o = .go () else ∃ n : Int, 0 ≤ n ∧ o = .ret n) := by
    intro k
    induction k with
    | zero => intro i _ h; omega
    | succ k ih =>
      intro i hi hk
      rw [slices_IndexFunc_int_int_impl_areShort_1.l1]
      by_cases h : i < p.length
      · rw [if_pos (by simpa using h), rd?_at h]
        simp only [Option.bind_some, impl_areShort_1.f, p_areRunes p[i] 60 (hq _ (List.getElem_mem h))]
        rw [List.drop_eq_getElem_cons h, List.all_cons]
        have e : (decide ((p[i].length : Int) ≤ 60) && p[i].all okRune) = okShort p[i] := rfl
        rw [e]
        cases hr : okShort p[i] with
        | false => exact ⟨.ret i, by simp, by simp⟩
        | true =>
          simp only [Bool.not_true, Bool.false_eq_true, if_false, Bool.true_and]
          rw [wrapN i (by unfold big at hp; omega)]
          exact ih (i + 1) h (by omega)
      · rw [if_neg (by simpa using h)]
        exact ⟨_, rfl, by simp [List.drop_eq_nil_of_le (by omega : p.length ≤ i)]⟩
  obtain ⟨o, h1, h2⟩ := key (((p.length : Int) - 0).toNat + 2) 0 (by omega) (by omega)
  rw [show ((0 : Nat) : Int) = 0 from rfl] at h1
  rw [h1]
  rw [List.drop_zero] at h2
  cases hr : p.all okShort with
  | true =>
    rw [hr, if_pos rfl] at h2
    subst h2
    simp
  | false =>
    rw [hr] at h2
    obtain ⟨m, hm, rfl⟩ := h2
    simp [hm]
theorem p_l15List (p : List Int) (hp : p.length ≤ big) : spec_l15List.f p = some (okShort p) := by
  unfold spec_l15List.f okShort
  rw [p_allRunes p hp]
  simp only [Option.bind_some]
  generalize p.all okRune = b
  by_cases h2 : p.length ≤ 60 <;> by_cases h3 : p.length ≤ 1000 <;> cases b <;> simp [h2, h3] <;> omega
def pick (f : Int → Bool) (d : List (Int × List Int)) : List Int := d.flatMap fun e => if f e.1 then e.2 else []
theorem pick_app (f : Int → Bool) (a b : List (Int × List Int)) : pick f (a ++ b) = pick f a ++ pick f b := by simp [pick]
theorem pick_one (f : Int → Bool) (k : Int) (x : List Int) : pick f [(k, x)] = if f k then x else [] := by simp [pick]
theorem p_addV (d : List (Int × List Int)) (k r : Int) (N : Nat) (hN : N ≤ 2000) (hd : d.length ≤ N) (ht : ∀ e ∈ d, e.2.length ≤ N ∧ e.2 ≠ []) (hk3 : ∀ e ∈ d, 1 ≤ e.1 ∧ e.1 ≤ 3) (hk : 1 ≤ k ∧ k ≤ 3) : ∃ d', spec_l15Add.f d k r = some d' ∧ (∀ f, pick f d' = pick f d ++ (if f k then [r] else [])) ∧ d'.length ≤ d.length + 1 ∧ (∀ e ∈ d', e.2.length ≤ N + 1 ∧ e.2 ≠ []) ∧ ∀ e ∈ d', 1 ≤ e.1 ∧ e.1 ≤ 3 := by
  have new : ∃ d', app? 4398046511104 d [(k, [r])] = some d' ∧ (∀ f, pick f d' = pick f d ++ (if f k then [r] else [])) ∧ d'.length ≤ d.length + 1 ∧ (∀ e ∈ d', e.2.length ≤ N + 1 ∧ e.2 ≠ []) ∧ ∀ e ∈ d', 1 ≤ e.1 ∧ e.1 ≤ 3 := by
    refine ⟨d ++ [(k, [r])], app?_at (by simp; omega), fun f => by rw [pick_app, pick_one], by simp, fun e he => ?_, fun e he => ?_⟩
    · rcases List.mem_append.1 he with he | he
      · have := ht e he; exact ⟨by omega, this.2⟩
      · rw [List.mem_singleton.1 he]; simp
    · rcases List.mem_append.1 he with he | he
      · exact hk3 e he
      · rw [List.mem_singleton.1 he]; exact hk
  unfold spec_l15Add.f
  rcases List.eq_nil_or_concat d with rfl | ⟨d0, e, rfl⟩
  · obtain ⟨d', g1, g2⟩ := new
    refine ⟨d', ?_, g2⟩
    have c1 : decide (((([] : List (Int × List Int)).length : Nat) : Int) > 0) = false := by simp
    simp only [c1, Bool.false_eq_true, if_false, Option.bind_some, g1]
  · rw [List.concat_eq_append] at *
    have c1 : decide ((((d0 ++ [e]).length : Nat) : Int) > 0) = true := by rw [decide_eq_true_eq, List.length_append, List.length_singleton]; omega
    have w1 : IntKind.i64.wrap ((((d0 ++ [e]).length : Nat) : Int) - 1) = (d0.length : Int) := by
      rw [List.length_append, List.length_singleton] at hd ⊢
      rw [wrapS (by omega) (by omega)]
      omega
    have r1 : rd? (d0 ++ [e]) (d0.length : Int) = some e := by
      have := rd?_at (xs := d0 ++ [e]) (i := d0.length) (by simp)
      rw [this]
      simp
    simp only [c1, if_true, w1, r1, Option.bind_some]
    have he := ht e (by simp)
    have he3 := hk3 e (by simp)
    cases hke : e.1 == k with
    | false =>
      obtain ⟨d', g1, g2⟩ := new
      exact ⟨d', by simp only [Bool.false_eq_true, if_false, g1, Option.bind_some], g2⟩
    | true =>
      have hk' : e.1 = k := by simpa using hke
      have a1 : app? 17592186044416 e.2 [r] = some (e.2 ++ [r]) := app?_at (by simp; omega)
      have s1 : st? (d0 ++ [e]) (d0.length : Int) (e.1, e.2 ++ [r]) = some (d0 ++ [(e.1, e.2 ++ [r])]) := by rw [st?_at _ (by simp)]; simp
      simp only [if_true, a1, s1, Option.bind_some]
      refine ⟨_, rfl, fun f => ?_, by simp, fun x hx => ?_, fun x hx => ?_⟩
      · obtain ⟨e1, e2⟩ := e
        simp only at hk'
        subst hk'
        rw [pick_app, pick_app, pick_one, pick_one]
        split <;> simp
      · rcases List.mem_append.1 hx with hx | hx
        · have := ht x (by simp [hx]); exact ⟨by omega, this.2⟩
        · rw [List.mem_singleton.1 hx]; simp; omega
      · rcases List.mem_append.1 hx with hx | hx
        · exact hk3 x (by simp [hx])
        · rw [List.mem_singleton.1 hx]; exact he3
theorem p_walkV (a b : List Int) (t : List (List Int)) (T : TabV 0 a b t) (ha : a.length ≤ 100) (hb : b.length ≤ 100) : ∀ (k i j : Nat) (d : List (Int × List Int)), i ≤ a.length → j ≤ b.length → a.length + b.length - i - j < k → d.length ≤ i + j → (∀ e ∈ d, e.2.length ≤ i + j ∧ e.2 ≠ []) → (∀ e ∈ d, 1 ≤ e.1 ∧ e.1 ≤ 3) →
    ∃ d', spec_l15Diff.l1 a b t k d i j = some d' ∧ (∀ f, pick f d' = pick f d ++ pickO f (wk (a.drop i) (b.drop j))) ∧ d'.length ≤ d.length + (wk (a.drop i) (b.drop j)).length ∧ (∀ e ∈ d', e.2 ≠ []) ∧ ∀ e ∈ d', 1 ≤ e.1 ∧ e.1 ≤ 3 := by
  intro k
  induction k with
  | zero => intro i j d _ _ h; omega
  | succ k ih =>
    intro i j d hi hj hk hd ht h3
    have step : ∀ (kind r : Int) (i' j' : Nat) (rest : List (Int × Int)), wk (a.drop i) (b.drop j) = (kind, r) :: wk (a.drop i') (b.drop j') → 1 ≤ kind ∧ kind ≤ 3 → i' ≤ a.length → j' ≤ b.length → i + j + 1 ≤ i' + j' → ∃ d1, spec_l15Add.f d kind r = some d1 ∧
        ∃ d', spec_l15Diff.l1 a b t k d1 i' j' = some d' ∧ (∀ f, pick f d' = pick f d ++ pickO f (wk (a.drop i) (b.drop j))) ∧ d'.length ≤ d.length + (wk (a.drop i) (b.drop j)).length ∧ (∀ e ∈ d', e.2 ≠ []) ∧ ∀ e ∈ d', 1 ≤ e.1 ∧ e.1 ≤ 3 := by
      intro kind r i' j' _ hw hk1 h1 h2 h4
      obtain ⟨d1, g1, g2, g3, g4, g5⟩ := p_addV d kind r (i + j) (by omega) hd ht h3 hk1
      refine ⟨d1, g1, ?_⟩
      obtain ⟨d', e1, e2, e3, e4, e5⟩ := ih i' j' d1 h1 h2 (by omega) (by omega) (fun e he => by have := g4 e he; exact ⟨by omega, this.2⟩) g5
      refine ⟨d', e1, fun f => ?_, ?_, e4, e5⟩
      · rw [e2 f, g2 f, hw, pickO_cons, List.append_assoc]
      · rw [hw, List.length_cons]; omega
    rw [spec_l15Diff.l1]
    have w1 := wrapN i (by omega)
    have w2 := wrapN j (by omega)
    by_cases h1 : i < a.length
    · have c1 : decide ((i : Int) < (a.length : Int)) = true := by simpa using h1
      have ra := rd?_at h1
      have da := List.drop_eq_getElem_cons h1
      by_cases h2 : j < b.length
      · have c2 : ((j : Int) == (b.length : Int)) = false := by simp; omega
        have c3 : decide ((j : Int) < (b.length : Int)) = true := by simpa using h2
        have rb := rd?_at h2
        have db := List.drop_eq_getElem_cons h2
        obtain ⟨r1, g1, l1, v1⟩ := T.2 (i + 1) (by omega) (by omega)
        obtain ⟨r0, g0, l0, v0⟩ := T.2 i (by omega) (by omega)
        have q1 : rd? t (((i + 1 : Nat)) : Int) = some r1 := rd?_get g1
        have q0 : rd? t (i : Int) = some r0 := rd?_get g0
        have s1 : rd? r1 (j : Int) = some (lcs (a.drop (i + 1)) (b.drop j)) := rd?_get (v1 j hj)
        have s0 : rd? r0 (j : Int) = some (lcs (a.drop i) (b.drop j)) := rd?_get (v0 j hj)
        have hw := wk_cc a[i] (a.drop (i + 1)) b[j] (b.drop (j + 1))
        rw [← da, ← db] at hw
        simp only [c1, c2, c3, ra, rb, w1, w2, q1, q0, s1, s0, if_true, if_false, Bool.false_eq_true, Option.bind_some]
        by_cases he : a[i] = b[j]
        · rw [if_pos he] at hw
          obtain ⟨d1, e1, d', e3⟩ := step 1 a[i] (i + 1) (j + 1) [] hw (by decide) h1 h2 (by omega)
          have ce : (a[i] == b[j]) = true := by simpa using he
          simp only [ce, if_true, e1, Option.bind_some]
          exact ⟨d', e3⟩
        · rw [if_neg he] at hw
          have ce : (a[i] == b[j]) = false := by simpa using he
          by_cases hl : lcs (a.drop (i + 1)) (b.drop j) = lcs (a.drop i) (b.drop j)
          · rw [if_pos hl] at hw
            obtain ⟨d1, e1, d', e3⟩ := step 2 a[i] (i + 1) j [] hw (by decide) h1 hj (by omega)
            have cl : (lcs (a.drop (i + 1)) (b.drop j) == lcs (a.drop i) (b.drop j)) = true := by simpa using hl
            simp only [ce, cl, Bool.false_eq_true, if_true, if_false, e1, Option.bind_some]
            exact ⟨d', e3⟩
          · rw [if_neg hl] at hw
            obtain ⟨d1, e1, d', e3⟩ := step 3 b[j] i (j + 1) [] hw (by decide) hi h2 (by omega)
            have cl : (lcs (a.drop (i + 1)) (b.drop j) == lcs (a.drop i) (b.drop j)) = false := by simpa using hl
            simp only [ce, cl, Bool.false_eq_true, if_false, e1, Option.bind_some]
            exact ⟨d', e3⟩
      · obtain rfl : j = b.length := by omega
        have c2 : ((b.length : Int) == (b.length : Int)) = true := by simp
        have c3 : decide ((b.length : Int) < (b.length : Int)) = false := by simp
        have hw := wk_cn a[i] (a.drop (i + 1))
        rw [← da] at hw
        have hw2 : wk (a.drop i) (b.drop b.length) = (2, a[i]) :: wk (a.drop (i + 1)) (b.drop b.length) := by rw [List.drop_length]; exact hw
        obtain ⟨d1, e1, d', e3⟩ := step 2 a[i] (i + 1) b.length [] hw2 (by decide) h1 hj (by omega)
        simp only [c1, c2, c3, ra, w1, if_true, if_false, Bool.false_eq_true, Option.bind_some, e1]
        exact ⟨d', e3⟩
    · obtain rfl : i = a.length := by omega
      have c1 : decide ((a.length : Int) < (a.length : Int)) = false := by simp
      by_cases h2 : j < b.length
      · have c3 : decide ((j : Int) < (b.length : Int)) = true := by simpa using h2
        have rb := rd?_at h2
        have db := List.drop_eq_getElem_cons h2
        have hw := wk_nc b[j] (b.drop (j + 1))
        rw [← db] at hw
        have hw2 : wk (a.drop a.length) (b.drop j) = (3, b[j]) :: wk (a.drop a.length) (b.drop (j + 1)) := by rw [List.drop_length]; exact hw
        obtain ⟨d1, e1, d', e3⟩ := step 3 b[j] a.length (j + 1) [] hw2 (by decide) hi h2 (by omega)
        simp only [c1, c3, rb, w2, if_true, if_false, Bool.false_eq_true, Option.bind_some, e1]
        exact ⟨d', e3⟩
      · obtain rfl : j = b.length := by omega
        have c3 : decide ((b.length : Int) < (b.length : Int)) = false := by simp
        simp only [c1, c3, if_false, Bool.false_eq_true, Option.bind_some]
        refine ⟨d, rfl, fun f => ?_, by omega, fun e he => (ht e he).2, h3⟩
        rw [List.drop_length, List.drop_length, wk_nn]
        simp [pickO]
theorem kOne3 (k : Int) (hk : (k == 1) = true) : (k != 3) = true := by
  obtain rfl : k = 1 := by simpa using hk
  decide
theorem kOne2 (k : Int) (hk : (k == 1) = true) : (k != 2) = true := by
  obtain rfl : k = 1 := by simpa using hk
  decide
theorem p_specDiff (a b : List Int) (ha : a.length ≤ big) (hb : b.length ≤ big) : ∃ r : List (Int × List Int) × Bool, spec_DiffOf.f a b = some r ∧ (r.2 = (okShort a && okShort b)) ∧ (r.2 = false → r.1 = []) ∧ (r.2 = true → pick (fun k => k != 3) r.1 = a ∧ pick (fun k => k != 2) r.1 = b ∧ ((pick (fun k => k == 1) r.1).length : Int) = lcs a b ∧ (pick (fun k => k == 1) r.1).Sublist a ∧ (pick (fun k => k == 1) r.1).Sublist b ∧ r.1.length ≤ a.length + b.length ∧ (∀ e ∈ r.1, e.2 ≠ []) ∧ ∀ e ∈ r.1, 1 ≤ e.1 ∧ e.1 ≤ 3) := by
  unfold spec_DiffOf.f
  rw [p_l15List a ha, p_l15List b hb]
  simp only [Option.bind_some]
  cases h1 : okShort a with
  | false => exact ⟨([], false), rfl, rfl, fun _ => rfl, by simp⟩
  | true =>
    cases h2 : okShort b with
    | false => exact ⟨([], false), rfl, rfl, fun _ => rfl, by simp⟩
    | true =>
      simp only [Bool.and_self, Bool.not_true, Bool.false_eq_true, if_false, Option.bind_some]
      have la : a.length ≤ 60 := by
        simp only [okShort, Bool.and_eq_true, decide_eq_true_eq] at h1
        omega
      have lb : b.length ≤ 60 := by
        simp only [okShort, Bool.and_eq_true, decide_eq_true_eq] at h2
        omega
      obtain ⟨t, t2, T⟩ := p_tableV a b (by omega) (by omega)
      obtain ⟨d', e1, e2, e3, e4, e5⟩ := p_walkV a b t T (by omega) (by omega) (a.length + b.length + 2) 0 0 [] (by omega) (by omega) (by omega) (by simp) (by simp) (by simp)
      rw [show ((0 : Nat) : Int) = 0 from rfl] at e1
      unfold spec_l15Diff.f
      simp only [t2, Option.bind_some, e1]
      rw [List.drop_zero, List.drop_zero] at e2 e3
      have hn : ∀ f, pick f ([] : List (Int × List Int)) = [] := fun f => rfl
      have q : ∀ f, pick f d' = pickO f (wk a b) := fun f => by rw [e2 f, hn, List.nil_append]
      refine ⟨(d', true), rfl, rfl, by simp, fun _ => ⟨?_, ?_, ?_, ?_, ?_, ?_, e4, e5⟩⟩
      · rw [q]; exact wk_src a b
      · rw [q]; exact wk_dst a b
      · rw [q]; exact wk_keep a b
      · rw [q]
        have := pickO_sub (f := fun k => k == 1) (g := fun k => k != 3) kOne3 (wk a b)
        rwa [wk_src] at this
      · rw [q]
        have := pickO_sub (f := fun k => k == 1) (g := fun k => k != 2) kOne2 (wk a b)
        rwa [wk_dst] at this
      · have := wk_len a b
        simp at e3
        show d'.length ≤ _
        omega
theorem p_rowsI_l (row : List Int) (r : Int) (l : List Int) (R : Int) (hR : R ≤ 1000000000) (hl : l.length ≤ 1000000) (hrow : row.length = l.length + 1) (hb : inB R row) : ∀ (k i : Nat) (out : List Int) (a : Int), i ≤ l.length → l.length - i < k → out.length = i + 1 → out[i]? = some a → 0 ≤ a → a ≤ 1000000000 + i →
    impl_nextRow.l1 row r l k out i = some (out ++ nxt a (row.drop i) (l.drop i) r) := by
  intro k
  induction k with
  | zero => intro i out a _ h; omega
  | succ k ih =>
    intro i out a hi hk hlen ha ha0 ha1
    rw [impl_nextRow.l1]
    by_cases h : i < l.length
    · have hi1 : i < row.length := by omega
      have hi2 : i + 1 < row.length := by omega
      have hoa : out[i]'(by omega) = a := (List.getElem?_eq_some_iff.1 ha).2
      rw [if_pos (by simpa using h), rd?_at h]
      simp only [Option.bind_some]
      rw [rd?_at hi1]
      simp only [Option.bind_some]
      have hr1 := hb _ (List.getElem_mem hi1)
      have hr2 := hb _ (List.getElem_mem hi2)
      have hby : (if (l[i] != r) = true then some (IntKind.i64.wrap (row[i] + 1)) else some row[i]) = some (if (l[i] != r) = true then row[i] + 1 else row[i]) := by
        split
        · rw [wrapS (by omega) (by omega)]
        · rfl
      rw [hby]
      simp only [Option.bind_some]
      have hbd : 0 ≤ (if (l[i] != r) = true then row[i] + 1 else row[i]) := by split <;> omega
      rw [wrapN i (by omega), rd?_at hi2, rd?_at (by omega : i < out.length), hoa]
      simp only [Option.bind_some]
      rw [wrapS (n := row[i + 1] + 1) (by omega) (by omega), wrapS (n := a + 1) (by omega) (by omega)]
      have hd1 : row.drop i = row[i] :: row[i + 1] :: row.drop (i + 1 + 1) := by rw [List.drop_eq_getElem_cons hi1, List.drop_eq_getElem_cons hi2]
      have hd2 : row.drop (i + 1) = row[i + 1] :: row.drop (i + 1 + 1) := List.drop_eq_getElem_cons hi2
      rw [hd1, List.drop_eq_getElem_cons h]
      unfold nxt
      rw [← hd2]
      generalize hv : min (if (l[i] != r) = true then row[i] + 1 else row[i]) (min (row[i + 1] + 1) (a + 1)) = v
      rw [app?_at (by simp; omega)]
      simp only [Option.bind_some]
      have := ih (i + 1) (out ++ [v]) v h (by omega) (by simp; omega) (by rw [List.getElem?_append_right (by omega)]; simp [hlen]) (by omega) (by omega)
      rw [List.append_assoc] at this
      exact this
    · rw [if_neg (by simpa using h)]
      obtain rfl : i = l.length := by omega
      have e : nxt a (row.drop l.length) (l.drop l.length) r = [] := by
        rw [List.drop_length]
        cases row.drop l.length with
        | nil => rfl
        | cons x xs => cases xs <;> rfl
      rw [e, List.append_nil]
theorem p_nextRow (row : List Int) (r : Int) (l : List Int) (a R : Int) (hR : R ≤ 1000000) (hl : l.length ≤ 1000000) (hrow : row.length = l.length + 1) (hb : inB R row) (ha : row[0]? = some a) : impl_nextRow.f row r l = some ((a + 1) :: nxt (a + 1) row l r) := by
  have h0 : 0 < row.length := by omega
  have e0 : row[0] = a := (List.getElem?_eq_some_iff.1 ha).2
  have hb0 := hb _ (List.getElem_mem h0)
  rw [e0] at hb0
  have := (p_rowsI_l row r l R (by omega) hl hrow hb (((l.length : Int) - 0).toNat + 2) 0 [a + 1] (a + 1) (by omega) (by omega) rfl rfl (by omega) (by omega))
  rw [show ((0 : Nat) : Int) = 0 from rfl] at this
  unfold impl_nextRow.f
  have h1 := rd?_at h0
  rw [show ((0 : Nat) : Int) = 0 from rfl] at h1
  rw [h1, e0]
  simp only [Option.bind_some]
  rw [wrapS (by omega) (by omega), this]
  rfl
theorem p_firstRow_l (n : Nat) (hn : n ≤ 1000000) : ∀ (k i : Nat), i ≤ n + 1 → n + 1 - i < k → impl_firstRow.l1 n k (marks 0 i) i = some (marks 0 (n + 1)) := by
  intro k
  induction k with
  | zero => intro i _ h; omega
  | succ k ih =>
    intro i hi hk
    rw [impl_firstRow.l1, wrapS (by omega) (by omega)]
    by_cases h : i < n + 1
    · rw [if_pos (by simp; omega), app?_at (by rw [marks_len]; simp; omega)]
      simp only [Option.bind_some]
      rw [wrapN i (by omega)]
      have := marks_succ 0 i
      rw [Int.zero_add] at this
      rw [← this]
      exact ih (i + 1) h (by omega)
    · rw [if_neg (by simp; omega)]
      obtain rfl : i = n + 1 := by omega
      rfl
theorem p_firstRow (n : Nat) (hn : n ≤ 1000000) : impl_firstRow.f n = some (marks 0 (n + 1)) := by
  unfold impl_firstRow.f
  rw [wrapS (by omega) (by omega)]
  have := p_firstRow_l n hn (((n : Int) + 1 - 0).toNat + 2) 0 (by omega) (by omega)
  rw [show ((0 : Nat) : Int) = 0 from rfl, show marks 0 0 = [] from rfl] at this
  rw [this]
  rfl
theorem lrow_bd (f : List Int → Int) : ∀ us pre, ∀ e ∈ lrow f pre us, ∃ p, p.length ≤ pre.length + us.length ∧ e = f p
  | [], pre, e, he => by simp [lrow] at he; exact ⟨pre, by simp, he⟩
  | u :: us, pre, e, he => by
    rcases List.mem_cons.1 he with rfl | he
    · exact ⟨pre, by simp, rfl⟩
    · obtain ⟨p, h1, h2⟩ := lrow_bd f us (u :: pre) e he
      exact ⟨p, by simp at h1 ⊢; omega, h2⟩
theorem levRow_in (t b : List Int) : inB (b.length + t.length) (lrow (lev · t) [] b) := fun e he => by
  obtain ⟨p, h1, rfl⟩ := lrow_bd _ _ _ e he
  have := lev_le p t
  have := lev_pos p t
  simp at h1
  omega
theorem lrow_congr {f g : List Int → Int} (h : ∀ p, f p = g p) (pre us : List Int) : lrow f pre us = lrow g pre us := by rw [show f = g from funext h]
theorem lev_row0 (b : List Int) : lrow (lev · []) [] b = marks 0 (b.length + 1) := by
  have := lrow_zero b []
  rw [show ((([] : List Int).length : Nat) : Int) = 0 from rfl] at this
  rw [← this]
  exact lrow_congr (fun p => lev_nr p) _ _
theorem levF (u : Int) (p : List Int) (r : Int) (t : List Int) : lev (u :: p) (r :: t) = min (lev p t + if u = r then 0 else 1) (min (lev (u :: p) t + 1) (lev p (r :: t) + 1)) := lev_cc u p r t
theorem take_succ_rev (a : List Int) {i : Nat} (h : i < a.length) : (a.take (i + 1)).reverse = a[i] :: (a.take i).reverse := by
  rw [List.take_succ_eq_append_getElem h, List.reverse_append]
  rfl
theorem p_dist_rowsI (a b : List Int) (ha : a.length ≤ 1000) (hb : b.length ≤ 1000) : ∀ (k i : Nat), i ≤ a.length → a.length - i < k →
    impl_distances.l1 a b k (lrow (lev · (a.take i).reverse) [] b) i = some (lrow (lev · a.reverse) [] b) := by
  intro k
  induction k with
  | zero => intro i _ h; omega
  | succ k ih =>
    intro i hi hk
    rw [impl_distances.l1]
    by_cases h : i < a.length
    · rw [if_pos (by simpa using h), rd?_at h]
      simp only [Option.bind_some]
      have hlen : (lrow (lev · (a.take i).reverse) [] b).length = b.length + 1 := lrow_len _ _ _
      have hin := levRow_in (a.take i).reverse b
      have hl : (a.take i).reverse.length = i := by simp; omega
      rw [hl] at hin
      obtain ⟨z, hz⟩ := lrow_cons (lev · (a.take i).reverse) [] b
      have h0 : (lrow (lev · (a.take i).reverse) [] b)[0]? = some (i : Int) := by
        rw [hz]
        show some (lev [] (a.take i).reverse) = _
        rw [lev_nl, hl]
      rw [wrapN i (by omega), p_nextRow _ a[i] b (i : Int) (b.length + i) (by omega) (by omega) hlen hin h0]
      simp only [Option.bind_some]
      have hn := nxt_row lev levF a[i] (a.take i).reverse b []
      rw [← take_succ_rev a h, lev_nl] at hn
      have hl2 : (a.take (i + 1)).reverse.length = i + 1 := by simp; omega
      rw [hl2] at hn
      rw [show ((i : Int) + 1) = ((i + 1 : Nat) : Int) by omega, hn]
      exact ih (i + 1) h (by omega)
    · rw [if_neg (by simpa using h)]
      obtain rfl : i = a.length := by omega
      rw [List.take_length]
theorem p_implDist (a b : List Int) (ha : a.length ≤ big) (hb : b.length ≤ big) : impl_DistanceOf.f a b = some (if okShort a && okShort b then (lev b.reverse a.reverse, true) else (0, false)) := by
  unfold impl_DistanceOf.f
  rw [p_areShort [a, b] (by simp [big]) (by simp [ha, hb])]
  simp only [Option.bind_some, List.all_cons, List.all_nil, Bool.and_true]
  cases hs : (okShort a && okShort b) with
  | false => rfl
  | true =>
    simp only [Bool.not_true, Bool.false_eq_true, if_false, if_true]
    simp only [okShort, Bool.and_eq_true, decide_eq_true_eq] at hs
    unfold impl_distances.f
    rw [p_firstRow b.length (by omega)]
    simp only [Option.bind_some]
    have := (p_dist_rowsI a b (by omega) (by omega) (((a.length : Int) - 0).toNat + 2) 0 (by omega) (by omega))
    rw [List.take_zero, List.reverse_nil, lev_row0, show ((0 : Nat) : Int) = 0 from rfl] at this
    rw [this]
    simp only [Option.bind_some]
    have hl := lrow_last (lev · a.reverse) b []
    have hlt : b.length < (lrow (lev · a.reverse) [] b).length := by rw [lrow_len]; omega
    rw [rd?_at hlt]
    rw [List.getElem?_eq_getElem hlt, List.append_nil] at hl
    simp only [Option.bind_some]
    rw [Option.some.inj hl]
abbrev Ed := Int × List Int
def okLen (d : List Ed) : Prop := d.length ≤ big ∧ ∀ u ∈ d, u.2.length ≤ big
/-- What the marks of edits count. -/
def wEd : List Ed → Int
  | [] => 0
  | u :: us => 1 + u.2.length + wEd us
theorem wEd_cons (u : Ed) (us : List Ed) : wEd (u :: us) = 1 + u.2.length + wEd us := rfl
theorem wEd_pos : ∀ d : List Ed, 0 ≤ wEd d
  | [] => Int.le_refl _
  | u :: us => by have := wEd_pos us; rw [wEd_cons]; omega
theorem wEd_eq : ∀ d : List Ed, wEd d = d.length + sumW (fun u : Ed => (u.2.length : Int)) d
  | [] => rfl
  | u :: us => by
    have := wEd_eq us
    simp only [List.length_cons, wEd_cons, sumW]
    omega
theorem wEd_ok {d : List Ed} (h : wEd d ≤ 1048576) : okLen d ∧ d.length ≤ 1048576 := by
  have hp : ∀ u ∈ d, 0 ≤ (u.2.length : Int) := fun u _ => by omega
  have h2 := wEd_eq d
  have h3 := sumW_pos (w := fun u : Ed => (u.2.length : Int)) hp
  exact ⟨⟨by unfold big; omega, fun u hu => by have := sumW_mem (w := fun u : Ed => (u.2.length : Int)) hp u hu; unfold big; omega⟩, by omega⟩
def okEd (u : Ed) : Bool := (decide (1 ≤ u.1) && decide (u.1 ≤ 3)) && !((u.2.length : Int) == 0) && okShort u.2
theorem p_areEdits (d : List Ed) (hd : okLen d) : impl_areEdits.f d = some (decide ((d.length : Int) ≤ 120) && d.all okEd) := by
  unfold impl_areEdits.f slices_ContainsFunc_impl_Edit_impl_Edit_impl_areEdits_1.f slices_IndexFunc_impl_Edit_impl_Edit_impl_areEdits_1.f
  by_cases h : (d.length : Int) ≤ 120
  · rw [if_pos (by simpa using h)]
    have key : ∀ (k i : Nat), i ≤ d.length → d.length - i < k → ∃ o, slices_IndexFunc_impl_Edit_impl_Edit_impl_areEdits_1.l1 d k i = some o ∧ (if (d.drop i).all okEd then o = .go () else ∃ n : Int, 0 ≤ n ∧ o = .ret n) := by
      intro k
      induction k with
      | zero => intro i _ h; omega
      | succ k ih =>
        intro i hi hk
        rw [slices_IndexFunc_impl_Edit_impl_Edit_impl_areEdits_1.l1]
        by_cases h : i < d.length
        · rw [if_pos (by simpa using h), rd?_at h]
          have hm := List.getElem_mem h
          have e : impl_areEdits_1.f d[i].1 d[i].2 = some (!okEd d[i]) := by
            unfold impl_areEdits_1.f okEd
            rw [p_areShort [d[i].2] (by simp [big]) (by simpa using hd.2 _ hm)]
            simp only [p_inRange, Option.bind_some, List.all_cons, List.all_nil, Bool.and_true]
            cases (decide (1 ≤ d[i].1) && decide (d[i].1 ≤ 3)) <;> cases ((d[i].2.length : Int) == 0) <;> cases okShort d[i].2 <;> rfl
          simp only [Option.bind_some]
          rw [e]
          simp only [Option.bind_some]
          rw [List.drop_eq_getElem_cons h, List.all_cons]
          cases hr : okEd d[i] with
          | false => exact ⟨.ret i, by simp, by simp⟩
          | true =>
            simp only [Bool.not_true, Bool.false_eq_true, if_false, Bool.true_and]
            rw [wrapN i (by have := hd.1; unfold big at this; omega)]
            exact ih (i + 1) h (by omega)
        · rw [if_neg (by simpa using h)]
          exact ⟨_, rfl, by simp [List.drop_eq_nil_of_le (by omega : d.length ≤ i)]⟩
    obtain ⟨o, h1, h2⟩ := key (((d.length : Int) - 0).toNat + 2) 0 (by omega) (by omega)
    rw [show ((0 : Nat) : Int) = 0 from rfl] at h1
    rw [h1]
    rw [List.drop_zero] at h2
    cases hr : d.all okEd with
    | true =>
      rw [hr, if_pos rfl] at h2
      subst h2
      simp [h]
    | false =>
      rw [hr] at h2
      obtain ⟨m, hm, rfl⟩ := h2
      simp [hm]
  · rw [if_neg (by simpa using h)]
    simp [h]
theorem p_l15Edits (d : List Ed) (hd : okLen d) : spec_l15Edits.f d = some (decide ((d.length : Int) ≤ 120) && d.all okEd) := by
  unfold spec_l15Edits.f
  have key : ∀ (k i : Nat), i ≤ d.length → d.length - i < k → spec_l15Edits.l1 d k i = some (if (d.drop i).all okEd then .go () else .ret false) := by
    intro k
    induction k with
    | zero => intro i _ h; omega
    | succ k ih =>
      intro i hi hk
      rw [spec_l15Edits.l1]
      by_cases h : i < d.length
      · rw [if_pos (by simpa using h), rd?_at h]
        have hm := List.getElem_mem h
        simp only [Option.bind_some, p_l1In, p_l15List _ (hd.2 _ hm)]
        rw [List.drop_eq_getElem_cons h, List.all_cons]
        have e : ((if (!(decide (1 ≤ d[i].1) && decide (d[i].1 ≤ 3))) = true then some true else if ((d[i].2.length : Int) == 0) = true then some true else some (!okShort d[i].2)) : Option Bool) = some (!okEd d[i]) := by
          unfold okEd
          cases (decide (1 ≤ d[i].1) && decide (d[i].1 ≤ 3)) <;> cases ((d[i].2.length : Int) == 0) <;> cases okShort d[i].2 <;> rfl
        rw [e]
        cases hr : okEd d[i] with
        | false => simp
        | true =>
          simp only [Bool.not_true, Option.bind_some, Bool.false_eq_true, if_false, Bool.true_and]
          rw [wrapN i (by have := hd.1; unfold big at this; omega)]
          exact ih (i + 1) h (by omega)
      · rw [if_neg (by simpa using h)]
        simp [List.drop_eq_nil_of_le (by omega : d.length ≤ i)]
  have := key (((d.length : Int) - 0).toNat + 2) 0 (by omega) (by omega)
  rw [show ((0 : Nat) : Int) = 0 from rfl] at this
  rw [this, List.drop_zero]
  cases d.all okEd <;> simp
theorem p_l1Same (p q : List Int) (hp : p.length ≤ big) : spec_l1Same.f p q = some (decide (p = q)) :=
  eq_all p q hp (spec_l1Same.l1 p q) _ (by omega) fun _ _ _ => rfl
theorem p_Equal (p q : List Int) (hp : p.length ≤ big) : slices_Equal_int_int.f p q = some (decide (p = q)) :=
  eq_all p q hp (slices_Equal_int_int.l1 p q) _ (by omega) fun _ _ _ => rfl
theorem p_apply_l (d : List Ed) (hl : d.length ≤ 120) (hel : ∀ u ∈ d, u.2.length ≤ 60) : ∀ (k i : Nat) (out rest : List Int), i ≤ d.length → d.length - i < k → out.length ≤ 60 * i → rest.length ≤ 60 →
    ∃ o o', impl_ApplyDiff.l1 d k out rest i = some o ∧ spec_ApplyDiff.l1 d k rest out i = some o' ∧ ((∃ a b, o = .go (a, b) ∧ o' = .go (b, a) ∧ a.length ≤ 7200) ∨ (o = .ret ([], false) ∧ o' = .ret ([], false))) := by
  intro k
  induction k with
  | zero => intro i out rest _ h; omega
  | succ k ih =>
    intro i out rest hi hk ho hr
    rw [impl_ApplyDiff.l1, spec_ApplyDiff.l1]
    by_cases h : i < d.length
    · rw [if_pos (by simpa using h), if_pos (by simpa using h), rd?_at h]
      have hu := hel _ (List.getElem_mem h)
      generalize d[i] = u at hu
      obtain ⟨c, t⟩ := u
      simp only at hu
      simp only [Option.bind_some]
      have app : app? 17592186044416 out t = some (out ++ t) := app?_at (by omega)
      -- the step, both ways
      have fin : ∀ rest' : List Int, rest'.length ≤ 60 → ∃ o o', ((if (c != 2) = true then ((app? 17592186044416 out t).bind fun x871 => some (Lo.go (ρ := Lo (List Int × List Int) (List Int × Bool)) (x871, rest'))) else (some (Lo.go (out, rest')))).bind fun (o : Lo ((List (Int)) × (List (Int))) (Lo ((List (Int)) × (List (Int))) ((List (Int)) × Bool))) => match o with | .go (x805, x806) => (impl_ApplyDiff.l1 d k x805 x806 (IntKind.i64.wrap ((i : Int) + 1))) | .ret z => some z) = some o ∧
          ((if (c != 2) = true then ((app? 17592186044416 out t).bind fun x870 => some (Lo.go (ρ := Lo (List Int × List Int) (List Int × Bool)) (rest', x870))) else (some (Lo.go (rest', out)))).bind fun (o : Lo ((List (Int)) × (List (Int))) (Lo ((List (Int)) × (List (Int))) ((List (Int)) × Bool))) => match o with | .go (x804, x805) => (spec_ApplyDiff.l1 d k x804 x805 (IntKind.i64.wrap ((i : Int) + 1))) | .ret z => some z) = some o' ∧ ((∃ a b, o = .go (a, b) ∧ o' = .go (b, a) ∧ a.length ≤ 7200) ∨ (o = .ret ([], false) ∧ o' = .ret ([], false))) := by
        intro rest' hr'
        rw [app, wrapN i (by omega)]
        simp only [Option.bind_some]
        split
        · exact ih (i + 1) _ _ h (by omega) (by simp; omega) hr'
        · exact ih (i + 1) _ _ h (by omega) (by omega) hr'
      by_cases h3 : (c != 3) = true
      · rw [if_pos h3, if_pos h3]
        by_cases hlen : rest.length < t.length
        · rw [if_pos (by simpa using hlen), if_pos (by simpa using hlen)]
          exact ⟨_, _, rfl, rfl, .inr ⟨rfl, rfl⟩⟩
        · rw [if_neg (by simpa using hlen), if_neg (by simpa using hlen)]
          have e1 : cut? rest 0 (t.length : Int) = some (rest.take t.length) := by
            have := cut?_at (xs := rest) (a := 0) (b := t.length) (by omega) (by omega)
            rw [show ((0 : Nat) : Int) = 0 from rfl] at this
            simpa using this
          have e2 : cut? rest (t.length : Int) (rest.length : Int) = some (rest.drop t.length) := by
            have := cut?_at (xs := rest) (a := t.length) (b := rest.length) (by omega) (by omega)
            simpa using this
          rw [e1, e2]
          simp only [Option.bind_some]
          have hb : (rest.take t.length).length ≤ big := by simp [big]; omega
          rw [p_Equal _ _ hb, p_l1Same _ _ hb]
          simp only [Option.bind_some]
          by_cases hs : rest.take t.length = t
          · rw [if_neg (by simp [hs])]
            simp only [Option.bind_some]
            exact fin _ (by simp; omega)
          · rw [if_pos (by simp [hs])]
            exact ⟨_, _, rfl, rfl, .inr ⟨rfl, rfl⟩⟩
      · rw [if_neg h3, if_neg h3]
        simp only [Option.bind_some]
        exact fin _ hr
    · rw [if_neg (by simpa using h), if_neg (by simpa using h)]
      exact ⟨_, _, rfl, rfl, .inl ⟨_, _, rfl, rfl, by omega⟩⟩
theorem p_ApplyDiff (a : List Int) (d : List Ed) (ha : a.length ≤ big) (hd : okLen d) : ∃ r : List Int × Bool, impl_ApplyDiff.f a d = some r ∧ spec_ApplyDiff.f a d = some r ∧ r.1.length ≤ 7200 := by
  unfold impl_ApplyDiff.f spec_ApplyDiff.f
  rw [p_areEdits d hd, p_l15Edits d hd, p_areShort [a] (by simp [big]) (by simpa using ha), p_l15List a ha]
  simp only [Option.bind_some, List.all_cons, List.all_nil, Bool.and_true]
  cases h1 : okShort a with
  | false => exact ⟨_, rfl, rfl, by simp⟩
  | true =>
    simp only [Bool.not_true, Bool.false_eq_true, if_false]
    cases h : (decide ((d.length : Int) ≤ 120) && d.all okEd) with
    | false => exact ⟨_, rfl, rfl, by simp⟩
    | true =>
      simp only [Bool.not_true, Bool.false_eq_true, if_false, Option.bind_some]
      simp only [Bool.and_eq_true, decide_eq_true_eq, List.all_eq_true] at h
      obtain ⟨hl, hok⟩ := h
      have hel : ∀ u ∈ d, u.2.length ≤ 60 := fun u hu => by
        have := hok u hu
        simp only [okEd, okShort, Bool.and_eq_true, decide_eq_true_eq] at this
        omega
      simp only [okShort, Bool.and_eq_true, decide_eq_true_eq] at h1
      obtain ⟨o, o', f1, f2, f3⟩ := p_apply_l d (by omega) hel (((d.length : Int) - 0).toNat + 2) 0 [] a (by omega) (by omega) (by simp) (by omega)
      rw [show ((0 : Nat) : Int) = 0 from rfl] at f1 f2
      rw [f1, f2]
      simp only [Option.bind_some]
      rcases f3 with ⟨x, y, rfl, rfl, hx⟩ | ⟨rfl, rfl⟩
      · simp only []
        by_cases c1 : (y.length : Int) > 0
        · rw [if_pos (by simpa using c1)]
          exact ⟨_, rfl, rfl, by simp⟩
        · rw [if_neg (by simpa using c1)]
          simp only [Option.bind_some]
          split
          · exact ⟨_, rfl, rfl, by simp⟩
          · exact ⟨_, rfl, rfl, hx⟩
      · exact ⟨_, rfl, rfl, by simp⟩
def turn (u : Ed) : Ed := (if u.1 = 2 then 3 else if u.1 = 3 then 2 else u.1, u.2)
theorem p_TurnDiff (d : List Ed) (hd : okLen d) : ∃ r : List Ed × Bool, impl_TurnDiff.f d = some r ∧ spec_TurnDiff.f d = some r ∧ okLen r.1 ∧ r.1.length ≤ 120 ∧ wEd r.1 ≤ 10000 := by
  unfold impl_TurnDiff.f spec_TurnDiff.f
  rw [p_areEdits d hd, p_l15Edits d hd]
  simp only [Option.bind_some]
  cases h : (decide ((d.length : Int) ≤ 120) && d.all okEd) with
  | false => exact ⟨_, rfl, rfl, ⟨by simp [big], by simp⟩, by simp, by simp [wEd]⟩
  | true =>
    simp only [Bool.not_true, Bool.false_eq_true, if_false]
    simp only [Bool.and_eq_true, decide_eq_true_eq, List.all_eq_true] at h
    obtain ⟨hl, hok⟩ := h
    have hel : ∀ u ∈ d, 1 ≤ u.1 ∧ u.1 ≤ 3 ∧ u.2.length ≤ 60 := fun u hu => by
      have := hok u hu
      simp only [okEd, okShort, Bool.and_eq_true, decide_eq_true_eq] at this
      omega
    have key : ∀ (k i : Nat) (out : List Ed), i ≤ d.length → d.length - i < k → out.length ≤ i → impl_TurnDiff.l1 d k out i = some (out ++ (d.drop i).map turn) ∧ spec_TurnDiff.l1 d k out i = some (out ++ (d.drop i).map turn) := by
      intro k
      induction k with
      | zero => intro i out _ h; omega
      | succ k ih =>
        intro i out hi hk ho
        rw [impl_TurnDiff.l1, spec_TurnDiff.l1]
        by_cases h : i < d.length
        · rw [if_pos (by simpa using h), if_pos (by simpa using h), rd?_at h]
          obtain ⟨b1, b2, b3⟩ := hel _ (List.getElem_mem h)
          simp only [Option.bind_some]
          have e1 : (if (d[i].1 == 2) = true then some (3 : Int) else if (d[i].1 == 3) = true then some 2 else some d[i].1) = some (turn d[i]).1 := by
            unfold turn
            by_cases c2 : d[i].1 = 2
            · simp [c2]
            · by_cases c3 : d[i].1 = 3 <;> simp [c2, c3]
          have e2 : (if (d[i].1 != 1) = true then some (IntKind.i64.wrap (5 - d[i].1)) else some d[i].1) = some (turn d[i]).1 := by
            unfold turn
            rw [wrapS (by omega) (by omega)]
            have : d[i].1 = 1 ∨ d[i].1 = 2 ∨ d[i].1 = 3 := by omega
            rcases this with c | c | c <;> simp [c]
          rw [e1, e2]
          simp only [Option.bind_some]
          unfold slices_Clone_int_int.f spec_l1Own.f
          rw [app?_at (by simp; omega)]
          simp only [Option.bind_some, List.nil_append]
          rw [app?_at (by simp; omega)]
          simp only [Option.bind_some]
          rw [wrapN i (by omega)]
          have := ih (i + 1) (out ++ [((turn d[i]).1, d[i].2)]) h (by omega) (by simp; omega)
          rw [List.append_assoc] at this
          rw [List.drop_eq_getElem_cons h]
          exact this
        · rw [if_neg (by simpa using h), if_neg (by simpa using h), List.drop_eq_nil_of_le (by omega)]
          simp
    obtain ⟨f1, f2⟩ := key (((d.length : Int) - 0).toNat + 2) 0 [] (by omega) (by omega) (by simp)
    rw [show ((0 : Nat) : Int) = 0 from rfl] at f1 f2
    rw [f1, f2]
    refine ⟨_, rfl, rfl, ⟨by simp [big]; omega, ?_⟩, by simp; omega, ?_⟩
    · intro u hu
      simp only [List.nil_append, List.drop_zero, List.mem_map] at hu
      obtain ⟨v, hv, rfl⟩ := hu
      have := (hel v hv).2.2
      unfold turn big
      show v.2.length ≤ _
      omega
    · have : ∀ d : List Ed, (∀ u ∈ d, u.2.length ≤ 60) → wEd (d.map turn) ≤ 61 * d.length := by
        intro d
        induction d with
        | nil => intro _; simp [wEd]
        | cons u us ih =>
          intro h
          have h1 := h u (by simp)
          have h2 := ih fun v hv => h v (List.mem_cons_of_mem _ hv)
          simp only [List.map_cons, wEd_cons, List.length_cons]
          have : (turn u).2 = u.2 := rfl
          rw [this]
          omega
      have := this d fun u hu => (hel u hu).2.2
      show wEd ([] ++ (d.drop 0).map turn) ≤ _
      simp only [List.nil_append, List.drop_zero]
      omega
theorem p_kstep (k r : Int) (out : List Int) (N : Nat) (hN : N ≤ 2000) (ho : out.length ≤ N) : impl_CommonOf_1.f k r out = some (out ++ (if (k == 1) = true then [r] else [])) := by
  unfold impl_CommonOf_1.f
  split
  · rw [app?_at (by simp; omega)]
    rfl
  · simp
theorem p_walk (a b : List Int) (t : List (List Int)) (T : Tab 0 a.length b.length t) (ha : a.length ≤ 100) (hb : b.length ≤ 100) : ∀ (k i j : Nat) (d : List (Int × List Int)) (out : List Int), i ≤ a.length → j ≤ b.length → a.length + b.length - i - j < k → d.length ≤ i + j → (∀ e ∈ d, e.2.length ≤ i + j) → out = keeps d → out.length ≤ i + j →
    ∃ d' out', spec_l15Diff.l1 a b t k d i j = some d' ∧ impl_along_impl_CommonOf_1.l1 a b t k i j out = some out' ∧ out' = keeps d' ∧ d'.length ≤ 200 ∧ (∀ e ∈ d', e.2.length ≤ 200) ∧ out'.length ≤ 200 := by
  intro k
  induction k with
  | zero => intro i j d out _ _ h; omega
  | succ k ih =>
    intro i j d out hi hj hk hd ht ho hol
    have step : ∀ (kind r : Int) (i' j' : Nat), i' ≤ a.length → j' ≤ b.length → i + j + 1 ≤ i' + j' → ∃ d1, spec_l15Add.f d kind r = some d1 ∧ impl_CommonOf_1.f kind r out = some (out ++ (if (kind == 1) = true then [r] else [])) ∧
        ∃ d' out', spec_l15Diff.l1 a b t k d1 i' j' = some d' ∧ impl_along_impl_CommonOf_1.l1 a b t k i' j' (out ++ (if (kind == 1) = true then [r] else [])) = some out' ∧ out' = keeps d' ∧ d'.length ≤ 200 ∧ (∀ e ∈ d', e.2.length ≤ 200) ∧ out'.length ≤ 200 := by
      intro kind r i' j' h1 h2 h3
      obtain ⟨d1, g1, g2, g3, g4⟩ := p_add d kind r (i + j) (by omega) hd ht
      refine ⟨d1, g1, p_kstep kind r out (i + j) (by omega) hol, ?_⟩
      refine ih i' j' d1 _ h1 h2 (by omega) (by omega) (fun e he => by have := g4 e he; omega) (by rw [g2, ho]) ?_
      rw [List.length_append]
      split <;> simp <;> omega
    rw [spec_l15Diff.l1, impl_along_impl_CommonOf_1.l1]
    have w1 := wrapN i (by omega)
    have w2 := wrapN j (by omega)
    by_cases h1 : i < a.length
    · have c1 : decide ((i : Int) < (a.length : Int)) = true := by simpa using h1
      have c4 : ((i : Int) == (a.length : Int)) = false := by simp; omega
      have ra := rd?_at h1
      by_cases h2 : j < b.length
      · have c2 : ((j : Int) == (b.length : Int)) = false := by simp; omega
        have c3 : decide ((j : Int) < (b.length : Int)) = true := by simpa using h2
        have rb := rd?_at h2
        obtain ⟨r1, g1, l1⟩ := T.2 (i + 1) (by omega) (by omega)
        obtain ⟨r0, g0, l0⟩ := T.2 i (by omega) (by omega)
        have q1 : rd? t (((i + 1 : Nat)) : Int) = some r1 := rd?_get g1
        have q0 : rd? t (i : Int) = some r0 := rd?_get g0
        have s1 : rd? r1 (j : Int) = some r1[j] := rd?_at (by omega)
        have s0 : rd? r0 (j : Int) = some r0[j] := rd?_at (by omega)
        simp only [c1, c2, c3, c4, ra, rb, w1, w2, q1, q0, s1, s0, if_true, if_false, Bool.false_eq_true, Option.bind_some]
        cases he : a[i] == b[j] with
        | true =>
          obtain ⟨d1, e1, e2, d', out', e3, e4, e5⟩ := step 1 a[i] (i + 1) (j + 1) h1 h2 (by omega)
          simp only [if_true, e1, e2, Option.bind_some]
          exact ⟨d', out', e3, e4, e5⟩
        | false =>
          cases ht2 : r1[j] == r0[j] with
          | true =>
            obtain ⟨d1, e1, e2, d', out', e3, e4, e5⟩ := step 2 a[i] (i + 1) j h1 hj (by omega)
            simp only [Bool.false_eq_true, if_true, if_false, e1, e2, Option.bind_some]
            exact ⟨d', out', e3, e4, e5⟩
          | false =>
            obtain ⟨d1, e1, e2, d', out', e3, e4, e5⟩ := step 3 b[j] i (j + 1) hi h2 (by omega)
            simp only [Bool.false_eq_true, if_false, e1, e2, Option.bind_some]
            exact ⟨d', out', e3, e4, e5⟩
      · have hje : j = b.length := by omega
        have c2 : ((j : Int) == (b.length : Int)) = true := by simp; omega
        have c3 : decide ((j : Int) < (b.length : Int)) = false := by simpa using h2
        obtain ⟨d1, e1, e2, d', out', e3, e4, e5⟩ := step 2 a[i] (i + 1) j h1 hj (by omega)
        simp only [c1, c2, c3, ra, w1, if_true, if_false, Bool.false_eq_true, Option.bind_some, e1, e2]
        exact ⟨d', out', e3, e4, e5⟩
    · have c1 : decide ((i : Int) < (a.length : Int)) = false := by simpa using h1
      have c4 : ((i : Int) == (a.length : Int)) = true := by simp; omega
      by_cases h2 : j < b.length
      · have c2 : ((j : Int) == (b.length : Int)) = false := by simp; omega
        have c3 : decide ((j : Int) < (b.length : Int)) = true := by simpa using h2
        have rb := rd?_at h2
        obtain ⟨d1, e1, e2, d', out', e3, e4, e5⟩ := step 3 b[j] i (j + 1) hi h2 (by omega)
        simp only [c1, c2, c3, c4, rb, w2, if_true, if_false, Bool.false_eq_true, Option.bind_some, e1, e2]
        exact ⟨d', out', e3, e4, e5⟩
      · have c3 : decide ((j : Int) < (b.length : Int)) = false := by simpa using h2
        simp only [c1, c3, if_false, Bool.false_eq_true, Option.bind_some]
        exact ⟨d, out, rfl, rfl, ho, by omega, fun e he => by have := ht e he; omega, by omega⟩
theorem p_keepLoop (u : (List (Int × List Int)) × Bool) (hl : u.1.length ≤ 200) (ht : ∀ e ∈ u.1, e.2.length ≤ 200) : ∀ (k i : Nat) (out : List Int), i ≤ u.1.length → u.1.length - i < k → out.length ≤ 200 * i → spec_CommonOf.l1 u k out i = some (out ++ keeps (u.1.drop i)) := by
  intro k
  induction k with
  | zero => intro i out _ h; omega
  | succ k ih =>
    intro i out hi hk ho
    rw [spec_CommonOf.l1]
    by_cases h : i < u.1.length
    · have he := ht u.1[i] (List.getElem_mem h)
      rw [if_pos (by simpa using h), rd?_at h, wrapN i (by omega), List.drop_eq_getElem_cons h]
      simp only [Option.bind_some]
      have key : keeps (u.1[i] :: u.1.drop (i + 1)) = (if (u.1[i].1 == 1) = true then u.1[i].2 else []) ++ keeps (u.1.drop (i + 1)) := rfl
      rw [key]
      split
      · rw [app?_at (by omega)]
        simp only [Option.bind_some]
        rw [ih (i + 1) _ h (by omega) (by simp; omega), List.append_assoc]
      · simp only [Option.bind_some]
        rw [ih (i + 1) _ h (by omega) (by omega)]
        rfl
    · rw [if_neg (by simpa using h)]
      obtain rfl : i = u.1.length := by omega
      simp [keeps]
theorem p_CommonOf (a b : List Int) (ha : a.length ≤ big) (hb : b.length ≤ big) : ∃ r : List Int × Bool, impl_CommonOf.f a b = some r ∧ spec_CommonOf.f a b = some r ∧ r.1.length ≤ 2000 := by
  unfold impl_CommonOf.f spec_CommonOf.f spec_DiffOf.f
  rw [p_areShort [a, b] (by unfold big; simp) (by simp; exact ⟨ha, hb⟩), p_l15List a ha, p_l15List b hb]
  simp only [Option.bind_some, List.all_cons, List.all_nil, Bool.and_true]
  cases h1 : okShort a with
  | false => exact ⟨([], false), rfl, rfl, by simp⟩
  | true =>
    cases h2 : okShort b with
    | false => exact ⟨([], false), rfl, rfl, by simp⟩
    | true =>
      simp only [Bool.and_self, Bool.not_true, Bool.false_eq_true, if_false, Option.bind_some]
      have la : a.length ≤ 60 := by
        simp only [okShort, Bool.and_eq_true, decide_eq_true_eq] at h1
        omega
      have lb : b.length ≤ 60 := by
        simp only [okShort, Bool.and_eq_true, decide_eq_true_eq] at h2
        omega
      obtain ⟨t, t1, t2, T⟩ := p_table a b (by omega) (by omega)
      obtain ⟨d', out', e1, e2, e3, e4, e5, e6⟩ := p_walk a b t T (by omega) (by omega) (a.length + b.length + 2) 0 0 [] [] (by omega) (by omega) (by omega) (by simp) (by simp) rfl (by simp)
      rw [show ((0 : Nat) : Int) = 0 from rfl] at e1 e2
      have hk := p_keepLoop (d', true) e4 e5 (((d'.length : Int) - 0).toNat + 2) 0 [] (by omega) (by show d'.length - 0 < _; omega) (by simp)
      rw [show ((0 : Nat) : Int) = 0 from rfl] at hk
      refine ⟨(out', true), ?_, ?_, by simp; omega⟩
      · unfold impl_along_impl_CommonOf_1.f
        simp only [t1, Option.bind_some, e2]
      · unfold spec_l15Diff.f
        simp only [t2, Option.bind_some, e1, Bool.not_true, Bool.false_eq_true, if_false]
        rw [hk]
        simp [e3]
theorem p_same (d : List Ed) (k r : Int) (hd : d.length ≤ 2000) : impl_DiffOf_1.f k r d = spec_l15Add.f d k r := by
  unfold impl_DiffOf_1.f spec_l15Add.f
  have e : decide (IntKind.i64.wrap ((d.length : Int) - 1) ≥ 0) = decide ((d.length : Int) > 0) := by
    rw [wrapS (by omega) (by omega), Bool.eq_iff_iff, decide_eq_true_eq, decide_eq_true_eq]
    omega
  rw [e]
theorem p_walkD (a b : List Int) (t : List (List Int)) (T : Tab 0 a.length b.length t) (ha : a.length ≤ 100) (hb : b.length ≤ 100) : ∀ (k i j : Nat) (d : List Ed), i ≤ a.length → j ≤ b.length → a.length + b.length - i - j < k → d.length ≤ i + j → (∀ e ∈ d, e.2.length ≤ i + j) →
    ∃ d', spec_l15Diff.l1 a b t k d i j = some d' ∧ impl_along_impl_DiffOf_1.l1 a b t k i j d = some d' ∧ d'.length ≤ 200 ∧ (∀ e ∈ d', e.2.length ≤ 200) := by
  intro k
  induction k with
  | zero => intro i j d _ _ h; omega
  | succ k ih =>
    intro i j d hi hj hk hd ht
    have step : ∀ (kind r : Int) (i' j' : Nat), i' ≤ a.length → j' ≤ b.length → i + j + 1 ≤ i' + j' → ∃ d1, spec_l15Add.f d kind r = some d1 ∧ impl_DiffOf_1.f kind r d = some d1 ∧
        ∃ d', spec_l15Diff.l1 a b t k d1 i' j' = some d' ∧ impl_along_impl_DiffOf_1.l1 a b t k i' j' d1 = some d' ∧ d'.length ≤ 200 ∧ (∀ e ∈ d', e.2.length ≤ 200) := by
      intro kind r i' j' h1 h2 h3
      obtain ⟨d1, g1, g2, g3, g4⟩ := p_add d kind r (i + j) (by omega) hd ht
      refine ⟨d1, g1, by rw [p_same d kind r (by omega)]; exact g1, ?_⟩
      exact ih i' j' d1 h1 h2 (by omega) (by omega) (fun e he => by have := g4 e he; omega)
    rw [spec_l15Diff.l1, impl_along_impl_DiffOf_1.l1]
    have w1 := wrapN i (by omega)
    have w2 := wrapN j (by omega)
    by_cases h1 : i < a.length
    · have c1 : decide ((i : Int) < (a.length : Int)) = true := by simpa using h1
      have c4 : ((i : Int) == (a.length : Int)) = false := by simp; omega
      have ra := rd?_at h1
      by_cases h2 : j < b.length
      · have c2 : ((j : Int) == (b.length : Int)) = false := by simp; omega
        have c3 : decide ((j : Int) < (b.length : Int)) = true := by simpa using h2
        have rb := rd?_at h2
        obtain ⟨r1, g1, l1⟩ := T.2 (i + 1) (by omega) (by omega)
        obtain ⟨r0, g0, l0⟩ := T.2 i (by omega) (by omega)
        have q1 : rd? t (((i + 1 : Nat)) : Int) = some r1 := rd?_get g1
        have q0 : rd? t (i : Int) = some r0 := rd?_get g0
        have s1 : rd? r1 (j : Int) = some r1[j] := rd?_at (by omega)
        have s0 : rd? r0 (j : Int) = some r0[j] := rd?_at (by omega)
        simp only [c1, c2, c3, c4, ra, rb, w1, w2, q1, q0, s1, s0, if_true, if_false, Bool.false_eq_true, Option.bind_some]
        cases he : a[i] == b[j] with
        | true =>
          obtain ⟨d1, e1, e2, d', e3, e4, e5⟩ := step 1 a[i] (i + 1) (j + 1) h1 h2 (by omega)
          simp only [if_true, e1, e2, Option.bind_some]
          exact ⟨d', e3, e4, e5⟩
        | false =>
          cases ht2 : r1[j] == r0[j] with
          | true =>
            obtain ⟨d1, e1, e2, d', e3, e4, e5⟩ := step 2 a[i] (i + 1) j h1 hj (by omega)
            simp only [Bool.false_eq_true, if_true, if_false, e1, e2, Option.bind_some]
            exact ⟨d', e3, e4, e5⟩
          | false =>
            obtain ⟨d1, e1, e2, d', e3, e4, e5⟩ := step 3 b[j] i (j + 1) hi h2 (by omega)
            simp only [Bool.false_eq_true, if_false, e1, e2, Option.bind_some]
            exact ⟨d', e3, e4, e5⟩
      · have hje : j = b.length := by omega
        have c2 : ((j : Int) == (b.length : Int)) = true := by simp; omega
        have c3 : decide ((j : Int) < (b.length : Int)) = false := by simpa using h2
        obtain ⟨d1, e1, e2, d', e3, e4, e5⟩ := step 2 a[i] (i + 1) j h1 hj (by omega)
        simp only [c1, c2, c3, ra, w1, if_true, if_false, Bool.false_eq_true, Option.bind_some, e1, e2]
        exact ⟨d', e3, e4, e5⟩
    · have c1 : decide ((i : Int) < (a.length : Int)) = false := by simpa using h1
      have c4 : ((i : Int) == (a.length : Int)) = true := by simp; omega
      by_cases h2 : j < b.length
      · have c2 : ((j : Int) == (b.length : Int)) = false := by simp; omega
        have c3 : decide ((j : Int) < (b.length : Int)) = true := by simpa using h2
        have rb := rd?_at h2
        obtain ⟨d1, e1, e2, d', e3, e4, e5⟩ := step 3 b[j] i (j + 1) hi h2 (by omega)
        simp only [c1, c2, c3, c4, rb, w2, if_true, if_false, Bool.false_eq_true, Option.bind_some, e1, e2]
        exact ⟨d', e3, e4, e5⟩
      · have c3 : decide ((j : Int) < (b.length : Int)) = false := by simpa using h2
        simp only [c1, c3, if_false, Bool.false_eq_true, Option.bind_some]
        exact ⟨d, rfl, rfl, by omega, fun e he => by have := ht e he; omega⟩
theorem wEd_le : ∀ d : List Ed, (∀ u ∈ d, u.2.length ≤ 200) → wEd d ≤ 201 * d.length
  | [], _ => by simp [wEd]
  | u :: us, h => by
    have h1 := h u (by simp)
    have h2 := wEd_le us fun v hv => h v (List.mem_cons_of_mem _ hv)
    rw [wEd_cons, List.length_cons]
    omega
theorem p_DiffOf (a b : List Int) (ha : a.length ≤ big) (hb : b.length ≤ big) : ∃ r : List Ed × Bool, impl_DiffOf.f a b = some r ∧ spec_DiffOf.f a b = some r ∧ r.1.length ≤ 200 ∧ (∀ e ∈ r.1, e.2.length ≤ 200) := by
  unfold impl_DiffOf.f spec_DiffOf.f
  rw [p_areShort [a, b] (by unfold big; simp) (by simp; exact ⟨ha, hb⟩), p_l15List a ha, p_l15List b hb]
  simp only [Option.bind_some, List.all_cons, List.all_nil, Bool.and_true]
  cases h1 : okShort a with
  | false => exact ⟨([], false), rfl, rfl, by simp, by simp⟩
  | true =>
    cases h2 : okShort b with
    | false => exact ⟨([], false), rfl, rfl, by simp, by simp⟩
    | true =>
      simp only [Bool.and_self, Bool.not_true, Bool.false_eq_true, if_false, Option.bind_some]
      have la : a.length ≤ 60 := by
        simp only [okShort, Bool.and_eq_true, decide_eq_true_eq] at h1
        omega
      have lb : b.length ≤ 60 := by
        simp only [okShort, Bool.and_eq_true, decide_eq_true_eq] at h2
        omega
      obtain ⟨t, t1, t2, T⟩ := p_table a b (by omega) (by omega)
      obtain ⟨d', e1, e2, e4, e5⟩ := p_walkD a b t T (by omega) (by omega) (a.length + b.length + 2) 0 0 [] (by omega) (by omega) (by omega) (by simp) (by simp)
      rw [show ((0 : Nat) : Int) = 0 from rfl] at e1 e2
      refine ⟨(d', true), ?_, ?_, e4, e5⟩
      · unfold impl_along_impl_DiffOf_1.f
        simp only [t1, Option.bind_some, e2]
      · unfold spec_l15Diff.f
        simp only [t2, Option.bind_some, e1]
theorem wrapU (n : Int) : 0 ≤ IntKind.u64.wrap n ∧ IntKind.u64.wrap n < 18446744073709551616 := by rw [IntKind.wrap_u64]; omega
theorem p_next (code : List Int) (hc : allW (inK .u8) code) (a s : Int) (h0 : 0 ≤ a) (h1 : a ≤ 1000000000000000) : ∃ n s', spec_l1Cur_next.f code a s = some (n, a + 1, s') ∧ 0 ≤ n ∧ n ≤ 255 := by
  unfold spec_l1Cur_next.f
  have key : ∃ x : Int, (if (decide (a < (code.length : Int))) = true then ((rd? code a).bind fun u10 => some (IntKind.i64.wrap u10)) else (some 0)) = some x ∧ 0 ≤ x ∧ x ≤ 255 := by
    obtain ⟨k, rfl⟩ := Int.eq_ofNat_of_zero_le h0
    by_cases h : k < code.length
    · rw [if_pos (by simpa using h), rd?_at h]
      have hb : -0 ≤ code[k] ∧ code[k] ≤ 255 := by
        have := hc.2 _ (List.getElem_mem h)
        exact this
      simp only [Option.bind_some]
      rw [wrapS (by omega) (by omega)]
      exact ⟨_, rfl, by omega, by omega⟩
    · rw [if_neg (by simpa using h)]
      exact ⟨0, rfl, by omega, by omega⟩
  obtain ⟨x, e, x0, x1⟩ := key
  rw [e]
  simp only [Option.bind_some]
  rw [wrapS (n := a + 1) (by omega) (by omega)]
  generalize IntKind.u64.wrap (IntKind.u64.wrap (IntKind.u64.wrap (s * 6364136223846793005) + IntKind.u64.wrap x) + 1442695040888963407) = y
  by_cases h : a + 1 ≤ (code.length : Int)
  · rw [if_pos (by simpa using h)]
    exact ⟨x, y, rfl, x0, x1⟩
  · rw [if_neg (by simpa using h)]
    have hs : ∃ q, shrK? .u64 y 40 = some q := ⟨_, by unfold shrK?; rw [if_pos (by decide)]⟩
    obtain ⟨q, hq⟩ := hs
    rw [hq]
    simp only [Option.bind_some]
    have hb : 0 ≤ bits .and .u64 q 255 ∧ bits .and .u64 q 255 ≤ 255 := by
      unfold bits
      dsimp only
      have : (BitVec.ofInt IntKind.u64.bits q &&& BitVec.ofInt IntKind.u64.bits 255).toNat ≤ 255 := by
        rw [BitVec.toNat_and]
        exact Nat.le_trans Nat.and_le_right (by decide)
      rw [IntKind.wrap_u64]
      omega
    rw [wrapS (by omega) (by omega)]
    exact ⟨_, y, rfl, hb.1, hb.2⟩
theorem p_pick (code : List Int) (hc : allW (inK .u8) code) (a s n : Int) (h0 : 0 ≤ a) (h1 : a ≤ 1000000000000) : ∃ r a' s', spec_l1Cur_pick.f code a s n = some (r, a', s') ∧ 0 ≤ r ∧ (1 ≤ n → r < n) ∧ (n ≤ 1 → r = 0) ∧ r ≤ 65535 ∧ a ≤ a' ∧ a' ≤ a + 2 := by
  unfold spec_l1Cur_pick.f
  by_cases hn : n ≤ 1
  · rw [if_pos (by simpa using hn)]
    exact ⟨0, a, s, rfl, by omega, by omega, by omega, by omega, by omega, by omega⟩
  · rw [if_neg (by simpa using hn)]
    obtain ⟨x, s1, e1, x0, x1⟩ := p_next code hc a s h0 (by omega)
    rw [e1]
    simp only [Option.bind_some]
    have key : ∀ (v a' s' : Int), 0 ≤ v → v ≤ 65535 → a ≤ a' → a' ≤ a + 2 → ∃ r b' t', (rem? v n).bind (fun u20 => some (u20, a', s')) = some (r, b', t') ∧ 0 ≤ r ∧ (1 ≤ n → r < n) ∧ (n ≤ 1 → r = 0) ∧ r ≤ 65535 ∧ a ≤ b' ∧ b' ≤ a + 2 := by
      intro v a' s' v0 v1 b0 b1
      unfold rem?
      rw [if_neg (by omega)]
      have e := Int.tmod_eq_emod_of_nonneg (b := n) v0
      have hb := Int.emod_lt_of_pos v (show 0 < n by omega)
      have hb0 := Int.emod_nonneg v (show n ≠ 0 by omega)
      have hb1 : v % n ≤ v := by
        by_cases hvn : v < n
        · rw [Int.emod_eq_of_lt v0 hvn]; exact Int.le_refl _
        · omega
      rw [e]
      exact ⟨_, a', s', rfl, hb0, fun _ => hb, by omega, by omega, b0, b1⟩
    by_cases h2 : n > 200
    · rw [if_pos (by simpa using h2)]
      obtain ⟨y, s2, e2, y0, y1⟩ := p_next code hc (a + 1) s1 (by omega) (by omega)
      rw [e2]
      simp only [Option.bind_some]
      rw [wrapS (n := x * 256) (by omega) (by omega), wrapS (by omega) (by omega)]
      exact key (x * 256 + y) (a + 1 + 1) s2 (by omega) (by omega) (by omega) (by omega)
    · rw [if_neg (by simpa using h2)]
      exact key x (a + 1) s1 (by omega) (by omega) (by omega) (by omega)
theorem p_among (code : List Int) (hc : allW (inK .u8) code) (a s : Int) (l : List Int) (hl : l ≠ []) (h0 : 0 ≤ a) (h1 : a ≤ 1000000000000) : ∃ r a' s', spec_l1Cur_among.f code a s l = some (r, a', s') ∧ r ∈ l ∧ a ≤ a' ∧ a' ≤ a + 2 := by
  unfold spec_l1Cur_among.f
  have hp : 0 < l.length := List.length_pos_iff.2 hl
  obtain ⟨r, a', s', e, r0, r1, _, _, b0, b1⟩ := p_pick code hc a s (l.length : Int) h0 h1
  rw [e]
  simp only [Option.bind_some]
  obtain ⟨k, rfl⟩ := Int.eq_ofNat_of_zero_le r0
  have hk : k < l.length := by have := r1 (by omega); omega
  rw [rd?_at hk]
  exact ⟨_, a', s', rfl, List.getElem_mem hk, b0, b1⟩
def smallR : List Int := [97, 98, 97, 98, 99, 12354]
theorem p_small (code : List Int) (hc : allW (inK .u8) code) (a s m : Int) (h0 : 0 ≤ a) (h1 : a ≤ 100000000000) (hm0 : 0 ≤ m) (hm : m ≤ 60000) : ∃ (l : List Int) (a' s' : Int), spec_l1Cur_small.f code a s m = some (l, a', s') ∧ (l.length : Int) ≤ m ∧ (∀ x ∈ l, x ∈ smallR) ∧ a ≤ a' ∧ a' ≤ a + 2 + 2 * m := by
  unfold spec_l1Cur_small.f
  rw [wrapS (by omega) (by omega)]
  obtain ⟨r, a1, s1, e, r0, r1, _, _, b0, b1⟩ := p_pick code hc a s (m + 1) h0 (by omega)
  rw [e]
  simp only [Option.bind_some]
  obtain ⟨k, rfl⟩ := Int.eq_ofNat_of_zero_le r0
  have hk : (k : Int) < m + 1 := r1 (by omega)
  have key : ∀ (n f : Nat) (l : List Int) (a s : Int), n < f → 0 ≤ a → a + 2 * n ≤ 1000000000000 → (∀ x ∈ l, x ∈ smallR) → l.length + n ≤ 100000 → ∃ (l' : List Int) (a' s' : Int), spec_l1Cur_small.l1 code f l (n : Int) a s = some (l', a', s') ∧ l'.length = l.length + n ∧ (∀ x ∈ l', x ∈ smallR) ∧ a ≤ a' ∧ a' ≤ a + 2 * n := by
    intro n
    induction n with
    | zero =>
      intro f l a s hf ha ha2 hl hn
      obtain ⟨f, rfl⟩ := Nat.exists_eq_succ_of_ne_zero (show f ≠ 0 by omega)
      rw [spec_l1Cur_small.l1, if_neg (by simp)]
      exact ⟨l, a, s, rfl, by omega, hl, by omega, by omega⟩
    | succ n ih =>
      intro f l a s hf ha ha2 hl hn
      obtain ⟨f, rfl⟩ := Nat.exists_eq_succ_of_ne_zero (show f ≠ 0 by omega)
      rw [spec_l1Cur_small.l1, if_pos (by simp <;> omega)]
      obtain ⟨x, a1, s1, e, hx, c0, c1⟩ := p_among code hc a s smallR (by decide) ha (by omega)
      unfold smallR at e
      rw [e]
      simp only [Option.bind_some]
      rw [app?_at (by simp; omega)]
      simp only [Option.bind_some]
      rw [wrapS (by omega) (by omega), show ((n + 1 : Nat) : Int) - 1 = (n : Int) by omega]
      obtain ⟨l', a', s', e', g1, g2, g3, g4⟩ := ih f (l ++ [x]) a1 s1 (by omega) (by omega) (by omega) (fun y hy => by
        rcases List.mem_append.1 hy with hy | hy
        · exact hl y hy
        · rw [List.mem_singleton.1 hy]; exact hx) (by simp; omega)
      exact ⟨l', a', s', e', by rw [g1]; simp; omega, g2, by omega, by omega⟩
  obtain ⟨l, a', s', e2, g1, g2, g3, g4⟩ := key k (((k : Int) - 0).toNat + 2) [] a1 s1 (by omega) (by omega) (by omega) (by simp) (by simp; omega)
  rw [e2]
  exact ⟨l, a', s', rfl, by simp at g1; omega, g2, by omega, by omega⟩
theorem p_one (code : List Int) (hc : allW (inK .u8) code) (a s n : Int) (h0 : 0 ≤ a) (h1 : a ≤ 1000000000000) : ∃ (r : Bool) (a' s' : Int), spec_l1Cur_one.f code a s n = some (r, a', s') ∧ a ≤ a' ∧ a' ≤ a + 2 := by
  unfold spec_l1Cur_one.f
  obtain ⟨r, a', s', e, _, _, _, _, b0, b1⟩ := p_pick code hc a s n h0 h1
  rw [e]
  exact ⟨_, a', s', rfl, b0, b1⟩
theorem p_ownN (p : List Int) (hp : p.length ≤ big) : spec_l1Own.f p = some p := by
  unfold spec_l1Own.f
  rw [app?_at (by simpa using hp)]
  rfl
/-- What near draws. -/
def nearR (x : Int) : Prop := okRune x = true ∨ x = -1
theorem p_near (code : List Int) (hc : allW (inK .u8) code) (a s : Int) (h0 : 0 ≤ a) (h1 : a ≤ 10000000000) : ∃ (p q : List Int) (a' s' : Int), spec_l1Cur_near.f code a s = some (p, q, a', s') ∧ p.length ≤ 10 ∧ q.length ≤ 20 ∧ (∀ x ∈ p, okRune x = true) ∧ a ≤ a' ∧ a' ≤ a + 100 := by
  unfold spec_l1Cur_near.f
  obtain ⟨l, a1, s1, e1, l1, l2, b1, c1⟩ := p_small code hc a s 10 h0 (by omega) (by omega) (by omega)
  rw [e1]
  simp only [Option.bind_some]
  have hl10 : l.length ≤ 10 := by omega
  rw [p_ownN l (by unfold big; omega)]
  simp only [Option.bind_some]
  obtain ⟨r, a2, s2, e2, r0, r1, _, _, b2, c2⟩ := p_pick code hc a1 s1 4 (by omega) (by omega)
  rw [e2]
  simp only [Option.bind_some]
  obtain ⟨m, rfl⟩ := Int.eq_ofNat_of_zero_le r0
  have hm : m < 4 := by have := r1 (by omega); omega
  have key : ∀ (n f : Nat) (b : List Int) (a s : Int), n < f → 0 ≤ a → a + 10 * n ≤ 100000000000 → n ≤ 4 → b.length + n ≤ 15 → ∃ (b' : List Int) (a' s' : Int), spec_l1Cur_near.l1 code f b (n : Int) a s = some (b', a', s') ∧ b'.length ≤ b.length + n ∧ a ≤ a' ∧ a' ≤ a + 10 * n := by
    intro n
    induction n with
    | zero =>
      intro f b a s hf ha ha2 hn hb
      obtain ⟨f, rfl⟩ := Nat.exists_eq_succ_of_ne_zero (show f ≠ 0 by omega)
      rw [spec_l1Cur_near.l1, if_neg (by simp)]
      exact ⟨b, a, s, rfl, by omega, by omega, by omega⟩
    | succ n ih =>
      intro f b a s hf ha ha2 hn hb
      obtain ⟨f, rfl⟩ := Nat.exists_eq_succ_of_ne_zero (show f ≠ 0 by omega)
      rw [spec_l1Cur_near.l1, if_pos (by simp <;> omega), wrapS (by omega) (by omega)]
      obtain ⟨r, a1, s1, e1, r0, r1, _, _, x1, y1⟩ := p_pick code hc a s ((b.length : Int) + 1) ha (by omega)
      rw [e1]
      simp only [Option.bind_some]
      obtain ⟨j, rfl⟩ := Int.eq_ofNat_of_zero_le r0
      have hj : j ≤ b.length := by have := r1 (by omega); omega
      rw [cut?_at hj (Nat.le_refl _)]
      simp only [Option.bind_some]
      rw [p_ownN _ (by simp [big]; omega)]
      simp only [Option.bind_some]
      generalize hz : (b.take b.length).drop j = z
      have hzl : z.length = b.length - j := by rw [← hz]; simp
      -- the rest
      have k1 : ∃ (z' : List Int) (a' s' : Int), ((if (decide ((z.length : Int) > 0)) = true then ((spec_l1Cur_one.f code a1 s1 2).bind fun u718 => some (u718.1, u718.2.1, u718.2.2)) else (some (false, a1, s1))).bind fun (o : Bool × Int × Int) => match o with | (x714, x715, x716) => (if x714 = true then ((cut? z 1 (z.length : Int)).bind fun x721 => some (x721, x715, x716)) else (some (z, x715, x716)))) = some (z', a', s') ∧ z'.length ≤ z.length ∧ a1 ≤ a' ∧ a' ≤ a1 + 2 := by
        by_cases hzp : 0 < z.length
        · rw [if_pos (by simpa using hzp)]
          obtain ⟨w, a2, s2, e2, x2, y2⟩ := p_one code hc a1 s1 2 (by omega) (by omega)
          rw [e2]
          simp only [Option.bind_some]
          cases w with
          | true =>
            have := cut?_at (xs := z) (a := 1) (b := z.length) (by omega) (Nat.le_refl _)
            rw [show ((1 : Nat) : Int) = 1 from rfl] at this
            rw [if_pos rfl, this]
            exact ⟨_, a2, s2, rfl, by simp, x2, y2⟩
          | false => exact ⟨z, a2, s2, rfl, Nat.le_refl _, x2, y2⟩
        · rw [if_neg (by simpa using hzp)]
          exact ⟨z, a1, s1, rfl, Nat.le_refl _, by omega, by omega⟩
      obtain ⟨z', a2, s2, e2, hz', x2, y2⟩ := k1
      rw [e2]
      simp only [Option.bind_some]
      have hcut := cut?_at (xs := b) (a := 0) (b := j) (by omega) hj
      rw [show ((0 : Nat) : Int) = 0 from rfl] at hcut
      rw [hcut]
      simp only [Option.bind_some]
      rw [p_ownN _ (by simp [big]; omega)]
      simp only [Option.bind_some]
      generalize hy : (b.take j).drop 0 = y
      have hyl : y.length = j := by rw [← hy]; simp; omega
      have k2 : ∃ (y' : List Int) (a' s' : Int), ((spec_l1Cur_one.f code a2 s2 2).bind fun u739 => if u739.1 = true then ((spec_l1Cur_among.f code u739.2.1 u739.2.2 [97, 98, 120]).bind fun u742 => (app? 17592186044416 y [u742.1]).bind fun x744 => some (x744, u742.2.1, u742.2.2)) else (some (y, u739.2.1, u739.2.2))) = some (y', a', s') ∧ y'.length ≤ y.length + 1 ∧ a2 ≤ a' ∧ a' ≤ a2 + 4 := by
        obtain ⟨w, a3, s3, e3, x3, y3⟩ := p_one code hc a2 s2 2 (by omega) (by omega)
        rw [e3]
        simp only [Option.bind_some]
        cases w with
        | true =>
          rw [if_pos rfl]
          obtain ⟨v, a4, s4, e4, _, x4, y4⟩ := p_among code hc a3 s3 [97, 98, 120] (by simp) (by omega) (by omega)
          rw [e4]
          simp only [Option.bind_some]
          rw [app?_at (by simp; omega)]
          exact ⟨_, a4, s4, rfl, by simp, by omega, by omega⟩
        | false => exact ⟨y, a3, s3, rfl, by omega, by omega, by omega⟩
      obtain ⟨y', a3, s3, e3, hy', x3, y3⟩ := k2
      rw [e3]
      simp only [Option.bind_some]
      rw [app?_at (by omega)]
      simp only [Option.bind_some]
      rw [wrapS (by omega) (by omega), show ((n + 1 : Nat) : Int) - 1 = (n : Int) by omega]
      have hlen : (y' ++ z').length ≤ b.length + 1 := by simp; omega
      obtain ⟨b', a', s', e', g1, g2, g3⟩ := ih f (y' ++ z') a3 s3 (by omega) (by omega) (by omega) (by omega) (by omega)
      exact ⟨b', a', s', e', by omega, by omega, by omega⟩
  obtain ⟨b, a3, s3, e3, g1, g2, g3⟩ := key m (((m : Int) - 0).toNat + 2) l a2 s2 (by omega) (by omega) (by omega) (by omega) (by omega)
  rw [e3]
  simp only [Option.bind_some]
  obtain ⟨w, a4, s4, e4, x4, y4⟩ := p_one code hc a3 s3 30 (by omega) (by omega)
  rw [e4]
  simp only [Option.bind_some]
  have hok : ∀ x ∈ l, okRune x = true := fun x hx => by
    have h := l2 x hx
    have : ∀ y ∈ smallR, okRune y = true := by decide
    exact this x h
  cases w with
  | true =>
    rw [if_pos rfl, app?_at (by simp; omega)]
    exact ⟨l, _, a4, s4, rfl, hl10, by simp; omega, hok, by omega, by omega⟩
  | false => exact ⟨l, b, a4, s4, rfl, hl10, by omega, hok, by omega, by omega⟩
theorem p_big (p q : List Int) (hp : p.length ≤ maxN) : laws_big.f p q = some (decide ((p.length : Int) + q.length > 1048576)) := by
  unfold laws_big.f
  unfold maxN at hp
  by_cases h : (p.length : Int) > 1048576
  · rw [if_pos (by simpa using h)]
    simp; omega
  · rw [if_neg (by simpa using h), wrapS (by omega) (by omega)]
    congr 1
    rw [Bool.eq_iff_iff]
    simp; omega
theorem p_sameInts (p q : List Int) (hp : p.length ≤ big) : laws_sameInts.f p q = some (decide (p = q)) :=
  eq_all p q hp (laws_sameInts.l1 p q) _ (by omega) fun _ _ _ => rfl
theorem bindGo {X : Option (Lo Unit Bool)} (h : X = some (.go ())) : (X.bind fun (o : Lo Unit Bool) => match o with | .go () => some true | .ret z => some z) = some true := by rw [h]; rfl
theorem p_sameEdits (p q : List Ed) (hp : okLen p) : laws_sameEdits.f p q = some (decide (p = q)) := by
  refine eqS_all p q hp.1 (fun u v => if u.1 != v.1 then some false else laws_sameInts.f u.2 v.2) (fun u hu v => ?_) (laws_sameEdits.l1 p q) (((p.length : Int) - 0).toNat + 2) (by omega) fun k i => ?_
  · rw [p_sameInts _ _ (hp.2 u hu)]
    obtain ⟨u1, u2⟩ := u
    obtain ⟨v1, v2⟩ := v
    by_cases h1 : u1 = v1 <;> by_cases h2 : u2 = v2 <;> simp [h1, h2]
  · rw [laws_sameEdits.l1]
    split
    · cases h1 : rd? p i with
      | none => rfl
      | some u =>
        cases h2 : rd? q i with
        | none => rfl
        | some v =>
          simp only [Option.bind_some]
          by_cases h3 : (u.1 != v.1) = true
          · rw [if_pos h3, if_pos h3]; rfl
          · rw [if_neg h3, if_neg h3]
            cases laws_sameInts.f u.2 v.2 with
            | none => rfl
            | some b => cases b <;> rfl
    · rfl
theorem pick_cons (f : Int → Bool) (e : Ed) (d : List Ed) : pick f (e :: d) = (if f e.1 then e.2 else []) ++ pick f d := rfl
theorem keeps_pick (d : List Ed) : keeps d = pick (fun k => k == 1) d := rfl
theorem pick_turn (d : List Ed) : pick (fun k => k != 3) (d.map turn) = pick (fun k => k != 2) d ∧ pick (fun k => k != 2) (d.map turn) = pick (fun k => k != 3) d := by
  induction d with
  | nil => exact ⟨rfl, rfl⟩
  | cons e d ih =>
    rw [List.map_cons, pick_cons, pick_cons, pick_cons, pick_cons, ih.1, ih.2]
    obtain ⟨k, t⟩ := e
    unfold turn
    by_cases h2 : k = 2
    · subst h2; exact ⟨rfl, rfl⟩
    · by_cases h3 : k = 3
      · subst h3; exact ⟨rfl, rfl⟩
      · have e2 : (k != 2) = true := by simpa using h2
        have e3 : (k != 3) = true := by simpa using h3
        simp only [h2, h3, if_false, e2, e3, and_self]
theorem turn_turn (d : List Ed) : (d.map turn).map turn = d := by
  rw [List.map_map]
  have : ∀ e ∈ d, (turn ∘ turn) e = e := fun e _ => by
    obtain ⟨k, t⟩ := e
    simp only [Function.comp, turn]
    by_cases h2 : k = 2
    · simp [h2]
    · by_cases h3 : k = 3 <;> simp [h2, h3]
  rw [List.map_congr_left this]
  simp
theorem p_turnX (d : List Ed) (hd : okLen d) : impl_TurnDiff.f d = some (if (decide ((d.length : Int) ≤ 120) && d.all okEd) then (d.map turn, true) else ([], false)) := by
  obtain ⟨r, e1, e2, _⟩ := p_TurnDiff d hd
  rw [e1, ← e2]
  unfold spec_TurnDiff.f
  rw [p_l15Edits d hd]
  simp only [Option.bind_some]
  cases h : (decide ((d.length : Int) ≤ 120) && d.all okEd) with
  | false => rfl
  | true =>
    simp only [Bool.not_true, Bool.false_eq_true, if_false, if_true]
    simp only [Bool.and_eq_true, decide_eq_true_eq, List.all_eq_true] at h
    obtain ⟨hl, hok⟩ := h
    have hel : ∀ u ∈ d, 1 ≤ u.1 ∧ u.1 ≤ 3 ∧ u.2.length ≤ 60 := fun u hu => by
      have := hok u hu
      simp only [okEd, okShort, Bool.and_eq_true, decide_eq_true_eq] at this
      omega
    have key : ∀ (k i : Nat) (out : List Ed), i ≤ d.length → d.length - i < k → out.length ≤ i → spec_TurnDiff.l1 d k out i = some (out ++ (d.drop i).map turn) := by
      intro k
      induction k with
      | zero => intro i out _ h; omega
      | succ k ih =>
        intro i out hi hk ho
        rw [spec_TurnDiff.l1]
        by_cases h : i < d.length
        · rw [if_pos (by simpa using h), rd?_at h]
          obtain ⟨b1, b2, b3⟩ := hel _ (List.getElem_mem h)
          simp only [Option.bind_some]
          have e2 : (if (d[i].1 != 1) = true then some (IntKind.i64.wrap (5 - d[i].1)) else some d[i].1) = some (turn d[i]).1 := by
            unfold turn
            rw [wrapS (by omega) (by omega)]
            have : d[i].1 = 1 ∨ d[i].1 = 2 ∨ d[i].1 = 3 := by omega
            rcases this with c | c | c <;> simp [c]
          rw [e2]
          simp only [Option.bind_some]
          unfold spec_l1Own.f
          rw [app?_at (by simp; omega)]
          simp only [Option.bind_some, List.nil_append]
          rw [app?_at (by simp; omega)]
          simp only [Option.bind_some]
          rw [wrapN i (by omega)]
          have := ih (i + 1) (out ++ [((turn d[i]).1, d[i].2)]) h (by omega) (by simp; omega)
          rw [List.append_assoc] at this
          rw [List.drop_eq_getElem_cons h]
          exact this
        · rw [if_neg (by simpa using h), List.drop_eq_nil_of_le (by omega)]
          simp
    have f2 := key (((d.length : Int) - 0).toNat + 2) 0 [] (by omega) (by omega) (by simp)
    rw [show ((0 : Nat) : Int) = 0 from rfl] at f2
    rw [f2]
    rfl
/-- Edits that fit are carried out. -/
theorem p_applyFit_l (d : List Ed) (hl : d.length ≤ 120) (hel : ∀ u ∈ d, u.2.length ≤ 60) : ∀ (k i : Nat) (out : List Int), i ≤ d.length → d.length - i < k → out.length ≤ 60 * i → (pick (fun k => k != 3) (d.drop i)).length ≤ 60 →
    spec_ApplyDiff.l1 d k (pick (fun k => k != 3) (d.drop i)) out i = some (.go ([], out ++ pick (fun k => k != 2) (d.drop i))) := by
  intro k
  induction k with
  | zero => intro i out _ h; omega
  | succ k ih =>
    intro i out hi hk ho hr
    rw [spec_ApplyDiff.l1]
    by_cases h : i < d.length
    · rw [if_pos (by simpa using h), rd?_at h]
      have hu := hel _ (List.getElem_mem h)
      rw [List.drop_eq_getElem_cons h] at hr ⊢
      rw [pick_cons] at hr ⊢
      rw [pick_cons]
      generalize d[i] = u at hu hr ⊢
      obtain ⟨c, t⟩ := u
      simp only at hu hr ⊢
      simp only [Option.bind_some]
      have app : app? 17592186044416 out t = some (out ++ t) := app?_at (by omega)
      have tail : ∀ rest, rest = pick (fun k => k != 3) (d.drop (i + 1)) → ((if (c != 2) = true then ((app? 17592186044416 out t).bind fun x870 => some (Lo.go (ρ := Lo (List Int × List Int) (List Int × Bool)) (rest, x870))) else (some (Lo.go (rest, out)))).bind fun (o : Lo ((List (Int)) × (List (Int))) (Lo ((List (Int)) × (List (Int))) ((List (Int)) × Bool))) => match o with | .go (x804, x805) => (spec_ApplyDiff.l1 d k x804 x805 (IntKind.i64.wrap ((i : Int) + 1))) | .ret z => some z) = some (.go ([], out ++ ((if (c != 2) = true then t else []) ++ pick (fun k => k != 2) (d.drop (i + 1))))) := by
        intro rest hrest
        subst hrest
        rw [app, wrapN i (by omega)]
        have hlt : (pick (fun k => k != 3) (d.drop (i + 1))).length ≤ 60 := by rw [List.length_append] at hr; omega
        split
        · simp only [Option.bind_some]
          rw [ih (i + 1) (out ++ t) h (by omega) (by simp; omega) hlt, List.append_assoc]
        · simp only [Option.bind_some, List.nil_append]
          rw [ih (i + 1) out h (by omega) (by omega) hlt]
      by_cases h3 : (c != 3) = true
      · rw [if_pos h3] at hr ⊢
        rw [if_pos h3]
        generalize hrest : pick (fun k => k != 3) (d.drop (i + 1)) = rest at *
        have hlen : ¬ (t.length > (t ++ rest).length) := by simp
        rw [if_neg (by rw [decide_eq_true_eq]; simp only [List.length_append]; omega)]
        have e1 : cut? (t ++ rest) 0 (t.length : Int) = some t := by
          have := cut?_at (xs := t ++ rest) (a := 0) (b := t.length) (by omega) (by simp)
          rw [show ((0 : Nat) : Int) = 0 from rfl] at this
          simpa using this
        have e2 : cut? (t ++ rest) (t.length : Int) ((t ++ rest).length : Int) = some rest := by
          have := cut?_at (xs := t ++ rest) (a := t.length) (b := (t ++ rest).length) (by simp) (by simp)
          rw [this, List.take_length]
          simp
        rw [e1, e2]
        simp only [Option.bind_some]
        rw [p_l1Same _ _ (by unfold big; omega)]
        simp only [Option.bind_some, decide_true, Bool.not_true, Bool.false_eq_true, if_false]
        exact tail rest rfl
      · rw [if_neg h3]
        rw [if_neg h3]
        simp only [Option.bind_some, List.nil_append]
        exact tail _ rfl
    · rw [if_neg (by simpa using h), List.drop_eq_nil_of_le (by omega)]
      simp [pick]
theorem p_applyFit (a : List Int) (d : List Ed) (ha : okShort a = true) (hl : d.length ≤ 120) (hok : d.all okEd = true) (hs : pick (fun k => k != 3) d = a) (hb : (pick (fun k => k != 2) d).length ≤ 60) : impl_ApplyDiff.f a d = some (pick (fun k => k != 2) d, true) := by
  have h60 : a.length ≤ 60 := by simp only [okShort, Bool.and_eq_true, decide_eq_true_eq] at ha; omega
  have hel : ∀ u ∈ d, u.2.length ≤ 60 := fun u hu => by
    have := List.all_eq_true.1 hok u hu
    simp only [okEd, okShort, Bool.and_eq_true, decide_eq_true_eq] at this
    omega
  have hlen : okLen d := ⟨by unfold big; omega, fun u hu => by have := hel u hu; unfold big; omega⟩
  obtain ⟨r, e1, e2, _⟩ := p_ApplyDiff a d (by unfold big; omega) hlen
  rw [e1, ← e2]
  unfold spec_ApplyDiff.f
  rw [p_l15Edits d hlen, p_l15List a (by unfold big; omega), ha, hok]
  have hd : decide ((d.length : Int) ≤ 120) = true := by simp; omega
  rw [hd]
  simp only [Option.bind_some, Bool.not_true, Bool.false_eq_true, if_false, Bool.and_self]
  have f := p_applyFit_l d hl hel (((d.length : Int) - 0).toNat + 2) 0 [] (by omega) (by omega) (by simp) (by rw [List.drop_zero, hs]; exact h60)
  rw [List.drop_zero, hs, show ((0 : Nat) : Int) = 0 from rfl, List.nil_append] at f
  rw [f]
  simp only [Option.bind_some]
  have c1 : decide (((([] : List Int).length : Nat) : Int) > 0) = false := by decide
  have c2 : decide (((pick (fun k => k != 2) d).length : Int) > 60) = false := by simp; omega
  simp only [c1, c2, Bool.false_eq_true, if_false, Option.bind_some]
theorem pick_mem {f : Int → Bool} {d : List Ed} {e : Ed} (he : e ∈ d) (hf : f e.1 = true) : e.2.Sublist (pick f d) := by
  induction d with
  | nil => cases he
  | cons u d ih =>
    rw [pick_cons]
    rcases List.mem_cons.1 he with rfl | he
    · rw [if_pos hf]; exact List.sublist_append_left _ _
    · exact (ih he).trans (List.sublist_append_right _ _)
theorem okShort_subl {a t : List Int} (ha : okShort a = true) (h : t.Sublist a) : okShort t = true := by
  simp only [okShort, Bool.and_eq_true, decide_eq_true_eq, List.all_eq_true] at ha ⊢
  exact ⟨by have := h.length_le; omega, fun x hx => ha.2 x (h.mem hx)⟩
theorem diff_ok {a b : List Int} {d : List Ed} (ha : okShort a = true) (hb : okShort b = true) (h3 : pick (fun k => k != 3) d = a) (h2 : pick (fun k => k != 2) d = b) (hn : ∀ e ∈ d, e.2 ≠ []) (hk : ∀ e ∈ d, 1 ≤ e.1 ∧ e.1 ≤ 3) : d.all okEd = true := by
  rw [List.all_eq_true]
  intro e he
  obtain ⟨k1, k2⟩ := hk e he
  have hs : okShort e.2 = true := by
    by_cases h : e.1 = 3
    · have := pick_mem (f := fun k => k != 2) he (by rw [h]; decide)
      rw [h2] at this
      exact okShort_subl hb this
    · have := pick_mem (f := fun k => k != 3) he (by simpa using h)
      rw [h3] at this
      exact okShort_subl ha this
  have hl : e.2.length ≠ 0 := fun h => hn e he (List.eq_nil_of_length_eq_zero h)
  unfold okEd
  rw [hs]
  simp only [Bool.and_true, Bool.and_eq_true, decide_eq_true_eq, Bool.not_eq_true', beq_eq_false_iff_ne]
  exact ⟨⟨k1, k2⟩, by omega⟩
theorem p_commonX (a b : List Int) (ha : a.length ≤ big) (hb : b.length ≤ big) (d : List Ed) (h : spec_DiffOf.f a b = some (d, true)) (h1 : d.length ≤ 200) (h2 : ∀ e ∈ d, e.2.length ≤ 200) : spec_CommonOf.f a b = some (pick (fun k => k == 1) d, true) := by
  unfold spec_CommonOf.f
  rw [h]
  simp only [Option.bind_some, Bool.not_true, Bool.false_eq_true, if_false]
  have hk := p_keepLoop (d, true) h1 h2 (((d.length : Int) - 0).toNat + 2) 0 [] (by omega) (by show d.length - 0 < _; omega) (by simp)
  rw [show ((0 : Nat) : Int) = 0 from rfl] at hk
  rw [hk]
  simp [keeps_pick]
theorem p_edits (code : List Int) (hc : allW (inK .u8) code) : ∃ (a : List Int) (d : List Ed) (a' s' : Int), spec_l1Cur_edits.f code 0 0 = some (a, d, a', s') ∧ a.length ≤ 10 ∧ okLen d ∧ d.length ≤ 200 := by
  unfold spec_l1Cur_edits.f
  obtain ⟨a, b, a1, s1, e1, la, lb, ra, x1, y1⟩ := p_near code hc 0 0 (by omega) (by omega)
  rw [e1]
  simp only [Option.bind_some]
  obtain ⟨r, _, e2, l1, l2⟩ := p_DiffOf a b (by unfold big; omega) (by unfold big; omega)
  rw [e2]
  simp only [Option.bind_some]
  have ok0 : okLen r.1 := ⟨by unfold big; omega, fun u hu => by have := l2 u hu; unfold big; omega⟩
  by_cases hp : 0 < r.1.length
  · rw [if_pos (by simpa using hp)]
    obtain ⟨w, a2, s2, e3, x2, y2⟩ := p_one code hc a1 s1 4 (by omega) (by omega)
    rw [e3]
    simp only [Option.bind_some]
    cases w with
    | false => exact ⟨a, r.1, a2, s2, rfl, la, ok0, l1⟩
    | true =>
      simp only [if_true]
      obtain ⟨n, a3, s3, e4, n0, n1, _, _, x3, y3⟩ := p_pick code hc a2 s2 (r.1.length : Int) (by omega) (by omega)
      rw [e4]
      simp only [Option.bind_some]
      obtain ⟨n, rfl⟩ := Int.eq_ofNat_of_zero_le n0
      have hn : n < r.1.length := by have := n1 (by omega); omega
      obtain ⟨c, a4, s4, e5, _, _, _, _, x4, y4⟩ := p_pick code hc a3 s3 3 (by omega) (by omega)
      rw [e5]
      simp only [Option.bind_some]
      have oks : ∀ v : Ed, v.2.length ≤ 200 → okLen (r.1.set n v) := fun v hv => ⟨by simp only [List.length_set]; exact ok0.1, fun u hu => by
        rcases List.mem_or_eq_of_mem_set hu with h | rfl
        · exact ok0.2 u h
        · unfold big; omega⟩
      by_cases c0 : (c == 0) = true
      · rw [if_pos c0]
        obtain ⟨z, a5, s5, e6, _, _, _, _, x5, y5⟩ := p_pick code hc a4 s4 5 (by omega) (by omega)
        rw [e6]
        simp only [Option.bind_some]
        rw [rd?_at hn]
        simp only [Option.bind_some]
        rw [st?_at _ hn]
        exact ⟨a, _, a5, s5, rfl, la, oks _ (show r.1[n].2.length ≤ 200 from l2 _ (List.getElem_mem hn)), by simpa using l1⟩
      · rw [if_neg c0]
        by_cases c1 : (c == 1) = true
        · rw [if_pos c1]
          have := cut?_at (xs := r.1) (a := 0) (b := n) (by omega) (by omega)
          rw [show ((0 : Nat) : Int) = 0 from rfl] at this
          rw [this]
          refine ⟨a, _, a4, s4, rfl, la, ⟨by simp [big]; omega, fun u hu => ok0.2 u (List.mem_of_mem_take (List.mem_of_mem_drop hu))⟩, by simp; omega⟩
        · rw [if_neg c1, rd?_at hn]
          simp only [Option.bind_some]
          rw [st?_at _ hn]
          exact ⟨a, _, a4, s4, rfl, la, oks _ (by simp), by simpa using l1⟩
  · rw [if_neg (by simpa using hp)]
    exact ⟨a, r.1, a1, s1, rfl, la, ok0, l1⟩
theorem law_Diff (p q : List Int) (hp : allW (inK .u8) p) (hq : allW (inK .u8) q) : laws_FnDiff.f p q = some true := by
  unfold laws_FnDiff.f
  rw [p_big p q hp.1]
  simp only [Option.bind_some]
  by_cases hbg : (p.length : Int) + q.length > 1048576
  · rw [if_pos (by simpa using hbg)]
  rw [if_neg (by simpa using hbg)]
  unfold spec_DrawDiffOf.f spec_DrawDistanceOf.f
  obtain ⟨a, b, a1, s1, e1, la, lb, ra, _, _⟩ := p_near p hp 0 0 (by omega) (by omega)
  rw [e1]
  simp only [Option.bind_some]
  have hla : a.length ≤ big := by unfold big; omega
  have hlb : b.length ≤ big := by unfold big; omega
  obtain ⟨r, f1, f2, f3, f4⟩ := p_DiffOf a b hla hlb
  obtain ⟨r', k1, k2, k3, k4⟩ := p_specDiff a b hla hlb
  rw [f2] at k1
  obtain rfl := Option.some.inj k1
  obtain ⟨c, g1, g2, g3⟩ := p_CommonOf a b hla hlb
  obtain ⟨c', m1, m2, m3⟩ := p_CommonOf b a hlb hla
  rw [f1, f2, g1, g2]
  simp only [Option.bind_some]
  have okd : okLen r.1 := ⟨by unfold big; omega, fun u hu => by have := f4 u hu; unfold big; omega⟩
  rw [p_sameEdits _ _ okd, p_sameInts _ _ (by unfold big; omega)]
  simp only [Option.bind_some, bne_self_eq_false, Bool.false_eq_true, if_false, decide_true, Bool.not_true]
  -- the second half
  unfold spec_DrawApplyDiff.f spec_DrawTurnDiff.f
  obtain ⟨l, e, x1, y1, h1, h2, h3, h4⟩ := p_edits q hq
  rw [h1]
  simp only [Option.bind_some]
  obtain ⟨v, v1, v2, v3⟩ := p_ApplyDiff l e (by unfold big; omega) h3
  obtain ⟨t, t1, t2, t3, t4, t5⟩ := p_TurnDiff e h3
  have tX := p_turnX e h3
  rw [v1, v2, t1, t2]
  simp only [Option.bind_some]
  rw [p_sameInts v.1 v.1 (by unfold big; omega), p_sameEdits t.1 t.1 t3]
  simp only [Option.bind_some, bne_self_eq_false, Bool.false_eq_true, if_false, decide_true, Bool.not_true]
  have hback : (if t.2 = true then ((impl_TurnDiff.f t.1).bind fun u194 => if u194.2 = true then ((laws_sameEdits.f u194.1 e).bind fun u198 => some u198) else (some false)) else (some true)) = some true := by
    rw [t1] at tX
    have tX := Option.some.inj tX
    cases hv : (decide ((e.length : Int) ≤ 120) && e.all okEd) with
    | false => rw [hv] at tX; rw [tX]; rfl
    | true =>
      rw [hv, if_pos rfl] at tX
      rw [tX]
      simp only [if_true]
      have ok2 : okLen (e.map turn) := by rw [tX] at t3; exact t3
      rw [p_turnX _ ok2]
      have hall : (e.map turn).all okEd = true := by
        rw [Bool.and_eq_true] at hv
        rw [List.all_eq_true] at *
        intro u hu
        obtain ⟨w, hw, rfl⟩ := List.mem_map.1 hu
        have := hv.2 w hw
        simp only [okEd, Bool.and_eq_true, decide_eq_true_eq] at this ⊢
        obtain ⟨⟨⟨a1, a2⟩, a3⟩, a4⟩ := this
        refine ⟨⟨⟨?_, ?_⟩, a3⟩, a4⟩
        · unfold turn; simp only; split <;> (try split) <;> omega
        · unfold turn; simp only; split <;> (try split) <;> omega
      have hd : decide (((e.map turn).length : Int) ≤ 120) = true := by
        rw [Bool.and_eq_true] at hv
        rw [List.length_map]; exact hv.1
      rw [hall, hd]
      simp only [Bool.and_self, if_true, Option.bind_some]
      rw [turn_turn, p_sameEdits _ _ h3]
      simp
  rw [hback]
  -- the first half
  refine bindGo ?_
  cases hr : r.2 with
  | false => rfl
  | true =>
    simp only [if_true]
    rw [hr] at k2
    have hab := k2.symm
    rw [Bool.and_eq_true] at hab
    obtain ⟨oa, ob⟩ := hab
    obtain ⟨q1, q2, q3, q4, q5, q6, q7, q8⟩ := k4 hr
    have a60 : a.length ≤ 60 := by simp only [okShort, Bool.and_eq_true, decide_eq_true_eq] at oa; omega
    have b60 : b.length ≤ 60 := by simp only [okShort, Bool.and_eq_true, decide_eq_true_eq] at ob; omega
    have okall := diff_ok oa ob q1 q2 q7 q8
    rw [p_applyFit a r.1 oa (by omega) okall q1 (by rw [q2]; exact b60), p_turnX r.1 okd, okall]
    have hd : decide ((r.1.length : Int) ≤ 120) = true := by simp; omega
    rw [hd, q2]
    simp only [Bool.and_self, if_true, Option.bind_some]
    have okallT := diff_ok (d := r.1.map turn) ob oa (by rw [(pick_turn r.1).1, q2]) (by rw [(pick_turn r.1).2, q1]) (fun e he => by
      obtain ⟨w, hw, rfl⟩ := List.mem_map.1 he
      exact q7 w hw) (fun e he => by
      obtain ⟨w, hw, rfl⟩ := List.mem_map.1 he
      have := q8 w hw
      unfold turn; simp only; split <;> (try split) <;> omega)
    rw [p_applyFit b (r.1.map turn) ob (by rw [List.length_map]; omega) okallT (by rw [(pick_turn r.1).1, q2]) (by rw [(pick_turn r.1).2, q1]; exact a60), (pick_turn r.1).2, q1, p_implDist a b hla hlb, oa, ob]
    simp only [Bool.and_self, if_true, Option.bind_some]
    have hc : c = (pick (fun k => k == 1) r.1, true) := by
      have := p_commonX a b hla hlb r.1 (by rw [f2]; obtain ⟨r1, r2⟩ := r; simp only at hr; rw [hr]) f3 f4
      rw [g2] at this
      exact Option.some.inj this
    obtain ⟨r2, n1, n2, n3, n4⟩ := p_specDiff b a hlb hla
    rw [oa, ob] at n2
    obtain ⟨_, _, o3, _, _, o6, _, _⟩ := n4 n2
    obtain ⟨r3, z1, z2, z3, z4⟩ := p_DiffOf b a hlb hla
    rw [n1] at z2
    obtain rfl := Option.some.inj z2
    have hc' : c' = (pick (fun k => k == 1) r2.1, true) := by
      have := p_commonX b a hlb hla r2.1 (by rw [n1]; obtain ⟨r1, r2⟩ := r2; simp only [Bool.and_self] at n2; rw [n2]) z3 z4
      rw [m2] at this
      exact Option.some.inj this
    rw [m1]
    simp only [Option.bind_some]
    rw [p_sameInts b b hlb, p_sameInts a a hla, hc, hc']
    have hlev := lev_sub a b _ q4 q5
    have hlev2 : lev b.reverse a.reverse ≤ a.length + b.length - 2 * (pick (fun k => k == 1) r.1).length := by
      have := lev_sub b.reverse a.reverse (pick (fun k => k == 1) r.1).reverse (List.reverse_sublist.2 q5) (List.reverse_sublist.2 q4)
      simp only [List.length_reverse] at this
      omega
    have hcl : (pick (fun k => k == 1) r.1).length ≤ 60 := by have := q4.length_le; omega
    have hs := lcs_symm a b
    simp only [Option.bind_some, decide_true, Bool.not_true, Bool.false_eq_true, if_false]
    rw [wrapS (n := (a.length : Int) + b.length) (by omega) (by omega), wrapS (n := 2 * ((pick (fun k => k == 1) r.1).length : Int)) (by omega) (by omega), wrapS (by omega) (by omega)]
    rw [if_neg (by rw [decide_eq_true_eq]; omega)]
    have hne : (((pick (fun k => k == 1) r2.1).length : Int) != ((pick (fun k => k == 1) r.1).length : Int)) = false := by
      rw [bne_eq_false_iff_eq]; omega
    rw [hne]
    rfl
end Go.Proofs.Ytkieinlcpkpcjaa
