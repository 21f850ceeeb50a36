/- Plain laws of the printed functions. Conditions as each lemma says. -/
import Derived.Test.YtkieinlcpkpcjaaPB
import Derived.Test.YtkieinlcpkpcjaaWLDistance2
set_option linter.unusedVariables false
set_option linter.unusedSimpArgs false
namespace Go.Proofs.Ytkieinlcpkpcjaa
open Go Go.Proofs.GL
def marks (k : Int) (n : Nat) : List Int := (List.range n).map fun i : Nat => k + i
theorem marks_len (k : Int) (n : Nat) : (marks k n).length = n := by simp [marks]
theorem marks_get (k : Int) (n i : Nat) (h : i < n) : (marks k n)[i]? = some (k + i) := by simp [marks, h]
def nxt (a : Int) : List Int → List Int → Int → List Int
  | x :: y :: ys, u :: us, r => min (if (u != r) = true then x + 1 else x) (min (y + 1) (a + 1)) :: nxt (min (if (u != r) = true then x + 1 else x) (min (y + 1) (a + 1))) (y :: ys) us r
  | _, _, _ => []
def inB (B : Int) (x : List Int) : Prop := ∀ e ∈ x, 0 ≤ e ∧ e ≤ B
theorem nxt_bd : ∀ (us row : List Int) (a B r : Int), inB B row → 0 ≤ a → inB (a + us.length) (nxt a row us r)
  | [], row, a, B, r, _, _ => by cases row with | nil => simp [nxt, inB] | cons x row => cases row <;> simp [nxt, inB]
  | u :: us, [], a, B, r, _, _ => by simp [nxt, inB]
  | u :: us, [x], a, B, r, _, _ => by simp [nxt, inB]
  | u :: us, x :: y :: ys, a, B, r, h, ha => by
    have hx := h x (by simp)
    have hy := h y (by simp)
    have hv : 0 ≤ min (if (u != r) = true then x + 1 else x) (min (y + 1) (a + 1)) ∧ min (if (u != r) = true then x + 1 else x) (min (y + 1) (a + 1)) ≤ a + 1 := by
      split <;> omega
    have ih := nxt_bd us (y :: ys) _ B r (fun e he => h e (List.mem_cons_of_mem _ he)) hv.1
    intro e he
    unfold nxt at he
    simp only [List.length_cons]
    rcases List.mem_cons.1 he with rfl | he
    · omega
    · have := ih e he
      omega
theorem nxt_len : ∀ (us row : List Int) (a r : Int), row.length = us.length + 1 → (nxt a row us r).length = us.length
  | [], [x], a, r, _ => rfl
  | [], [], a, r, h => by simp at h
  | [], x :: y :: ys, a, r, h => by simp at h
  | u :: us, [], a, r, h => by simp at h
  | u :: us, [x], a, r, h => by simp at h
  | u :: us, x :: y :: ys, a, r, h => by
    unfold nxt
    simp only [List.length_cons]
    rw [nxt_len us (y :: ys) _ r (by simpa using h)]
theorem p_rows_l (row : List Int) (r : Int) (l : List Int) (R : Int) (hR : R ≤ 1000000000) (hl : l.length ≤ 1000000) (hrow : row.length = l.length + 1) (hb : inB R row) : ∀ (k i : Nat) (out : List Int) (a : Int), i ≤ l.length → l.length - i < k → out.length = i + 1 → out[i]? = some a → 0 ≤ a → a ≤ 1000000000 + i →
    impl_nextRow.l1 row r l k out i = some (out ++ nxt a (row.drop i) (l.drop i) r) ∧ spec_l15Row.l1 row r l k out i = some (out ++ nxt a (row.drop i) (l.drop i) r) := by
  intro k
  induction k with
  | zero => intro i out a _ h; omega
  | succ k ih =>
    intro i out a hi hk hlen ha ha0 ha1
    rw [impl_nextRow.l1, spec_l15Row.l1]
    by_cases h : i < l.length
    · have hi1 : i < row.length := by omega
      have hi2 : i + 1 < row.length := by omega
      have hoa : out[i]'(by omega) = a := (List.getElem?_eq_some_iff.1 ha).2
      rw [if_pos (by simpa using h), if_pos (by simpa using h), rd?_at h]
      simp only [Option.bind_some]
      rw [rd?_at hi1]
      simp only [Option.bind_some]
      have hr1 := hb _ (List.getElem_mem hi1)
      have hr2 := hb _ (List.getElem_mem hi2)
      have hby : (if (l[i] != r) = true then some (IntKind.i64.wrap (row[i] + 1)) else some row[i]) = some (if (l[i] != r) = true then row[i] + 1 else row[i]) := by
        split
        · rw [wrapS (by omega) (by omega)]
        · rfl
      rw [hby]
      simp only [Option.bind_some]
      have hbd : 0 ≤ (if (l[i] != r) = true then row[i] + 1 else row[i]) := by split <;> omega
      rw [wrapN i (by omega), rd?_at hi2, rd?_at (by omega : i < out.length), hoa]
      simp only [Option.bind_some]
      rw [wrapS (n := row[i + 1] + 1) (by omega) (by omega), wrapS (n := a + 1) (by omega) (by omega)]
      have hleast : ∀ a b, spec_l1Least.f a b = some (min a b) := fun a b => by
        unfold spec_l1Least.f
        by_cases h : a < b
        · rw [if_pos (by simpa using h)]; congr 1; omega
        · rw [if_neg (by simpa using h)]; congr 1; omega
      simp only [hleast, Option.bind_some]
      rw [wrapS (n := min row[i + 1] a + 1) (by omega) (by omega), show min row[i + 1] a + 1 = min (row[i + 1] + 1) (a + 1) by omega]
      have hd1 : row.drop i = row[i] :: row[i + 1] :: row.drop (i + 1 + 1) := by rw [List.drop_eq_getElem_cons hi1, List.drop_eq_getElem_cons hi2]
      have hd2 : row.drop (i + 1) = row[i + 1] :: row.drop (i + 1 + 1) := List.drop_eq_getElem_cons hi2
      rw [hd1, List.drop_eq_getElem_cons h]
      unfold nxt
      rw [← hd2]
      generalize hv : min (if (l[i] != r) = true then row[i] + 1 else row[i]) (min (row[i + 1] + 1) (a + 1)) = v
      rw [app?_at (by simp; omega)]
      simp only [Option.bind_some]
      have := ih (i + 1) (out ++ [v]) v h (by omega) (by simp; omega) (by rw [List.getElem?_append_right (by omega)]; simp [hlen]) (by omega) (by omega)
      rw [List.append_assoc] at this
      exact this
    · rw [if_neg (by simpa using h), if_neg (by simpa using h)]
      obtain rfl : i = l.length := by omega
      have e : nxt a (row.drop l.length) (l.drop l.length) r = [] := by
        rw [List.drop_length]
        cases row.drop l.length with
        | nil => rfl
        | cons x xs => cases xs <;> rfl
      rw [e, List.append_nil]
      exact ⟨rfl, rfl⟩
theorem p_nextRow (row : List Int) (r : Int) (l : List Int) (a R : Int) (hR : R ≤ 1000000) (hl : l.length ≤ 1000000) (hrow : row.length = l.length + 1) (hb : inB R row) (ha : row[0]? = some a) : impl_nextRow.f row r l = some ((a + 1) :: nxt (a + 1) row l r) := by
  have h0 : 0 < row.length := by omega
  have e0 : row[0] = a := (List.getElem?_eq_some_iff.1 ha).2
  have hb0 := hb _ (List.getElem_mem h0)
  rw [e0] at hb0
  have := (p_rows_l row r l R (by omega) hl hrow hb (((l.length : Int) - 0).toNat + 2) 0 [a + 1] (a + 1) (by omega) (by omega) rfl rfl (by omega) (by omega)).1
  rw [show ((0 : Nat) : Int) = 0 from rfl] at this
  unfold impl_nextRow.f
  have h1 := rd?_at h0
  rw [show ((0 : Nat) : Int) = 0 from rfl] at h1
  rw [h1, e0]
  simp only [Option.bind_some]
  rw [wrapS (by omega) (by omega), this]
  rfl
theorem p_l15Row (row : List Int) (r : Int) (l : List Int) (a R : Int) (hR : R ≤ 1000000000) (hl : l.length ≤ 1000000) (hrow : row.length = l.length + 1) (hb : inB R row) (ha : 0 ≤ a) (ha1 : a ≤ 1000000000) : spec_l15Row.f row r l a = some (a :: nxt a row l r) := by
  have := (p_rows_l row r l R hR hl hrow hb (((l.length : Int) - 0).toNat + 2) 0 [a] a (by omega) (by omega) rfl rfl (by omega) (by omega)).2
  rw [show ((0 : Nat) : Int) = 0 from rfl] at this
  unfold spec_l15Row.f
  rw [this]
  rfl
theorem marks_succ (k : Int) (n : Nat) : marks k (n + 1) = marks k n ++ [k + n] := by simp [marks, List.range_succ]
theorem marks_cons (k : Int) (n : Nat) : marks k (n + 1) = k :: marks (k + 1) n := by
  simp only [marks, List.range_succ_eq_map, List.map_cons, List.map_map]
  congr 1
  · simp
  · apply List.map_congr_left
    intro i _
    simp only [Function.comp_apply, Nat.succ_eq_add_one]
    omega
theorem p_numbers_l (n : Nat) (hn : n ≤ 1000001) : ∀ (k i : Nat), i ≤ n → n - i < k → spec_l15Numbers.l1 n k (marks 0 i) i = some (marks 0 n) := by
  intro k
  induction k with
  | zero => intro i _ h; omega
  | succ k ih =>
    intro i hi hk
    rw [spec_l15Numbers.l1]
    by_cases h : i < n
    · rw [if_pos (by simp; omega), app?_at (by rw [marks_len]; simp; omega)]
      simp only [Option.bind_some]
      rw [wrapN i (by omega)]
      have := marks_succ 0 i
      rw [Int.zero_add] at this
      rw [← this]
      exact ih (i + 1) h (by omega)
    · rw [if_neg (by simp; omega)]
      obtain rfl : i = n := by omega
      rfl
theorem p_numbers (n : Nat) (hn : n ≤ 1000001) : spec_l15Numbers.f n = some (marks 0 n) := by
  unfold spec_l15Numbers.f
  have := p_numbers_l n hn (((n : Int) - 0).toNat + 2) 0 (by omega) (by omega)
  rw [show ((0 : Nat) : Int) = 0 from rfl, show marks 0 0 = [] from rfl] at this
  rw [this]
  rfl
theorem p_firstRow_l (n : Nat) (hn : n ≤ 1000000) : ∀ (k i : Nat), i ≤ n + 1 → n + 1 - i < k → impl_firstRow.l1 n k (marks 0 i) i = some (marks 0 (n + 1)) := by
  intro k
  induction k with
  | zero => intro i _ h; omega
  | succ k ih =>
    intro i hi hk
    rw [impl_firstRow.l1, wrapS (by omega) (by omega)]
    by_cases h : i < n + 1
    · rw [if_pos (by simp; omega), app?_at (by rw [marks_len]; simp; omega)]
      simp only [Option.bind_some]
      rw [wrapN i (by omega)]
      have := marks_succ 0 i
      rw [Int.zero_add] at this
      rw [← this]
      exact ih (i + 1) h (by omega)
    · rw [if_neg (by simp; omega)]
      obtain rfl : i = n + 1 := by omega
      rfl
theorem p_firstRow (n : Nat) (hn : n ≤ 1000000) : impl_firstRow.f n = some (marks 0 (n + 1)) := by
  unfold impl_firstRow.f
  rw [wrapS (by omega) (by omega)]
  have := p_firstRow_l n hn (((n : Int) + 1 - 0).toNat + 2) 0 (by omega) (by omega)
  rw [show ((0 : Nat) : Int) = 0 from rfl, show marks 0 0 = [] from rfl] at this
  rw [this]
  rfl
def lev : List Int → List Int → Int
  | [], b => b.length
  | x :: a, [] => (a.length : Int) + 1
  | x :: a, y :: b => min (lev a b + if x = y then 0 else 1) (min (lev (x :: a) b + 1) (lev a (y :: b) + 1))
termination_by a b => a.length + b.length
theorem lev_nl (b : List Int) : lev [] b = b.length := by rw [lev]
theorem lev_nr (a : List Int) : lev a [] = a.length := by
  cases a with
  | nil => rw [lev]
  | cons x a => rw [lev]; simp
theorem lev_cc (x : Int) (a : List Int) (y : Int) (b : List Int) : lev (x :: a) (y :: b) = min (lev a b + if x = y then 0 else 1) (min (lev (x :: a) b + 1) (lev a (y :: b) + 1)) := by rw [lev]
theorem lev_ind {P : List Int → List Int → Prop} (h1 : ∀ b, P [] b) (h2 : ∀ a, P a []) (h3 : ∀ x a y b, P a b → P (x :: a) b → P a (y :: b) → P (x :: a) (y :: b)) : ∀ a b, P a b := by
  have : ∀ n a b, a.length + b.length ≤ n → P a b := by
    intro n
    induction n with
    | zero => intro a b h; obtain rfl : a = [] := List.eq_nil_of_length_eq_zero (by omega); exact h1 b
    | succ n ih =>
      intro a b h
      cases a with
      | nil => exact h1 b
      | cons x a =>
        cases b with
        | nil => exact h2 _
        | cons y b =>
          simp only [List.length_cons] at h
          exact h3 x a y b (ih _ _ (by omega)) (ih _ _ (by simp only [List.length_cons]; omega)) (ih _ _ (by simp only [List.length_cons]; omega))
  exact fun a b => this _ a b (Nat.le_refl _)
theorem lev_pos : ∀ a b, 0 ≤ lev a b := by
  refine lev_ind (fun b => by rw [lev_nl]; omega) (fun a => by rw [lev_nr]; omega) fun x a y b h1 h2 h3 => ?_
  rw [lev_cc]
  split <;> omega
theorem lev_le : ∀ a b, lev a b ≤ a.length + b.length := by
  refine lev_ind (fun b => by rw [lev_nl]; simp) (fun a => by rw [lev_nr]; simp) fun x a y b h1 h2 h3 => ?_
  rw [lev_cc]
  simp only [List.length_cons] at *
  split <;> omega
theorem lev_len : ∀ a b, (a.length : Int) ≤ b.length + lev a b ∧ (b.length : Int) ≤ a.length + lev a b := by
  refine lev_ind (fun b => by rw [lev_nl]; simp; omega) (fun a => by rw [lev_nr]; simp; omega) fun x a y b h1 h2 h3 => ?_
  rw [lev_cc]
  simp only [List.length_cons] at *
  split <;> omega
theorem lev_symm : ∀ a b, lev a b = lev b a := by
  refine lev_ind (fun b => by rw [lev_nl, lev_nr]) (fun a => by rw [lev_nl, lev_nr]) fun x a y b h1 h2 h3 => ?_
  rw [lev_cc, lev_cc, h1, h2, h3]
  by_cases h : x = y
  · rw [if_pos h, if_pos h.symm]; omega
  · rw [if_neg h, if_neg (fun e => h e.symm)]; omega
theorem lev_self : ∀ a, lev a a = 0
  | [] => by rw [lev_nl]; rfl
  | x :: a => by
    rw [lev_cc, lev_self a, if_pos rfl]
    have := lev_pos (x :: a) a
    have := lev_pos a (x :: a)
    omega
theorem lev_zero : ∀ a b, lev a b = 0 → a = b := by
  refine lev_ind (fun b h => ?_) (fun a h => ?_) fun x a y b h1 h2 h3 h => ?_
  · rw [lev_nl] at h
    exact (List.eq_nil_of_length_eq_zero (by omega)).symm
  · rw [lev_nr] at h
    exact List.eq_nil_of_length_eq_zero (by omega)
  · rw [lev_cc] at h
    have p1 := lev_pos a b
    have p2 := lev_pos (x :: a) b
    have p3 := lev_pos a (y :: b)
    by_cases e : x = y
    · rw [if_pos e] at h
      rw [e, h1 (by omega)]
    · rw [if_neg e] at h
      omega
theorem lev_tri : ∀ (n : Nat) (a b c : List Int), a.length + b.length + c.length ≤ n → lev a c ≤ lev a b + lev b c := by
  intro n
  induction n with
  | zero =>
    intro a b c h
    obtain rfl : a = [] := List.eq_nil_of_length_eq_zero (by omega)
    obtain rfl : b = [] := List.eq_nil_of_length_eq_zero (by omega)
    obtain rfl : c = [] := List.eq_nil_of_length_eq_zero (by omega)
    simp [lev_nl]
  | succ n ih =>
    intro a b c h
    cases a with
    | nil => have := (lev_len b c).2; rw [lev_nl, lev_nl]; omega
    | cons x a =>
      cases c with
      | nil => have := (lev_len (x :: a) b).1; rw [lev_nr, lev_nr]; omega
      | cons z c =>
        cases b with
        | nil => have := lev_le (x :: a) (z :: c); rw [lev_nr, lev_nl]; omega
        | cons y b =>
          simp only [List.length_cons] at h
          have i1 := ih a (y :: b) (z :: c) (by simp only [List.length_cons]; omega)
          have i2 := ih (x :: a) (y :: b) c (by simp only [List.length_cons]; omega)
          have i3 := ih (x :: a) b (z :: c) (by simp only [List.length_cons]; omega)
          have i4 := ih (x :: a) b c (by simp only [List.length_cons]; omega)
          have i5 := ih a b (z :: c) (by simp only [List.length_cons]; omega)
          have i6 := ih a b c (by omega)
          have e1 := lev_cc x a y b
          have e2 := lev_cc y b z c
          have e3 := lev_cc x a z c
          by_cases h1 : x = y <;> by_cases h2 : y = z <;> by_cases h3 : x = z
          all_goals first
            | exact absurd (h1.trans h2) h3
            | exact absurd (h1.symm.trans h3) h2
            | exact absurd (h3.trans h2.symm) h1
            | (simp only [h1, h2, h3, if_true, if_false] at e1 e2 e3; simp only [h1, h2, h3] at *; omega)
/-- The least distance to a beginning. -/
def sel : List Int → List Int → Int
  | [], t => 0
  | x :: a, [] => (a.length : Int) + 1
  | x :: a, y :: t => min (sel a t + if x = y then 0 else 1) (min (sel (x :: a) t + 1) (sel a (y :: t) + 1))
termination_by a t => a.length + t.length
theorem sel_nl (t : List Int) : sel [] t = 0 := by rw [sel]
theorem sel_nr (a : List Int) : sel a [] = a.length := by
  cases a with
  | nil => rw [sel]; rfl
  | cons x a => rw [sel]; simp
theorem sel_cc (x : Int) (a : List Int) (y : Int) (t : List Int) : sel (x :: a) (y :: t) = min (sel a t + if x = y then 0 else 1) (min (sel (x :: a) t + 1) (sel a (y :: t) + 1)) := by rw [sel]
theorem sel_le : ∀ (a t : List Int) (j : Nat), sel a t ≤ lev a (t.take j) := by
  refine lev_ind (fun b j => by rw [sel_nl]; exact lev_pos _ _) (fun a j => by rw [sel_nr, List.take_nil, lev_nr]; exact Int.le_refl _) fun x a y b h1 h2 h3 j => ?_
  rw [sel_cc]
  cases j with
  | zero =>
    have := h3 0
    simp only [List.take_zero, lev_nr, List.length_cons] at *
    omega
  | succ j =>
    have i1 := h1 j
    have i2 := h2 j
    have i3 := h3 (j + 1)
    simp only [List.take_succ_cons] at *
    rw [lev_cc]
    omega
theorem sel_is : ∀ (a t : List Int), ∃ j, j ≤ t.length ∧ sel a t = lev a (t.take j) := by
  refine lev_ind (fun b => ⟨0, Nat.zero_le _, by rw [sel_nl, List.take_zero, lev_nl]; rfl⟩) (fun a => ⟨0, Nat.le_refl _, by rw [sel_nr, List.take_nil, lev_nr]⟩) fun x a y b h1 h2 h3 => ?_
  obtain ⟨j1, l1, e1⟩ := h1
  obtain ⟨j2, l2, e2⟩ := h2
  obtain ⟨j3, l3, e3⟩ := h3
  have hs := sel_cc x a y b
  have k1 := sel_le (x :: a) (y :: b) (j1 + 1)
  have k2 := sel_le (x :: a) (y :: b) (j2 + 1)
  have k3 := sel_le (x :: a) (y :: b) j3
  simp only [List.length_cons] at *
  have c1 := lev_cc x a y (b.take j1)
  have c2 := lev_cc x a y (b.take j2)
  have c3 : lev (x :: a) ((y :: b).take j3) ≤ lev a ((y :: b).take j3) + 1 := by
    cases j3 with
    | zero => simp only [List.take_zero, lev_nr, List.length_cons]; omega
    | succ j3 => rw [List.take_succ_cons, lev_cc]; omega
  simp only [List.take_succ_cons] at k1 k2
  by_cases hA : sel (x :: a) (y :: b) = sel a b + if x = y then 0 else 1
  · exact ⟨j1 + 1, by omega, by rw [List.take_succ_cons]; omega⟩
  · by_cases hB : sel (x :: a) (y :: b) = sel (x :: a) b + 1
    · exact ⟨j2 + 1, by omega, by rw [List.take_succ_cons]; omega⟩
    · exact ⟨j3, by omega, by omega⟩
/-- A row of a table. -/
def lrow (f : List Int → Int) : List Int → List Int → List Int
  | pre, [] => [f pre]
  | pre, u :: us => f pre :: lrow f (u :: pre) us
theorem lrow_cons (f : List Int → Int) (pre us : List Int) : ∃ z, lrow f pre us = f pre :: z := by cases us <;> exact ⟨_, rfl⟩
theorem lrow_len (f : List Int → Int) : ∀ us pre, (lrow f pre us).length = us.length + 1
  | [], pre => rfl
  | u :: us, pre => by simp [lrow, lrow_len f us]
theorem lrow_last (f : List Int → Int) : ∀ us pre, (lrow f pre us)[us.length]? = some (f (us.reverse ++ pre))
  | [], pre => rfl
  | u :: us, pre => by
    have := lrow_last f us (u :: pre)
    simp only [lrow, List.length_cons, List.getElem?_cons_succ, this, List.reverse_cons, List.append_assoc, List.cons_append, List.nil_append]
theorem lrow_all (f : List Int → Int) (Q : Int → Prop) (h : ∀ p, Q (f p)) : ∀ us pre, ∀ e ∈ lrow f pre us, Q e
  | [], pre, e, he => by simp [lrow] at he; subst he; exact h _
  | u :: us, pre, e, he => by
    rcases List.mem_cons.1 he with rfl | he
    · exact h _
    · exact lrow_all f Q h us _ e he
theorem nxt_row (F : List Int → List Int → Int) (hF : ∀ u p r t, F (u :: p) (r :: t) = min (F p t + if u = r then 0 else 1) (min (F (u :: p) t + 1) (F p (r :: t) + 1))) (r : Int) (t : List Int) : ∀ us pre, F pre (r :: t) :: nxt (F pre (r :: t)) (lrow (F · t) pre us) us r = lrow (F · (r :: t)) pre us
  | [], pre => by simp [lrow, nxt]
  | u :: us, pre => by
    obtain ⟨z, hz⟩ := lrow_cons (F · t) (u :: pre) us
    have ih := nxt_row F hF r t us (u :: pre)
    have e : min (if (u != r) = true then F pre t + 1 else F pre t) (min (F (u :: pre) t + 1) (F pre (r :: t) + 1)) = F (u :: pre) (r :: t) := by
      rw [hF]
      by_cases h : u = r <;> simp [h]
    simp only [lrow, hz] at ih ⊢
    rw [nxt, e, ih]
theorem lrow_zero : ∀ us pre, lrow (fun p : List Int => (p.length : Int)) pre us = marks pre.length (us.length + 1)
  | [], pre => by simp [lrow, marks]
  | u :: us, pre => by
    rw [lrow, lrow_zero us (u :: pre), show (u :: us).length + 1 = (us.length + 1) + 1 from rfl, marks_cons (pre.length : Int) (us.length + 1)]
    simp
theorem p_l1In (a b c : Int) : spec_l1In.f a b c = some (decide (b ≤ a) && decide (a ≤ c)) := by
  unfold spec_l1In.f
  by_cases h : b ≤ a
  · rw [if_pos (by simpa using h)]; simp [h]
  · rw [if_neg (by simpa using h)]; simp [h]
theorem p_inRange (a b c : Int) : impl_inRange.f a b c = some (decide (b ≤ a) && decide (a ≤ c)) := by
  unfold impl_inRange.f
  by_cases h : b ≤ a
  · rw [if_pos (by simpa using h)]; simp [h]
  · rw [if_neg (by simpa using h)]; simp [h]
def okRune (r : Int) : Bool := decide (0 ≤ r) && decide (r ≤ 1114111) && !(decide (55296 ≤ r) && decide (r ≤ 57343))
theorem p_specRune (r : Int) : spec_GoodRune.f r = some (okRune r) := by
  unfold spec_GoodRune.f okRune
  simp only [p_l1In, Option.bind_some]
  cases (decide (0 ≤ r) && decide (r ≤ 1114111)) <;> rfl
theorem p_implRune (r : Int) : impl_GoodRune.f r = some (okRune r) := by
  unfold impl_GoodRune.f okRune
  simp only [p_inRange, Option.bind_some]
  cases (decide (0 ≤ r) && decide (r ≤ 1114111)) <;> rfl
theorem p_allRunes (p : List Int) (hp : p.length ≤ big) : spec_l1AllRunes.f p = some (p.all okRune && decide (p.length ≤ 1000)) := by
  unfold spec_l1AllRunes.f
  have := all_loop p hp (fun u => !okRune u) false (spec_l1AllRunes.l1 p) (fun k i => by rw [spec_l1AllRunes.l1]; simp only [p_specRune, Option.bind_some]) (((p.length : Int) - 0).toNat + 2) 0 (by omega) (by omega)
  rw [show ((0 : Nat) : Int) = 0 from rfl] at this
  rw [this, List.drop_zero]
  have e : p.any (fun u => !okRune u) = !p.all okRune := by rw [List.all_eq_not_any_not]; simp
  rw [e]
  cases h : p.all okRune <;> simp
  omega
theorem p_areRunes (p : List Int) (n : Int) (hp : p.length ≤ big) : impl_areRunes.f p n = some (decide ((p.length : Int) ≤ n) && p.all okRune) := by
  unfold impl_areRunes.f slices_ContainsFunc_int_int_impl_areRunes_1.f slices_IndexFunc_int_int_impl_areRunes_1.f
  by_cases h : (p.length : Int) ≤ n
  · rw [if_pos (by simpa using h)]
    have := scan_loop p hp (fun u => !okRune u) (fun i _ => i) (slices_IndexFunc_int_int_impl_areRunes_1.l1 p) (fun k i => by rw [slices_IndexFunc_int_int_impl_areRunes_1.l1]; simp only [impl_areRunes_1.f, p_implRune, Option.bind_some]) (((p.length : Int) - 0).toNat + 2) 0 (by omega) (by omega)
    rw [show ((0 : Nat) : Int) = 0 from rfl] at this
    rw [this, List.drop_zero]
    have e : p.all okRune = !(p.any fun u => !okRune u) := List.all_eq_not_any_not
    rw [e]
    cases hf : p.findIdx? (fun u => !okRune u) with
    | none =>
      have : p.any (fun u => !okRune u) = false := by
        rw [List.findIdx?_eq_none_iff] at hf
        simpa using hf
      rw [this]; simp [h]
    | some j =>
      obtain ⟨hj, h1, h2⟩ := List.findIdx?_eq_some_iff_getElem.1 hf
      have : p.any (fun u => !okRune u) = true := List.any_eq_true.2 ⟨_, List.getElem_mem hj, h1⟩
      rw [this]
      simp [hj]
  · rw [if_neg (by simpa using h)]
    simp [h]
def okShort (p : List Int) : Bool := decide ((p.length : Int) ≤ 60) && p.all okRune
theorem p_areShort (p : List (List Int)) (hp : p.length ≤ big) (hq : ∀ q ∈ p, q.length ≤ big) : impl_areShort.f p = some (p.all okShort) := by
  unfold impl_areShort.f slices_ContainsFunc_int_int_impl_areShort_1.f slices_IndexFunc_int_int_impl_areShort_1.f
  have key : ∀ (k i : Nat), i ≤ p.length → p.length - i < k → ∃ o, slices_IndexFunc_int_int_impl_areShort_1.l1 p k i = some o ∧ (if (p.drop i).all okShort then o = .go () else ∃ n : Int, 0 ≤ n ∧ o = .ret n) := by
    intro k
    induction k with
    | zero => intro i _ h; omega
    | succ k ih =>
      intro i hi hk
      rw [slices_IndexFunc_int_int_impl_areShort_1.l1]
      by_cases h : i < p.length
      · rw [if_pos (by simpa using h), rd?_at h]
        simp only [Option.bind_some, impl_areShort_1.f, p_areRunes p[i] 60 (hq _ (List.getElem_mem h))]
        rw [List.drop_eq_getElem_cons h, List.all_cons]
        have e : (decide ((p[i].length : Int) ≤ 60) && p[i].all okRune) = okShort p[i] := rfl
        rw [e]
        cases hr : okShort p[i] with
        | false => exact ⟨.ret i, by simp, by simp⟩
        | true =>
          simp only [Bool.not_true, Bool.false_eq_true, if_false, Bool.true_and]
          rw [wrapN i (by unfold big at hp; omega)]
          exact ih (i + 1) h (by omega)
      · rw [if_neg (by simpa using h)]
        exact ⟨_, rfl, by simp [List.drop_eq_nil_of_le (by omega : p.length ≤ i)]⟩
  obtain ⟨o, h1, h2⟩ := key (((p.length : Int) - 0).toNat + 2) 0 (by omega) (by omega)
  rw [show ((0 : Nat) : Int) = 0 from rfl] at h1
  rw [h1]
  rw [List.drop_zero] at h2
  cases hr : p.all okShort with
  | true =>
    rw [hr, if_pos rfl] at h2
    subst h2
    simp
  | false =>
    rw [hr] at h2
    obtain ⟨m, hm, rfl⟩ := h2
    simp [hm]
theorem p_l15List (p : List Int) (hp : p.length ≤ big) : spec_l15List.f p = some (okShort p) := by
  unfold spec_l15List.f okShort
  rw [p_allRunes p hp]
  simp only [Option.bind_some]
  generalize p.all okRune = b
  by_cases h2 : p.length ≤ 60 <;> by_cases h3 : p.length ≤ 1000 <;> cases b <;> simp [h2, h3] <;> omega
theorem lrow_bd (f : List Int → Int) : ∀ us pre, ∀ e ∈ lrow f pre us, ∃ p, p.length ≤ pre.length + us.length ∧ e = f p
  | [], pre, e, he => by simp [lrow] at he; exact ⟨pre, by simp, he⟩
  | u :: us, pre, e, he => by
    rcases List.mem_cons.1 he with rfl | he
    · exact ⟨pre, by simp, rfl⟩
    · obtain ⟨p, h1, h2⟩ := lrow_bd f us (u :: pre) e he
      exact ⟨p, by simp at h1 ⊢; omega, h2⟩
theorem levRow_in (t b : List Int) : inB (b.length + t.length) (lrow (lev · t) [] b) := fun e he => by
  obtain ⟨p, h1, rfl⟩ := lrow_bd _ _ _ e he
  have := lev_le p t
  have := lev_pos p t
  simp at h1
  omega
theorem lrow_congr {f g : List Int → Int} (h : ∀ p, f p = g p) (pre us : List Int) : lrow f pre us = lrow g pre us := by rw [show f = g from funext h]
theorem lev_row0 (b : List Int) : lrow (lev · []) [] b = marks 0 (b.length + 1) := by
  have := lrow_zero b []
  rw [show ((([] : List Int).length : Nat) : Int) = 0 from rfl] at this
  rw [← this]
  exact lrow_congr (fun p => lev_nr p) _ _
theorem levF (u : Int) (p : List Int) (r : Int) (t : List Int) : lev (u :: p) (r :: t) = min (lev p t + if u = r then 0 else 1) (min (lev (u :: p) t + 1) (lev p (r :: t) + 1)) := lev_cc u p r t
theorem take_succ_rev (a : List Int) {i : Nat} (h : i < a.length) : (a.take (i + 1)).reverse = a[i] :: (a.take i).reverse := by
  rw [List.take_succ_eq_append_getElem h, List.reverse_append]
  rfl
theorem p_dist_rows (a b : List Int) (ha : a.length ≤ 1000) (hb : b.length ≤ 1000) : ∀ (k i : Nat), i ≤ a.length → a.length - i < k →
    impl_distances.l1 a b k (lrow (lev · (a.take i).reverse) [] b) i = some (lrow (lev · a.reverse) [] b) ∧ spec_l15Distance.l1 a b k (lrow (lev · (a.take i).reverse) [] b) i = some (lrow (lev · a.reverse) [] b) := by
  intro k
  induction k with
  | zero => intro i _ h; omega
  | succ k ih =>
    intro i hi hk
    rw [impl_distances.l1, spec_l15Distance.l1]
    by_cases h : i < a.length
    · rw [if_pos (by simpa using h), if_pos (by simpa using h), rd?_at h]
      simp only [Option.bind_some]
      have hlen : (lrow (lev · (a.take i).reverse) [] b).length = b.length + 1 := lrow_len _ _ _
      have hin := levRow_in (a.take i).reverse b
      have hl : (a.take i).reverse.length = i := by simp; omega
      rw [hl] at hin
      obtain ⟨z, hz⟩ := lrow_cons (lev · (a.take i).reverse) [] b
      have h0 : (lrow (lev · (a.take i).reverse) [] b)[0]? = some (i : Int) := by
        rw [hz]
        show some (lev [] (a.take i).reverse) = _
        rw [lev_nl, hl]
      rw [wrapN i (by omega), p_nextRow _ a[i] b (i : Int) (b.length + i) (by omega) (by omega) hlen hin h0, p_l15Row _ a[i] b ((i + 1 : Nat) : Int) (b.length + i) (by omega) (by omega) hlen hin (by omega) (by omega)]
      simp only [Option.bind_some]
      have hn := nxt_row lev levF a[i] (a.take i).reverse b []
      rw [← take_succ_rev a h, lev_nl] at hn
      have hl2 : (a.take (i + 1)).reverse.length = i + 1 := by simp; omega
      rw [hl2] at hn
      rw [show ((i : Int) + 1) = ((i + 1 : Nat) : Int) by omega, hn]
      exact ih (i + 1) h (by omega)
    · rw [if_neg (by simpa using h), if_neg (by simpa using h)]
      obtain rfl : i = a.length := by omega
      rw [List.take_length]
      exact ⟨rfl, rfl⟩
theorem p_implDist (a b : List Int) (ha : a.length ≤ big) (hb : b.length ≤ big) : impl_DistanceOf.f a b = some (if okShort a && okShort b then (lev b.reverse a.reverse, true) else (0, false)) := by
  unfold impl_DistanceOf.f
  rw [p_areShort [a, b] (by simp [big]) (by simp [ha, hb])]
  simp only [Option.bind_some, List.all_cons, List.all_nil, Bool.and_true]
  cases hs : (okShort a && okShort b) with
  | false => rfl
  | true =>
    simp only [Bool.not_true, Bool.false_eq_true, if_false, if_true]
    simp only [okShort, Bool.and_eq_true, decide_eq_true_eq] at hs
    unfold impl_distances.f
    rw [p_firstRow b.length (by omega)]
    simp only [Option.bind_some]
    have := (p_dist_rows a b (by omega) (by omega) (((a.length : Int) - 0).toNat + 2) 0 (by omega) (by omega)).1
    rw [List.take_zero, List.reverse_nil, lev_row0, show ((0 : Nat) : Int) = 0 from rfl] at this
    rw [this]
    simp only [Option.bind_some]
    have hl := lrow_last (lev · a.reverse) b []
    have hlt : b.length < (lrow (lev · a.reverse) [] b).length := by rw [lrow_len]; omega
    rw [rd?_at hlt]
    rw [List.getElem?_eq_getElem hlt, List.append_nil] at hl
    simp only [Option.bind_some]
    rw [Option.some.inj hl]
theorem p_specDist (a b : List Int) (ha : a.length ≤ big) (hb : b.length ≤ big) : spec_DistanceOf.f a b = some (if okShort a && okShort b then (lev b.reverse a.reverse, true) else (0, false)) := by
  unfold spec_DistanceOf.f
  rw [p_l15List a ha, p_l15List b hb]
  simp only [Option.bind_some]
  cases hs1 : okShort a with
  | false => rfl
  | true =>
    cases hs2 : okShort b with
    | false => rfl
    | true =>
      simp only [Bool.not_true, Bool.false_eq_true, if_false, Option.bind_some, Bool.and_true, if_true]
      simp only [okShort, Bool.and_eq_true, decide_eq_true_eq] at hs1 hs2
      unfold spec_l15Distance.f
      rw [wrapS (by omega) (by omega), show ((b.length : Int) + 1) = ((b.length + 1 : Nat) : Int) by omega, p_numbers _ (by omega)]
      simp only [Option.bind_some]
      have := (p_dist_rows a b (by omega) (by omega) (((a.length : Int) - 0).toNat + 2) 0 (by omega) (by omega)).2
      rw [List.take_zero, List.reverse_nil, lev_row0, show ((0 : Nat) : Int) = 0 from rfl] at this
      rw [this]
      simp only [Option.bind_some]
      have hl := lrow_last (lev · a.reverse) b []
      have hlt : b.length < (lrow (lev · a.reverse) [] b).length := by rw [lrow_len]; omega
      rw [rd?_at hlt]
      rw [List.getElem?_eq_getElem hlt, List.append_nil] at hl
      simp only [Option.bind_some]
      rw [Option.some.inj hl]
def sm (b : Int) : List Int → List Int
  | [] => []
  | y :: ys => min y (b + 1) :: sm (min y (b + 1)) ys
theorem sm_nxt : ∀ (us row : List Int) (a b r : Int), b ≤ a → sm b (nxt a row us r) = nxt b row us r
  | [], row, a, b, r, _ => by cases row with | nil => rfl | cons x row => cases row <;> rfl
  | u :: us, [], a, b, r, _ => rfl
  | u :: us, [x], a, b, r, _ => rfl
  | u :: us, x :: y :: ys, a, b, r, h => by
    unfold nxt sm
    have e : min (min (if (u != r) = true then x + 1 else x) (min (y + 1) (a + 1))) (b + 1) = min (if (u != r) = true then x + 1 else x) (min (y + 1) (b + 1)) := by omega
    rw [e, sm_nxt us (y :: ys) _ _ r (by omega)]
theorem sm_marks : ∀ (n : Nat) (b : Int), sm b (marks (b + 1) n) = marks (b + 1) n
  | 0, b => rfl
  | n + 1, b => by
    rw [marks_cons]
    unfold sm
    rw [show min (b + 1) (b + 1) = b + 1 by omega, sm_marks n (b + 1)]
theorem p_smooth (w : List Int) (hw : w.length ≤ 1000000) : ∀ (k i : Nat) (x : List Int) (a : Int), i ≤ w.length → w.length - i < k → x.length = w.length + 1 → inB 1000000000 x → x[i]? = some a → impl_NearEnds.l2 w k x i = some (x.take (i + 1) ++ sm a (x.drop (i + 1))) := by
  intro k
  induction k with
  | zero => intro i x a _ h; omega
  | succ k ih =>
    intro i x a hi hk hl hb ha
    rw [impl_NearEnds.l2]
    by_cases h : i < w.length
    · have h1 : i < x.length := by omega
      have h2 : i + 1 < x.length := by omega
      have hxa : x[i] = a := (List.getElem?_eq_some_iff.1 ha).2
      have b1 := hb _ (List.getElem_mem h1)
      have b2 := hb _ (List.getElem_mem h2)
      rw [if_pos (by simpa using h), wrapN i (by omega), rd?_at h2]
      simp only [Option.bind_some]
      rw [rd?_at h1]
      simp only [Option.bind_some]
      rw [st?_at _ h2, wrapS (by omega) (by omega)]
      simp only [Option.bind_some]
      rw [hxa] at b1 ⊢
      generalize hv : min x[i + 1] (a + 1) = v
      have hlen : (x.set (i + 1) v).length = w.length + 1 := by simpa using hl
      rw [ih (i + 1) (x.set (i + 1) v) v h (by omega) hlen (fun e he => by
        rcases List.mem_or_eq_of_mem_set he with h | rfl
        · exact hb e h
        · omega) (by rw [List.getElem?_set_self h2])]
      have e1 : (x.set (i + 1) v).take (i + 1 + 1) = x.take (i + 1) ++ [v] := by
        rw [List.take_add_one, List.getElem?_set_self h2, List.take_set_of_le (Nat.le_refl _)]
        rfl
      have e2 : (x.set (i + 1) v).drop (i + 1 + 1) = x.drop (i + 1 + 1) := by rw [List.drop_set_of_lt (by omega)]
      rw [e1, e2, List.drop_eq_getElem_cons h2]
      show _ = some (x.take (i + 1) ++ (min x[i + 1] (a + 1) :: sm (min x[i + 1] (a + 1)) (x.drop (i + 1 + 1))))
      rw [hv, List.append_assoc]
      rfl
    · rw [if_neg (by simpa using h)]
      obtain rfl : i = w.length := by omega
      rw [List.drop_of_length_le (by omega), List.take_of_length_le (by omega)]
      simp [sm]
/-- A row of the search. -/
def goodRow (n : Nat) (row : List Int) : Prop := ∃ rest, row = 0 :: rest ∧ rest.length = n ∧ inB 1000 row
theorem goodRow.smooth {w : List Int} {a : Int} {rest : List Int} (hw : w.length ≤ 60) (hl : rest.length = w.length) (hb : inB 1000000000 rest) : impl_NearEnds.l2 w (((w.length : Int) - 0).toNat + 2) (0 :: rest) 0 = some (0 :: sm 0 rest) := by
  have := p_smooth w (by omega) (((w.length : Int) - 0).toNat + 2) 0 (0 :: rest) 0 (by omega) (by omega) (by simp [hl]) (fun e he => by
    rcases List.mem_cons.1 he with rfl | he
    · omega
    · exact hb e he) rfl
  rw [show ((0 : Nat) : Int) = 0 from rfl] at this
  rw [this]
  rfl
theorem p_near_l (w l : List Int) (m : Int) (hw : w.length ≤ 60) (hl : l.length ≤ 60) : ∀ (n k k' i : Nat) (out row : List Int), l.length + 1 - i = n → i ≤ l.length + 1 → n < k → n < k' → out.length ≤ i → goodRow w.length row → (i = 0 → row = marks 0 (w.length + 1)) →
    ∃ z, impl_NearEnds.l1 w l m k out row i = some z ∧ spec_NearEnds.l1 w l m k' out row i = some z ∧ z.length ≤ 62 := by
  intro n
  induction n with
  | zero =>
    intro k k' i out row hn hi hk hk' ho hrow h00
    obtain ⟨k, rfl⟩ := Nat.exists_eq_succ_of_ne_zero (show k ≠ 0 by omega)
    obtain ⟨k', rfl⟩ := Nat.exists_eq_succ_of_ne_zero (show k' ≠ 0 by omega)
    rw [impl_NearEnds.l1, spec_NearEnds.l1, wrapS (n := (l.length : Int) + 1) (by omega) (by omega)]
    rw [if_neg (by simp; omega), if_neg (by simp; omega)]
    exact ⟨_, rfl, rfl, by omega⟩
  | succ n ih =>
    intro k k' i out row hn hi hk hk' ho hrow h00
    obtain ⟨k, rfl⟩ := Nat.exists_eq_succ_of_ne_zero (show k ≠ 0 by omega)
    obtain ⟨k', rfl⟩ := Nat.exists_eq_succ_of_ne_zero (show k' ≠ 0 by omega)
    rw [impl_NearEnds.l1, spec_NearEnds.l1, wrapS (n := (l.length : Int) + 1) (by omega) (by omega)]
    by_cases h : i < l.length + 1
    · rw [if_pos (show decide ((i : Int) < (l.length : Int) + 1) = true by simp; omega), if_pos (show decide ((i : Int) ≤ (l.length : Int)) = true by simp; omega)]
      obtain ⟨rest, rfl, hrl, hrb⟩ := hrow
      -- the new row, of both
      have key : ∃ row', goodRow w.length row' ∧ ((if (decide ((i : Int) > 0)) = true then ((rd? l (IntKind.i64.wrap ((i : Int) - 1))).bind fun u312 => (spec_l15Row.f (0 :: rest) u312 w 0).bind fun u313 => some u313) else (some (0 :: rest))) = some row') ∧
          ∃ rowa : List Int, ((if (decide ((i : Int) > 0)) = true then ((rd? l (IntKind.i64.wrap ((i : Int) - 1))).bind fun u312 => (impl_nextRow.f (0 :: rest) u312 w).bind fun u313 => some u313) else (some (0 :: rest))) = some rowa) ∧ ∃ b rs, rowa = b :: rs ∧ impl_NearEnds.l2 w (((w.length : Int) - 0).toNat + 2) (0 :: rs) 0 = some row' := by
        by_cases h0 : 0 < i
        · have hi1 : i - 1 < l.length := by omega
          rw [if_pos (by simpa using h0), if_pos (by simpa using h0), wrapS (by omega) (by omega), show ((i : Int) - 1) = ((i - 1 : Nat) : Int) by omega, rd?_at hi1]
          simp only [Option.bind_some]
          have hlen : (0 :: rest).length = w.length + 1 := by simp [hrl]
          rw [p_l15Row (0 :: rest) _ w 0 1000 (by omega) (by omega) hlen hrb (by omega) (by omega), p_nextRow (0 :: rest) _ w 0 1000 (by omega) (by omega) hlen hrb rfl]
          simp only [Option.bind_some]
          have bd := nxt_bd w (0 :: rest) (0 + 1) 1000 l[i - 1] hrb (by omega)
          have bd0 := nxt_bd w (0 :: rest) 0 1000 l[i - 1] hrb (by omega)
          refine ⟨_, ⟨_, rfl, nxt_len w (0 :: rest) 0 _ hlen, ?_⟩, rfl, _, rfl, _, _, rfl, ?_⟩
          · intro e he
            rcases List.mem_cons.1 he with rfl | he
            · omega
            · have := bd0 e he; omega
          · rw [goodRow.smooth (a := 0) hw (nxt_len w (0 :: rest) (0 + 1) _ hlen) (fun e he => by have := bd e he; omega), sm_nxt w (0 :: rest) (0 + 1) 0 _ (by omega)]
        · have hz : i = 0 := by omega
          rw [if_neg (by simp; omega), if_neg (by simp; omega)]
          have hm := h00 hz
          rw [marks_cons] at hm
          obtain rfl : rest = marks (0 + 1) w.length := (List.cons.inj hm).2
          refine ⟨_, ⟨_, rfl, hrl, hrb⟩, rfl, _, rfl, _, _, rfl, ?_⟩
          rw [goodRow.smooth (a := 0) hw hrl (fun e he => by have := hrb e (List.mem_cons_of_mem _ he); omega), sm_marks]
      obtain ⟨row', hg, e1, rowa, e2, b, rs, rfl, e3⟩ := key
      rw [e1, e2]
      simp only [Option.bind_some]
      have hrd : rd? (b :: rs) 0 = some b := rfl
      have hst : st? (b :: rs) 0 0 = some (0 :: rs) := by
        have := st?_at (xs := b :: rs) (i := 0) 0 (by simp)
        rw [show ((0 : Nat) : Int) = 0 from rfl] at this
        rw [this]
        rfl
      rw [hrd]
      simp only [Option.bind_some]
      rw [hst]
      simp only [Option.bind_some]
      rw [e3]
      simp only [Option.bind_some]
      obtain ⟨rs', rfl, hrl', hrb'⟩ := hg
      rw [rd?_at (xs := 0 :: rs') (i := w.length) (by simp; omega)]
      simp only [Option.bind_some]
      split
      · rw [app?_at (by simp; omega)]
        simp only [Option.bind_some]
        rw [wrapN i (by omega)]
        exact ih k k' (i + 1) _ _ (by omega) (by omega) (by omega) (by omega) (by simp; omega) ⟨rs', rfl, hrl', hrb'⟩ (fun h => by omega)
      · simp only [Option.bind_some]
        rw [wrapN i (by omega)]
        exact ih k k' (i + 1) _ _ (by omega) (by omega) (by omega) (by omega) (by omega) ⟨rs', rfl, hrl', hrb'⟩ (fun h => by omega)
    · rw [if_neg (by simp; omega), if_neg (by simp; omega)]
      exact ⟨_, rfl, rfl, by omega⟩
theorem p_NearEnds (w l : List Int) (m : Int) (hw : w.length ≤ big) (hl : l.length ≤ big) : ∃ r : List Int × Bool, impl_NearEnds.f w l m = some r ∧ spec_NearEnds.f w l m = some r ∧ r.1.length ≤ 62 := by
  unfold impl_NearEnds.f spec_NearEnds.f
  rw [p_areShort [w, l] (by simp [big]) (by simp [hw, hl]), p_l15List w hw, p_l15List l hl]
  simp only [Option.bind_some, List.all_cons, List.all_nil, Bool.and_true, p_inRange, p_l1In]
  cases e1 : okShort w with
  | false => exact ⟨_, by simp; rfl, by simp, by simp⟩
  | true =>
    cases e2 : okShort l with
    | false => exact ⟨_, by simp; rfl, by simp, by simp⟩
    | true =>
      simp only [Bool.and_true, Bool.not_true, Bool.false_eq_true, if_false]
      by_cases h0 : w.length = 0
      · exact ⟨_, by simp [h0]; rfl, by simp [h0], by simp⟩
      have b1 : ((w.length : Int) == 0) = false := by rw [beq_eq_false_iff_ne]; omega
      rw [b1]
      simp only [Bool.false_eq_true, if_false, Option.bind_some]
      cases e3 : (decide (0 ≤ m) && decide (m ≤ 60)) with
      | false => exact ⟨_, rfl, rfl, by simp⟩
      | true =>
        simp only [okShort, Bool.and_eq_true, decide_eq_true_eq] at e1 e2
        have lw : w.length ≤ 60 := by omega
        have ll : l.length ≤ 60 := by omega
        simp only [Bool.not_true, Bool.false_eq_true, if_false]
        rw [p_firstRow _ (by omega), wrapS (n := (l.length : Int) + 1) (by omega) (by omega), wrapS (n := (w.length : Int) + 1) (by omega) (by omega), show ((w.length : Int) + 1) = ((w.length + 1 : Nat) : Int) by omega, p_numbers _ (by omega)]
        simp only [Option.bind_some]
        have hg : goodRow w.length (marks 0 (w.length + 1)) := ⟨_, marks_cons 0 _, marks_len _ _, fun e he => by
          simp only [marks, List.mem_map, List.mem_range] at he
          obtain ⟨j, hj, rfl⟩ := he
          omega⟩
        obtain ⟨z, f1, f2, f3⟩ := p_near_l w l m lw ll (l.length + 1) (((l.length : Int) + 1 - 0).toNat + 2) (((l.length : Int) - 0).toNat + 2) 0 [] (marks 0 (w.length + 1)) (by omega) (by omega) (by omega) (by omega) (by simp) hg (fun _ => rfl)
        rw [show ((0 : Nat) : Int) = 0 from rfl] at f1 f2
        rw [f1, f2]
        exact ⟨(z, true), rfl, rfl, f3⟩
theorem sel_pos : ∀ a t, 0 ≤ sel a t := by
  refine lev_ind (fun b => by rw [sel_nl]; exact Int.le_refl _) (fun a => by rw [sel_nr]; omega) fun x a y b h1 h2 h3 => ?_
  rw [sel_cc]
  split <;> omega
theorem sel_le_len (a t : List Int) : sel a t ≤ a.length := by
  have := sel_le a t 0
  rw [List.take_zero, lev_nr] at this
  exact this
theorem selRow_in (t b : List Int) : inB b.length (lrow (sel · t) [] b) := fun e he => by
  obtain ⟨p, h1, rfl⟩ := lrow_bd _ _ _ e he
  have := sel_le_len p t
  have := sel_pos p t
  simp at h1
  omega
theorem sel_row0 (b : List Int) : lrow (sel · []) [] b = marks 0 (b.length + 1) := by
  have := lrow_zero b []
  rw [show ((([] : List Int).length : Nat) : Int) = 0 from rfl] at this
  rw [← this]
  exact lrow_congr (fun p => sel_nr p) _ _
/-- The ends that are near. -/
def endsAt (w l : List Int) (m : Int) (i : Nat) : List Int := ((List.range i).filter fun j => decide (sel w.reverse (l.take j).reverse ≤ m)).map fun j : Nat => (j : Int)
theorem endsAt_len (w l : List Int) (m : Int) (i : Nat) : (endsAt w l m i).length ≤ i := by
  have := List.length_filter_le (fun j => decide (sel w.reverse (l.take j).reverse ≤ m)) (List.range i)
  simp [endsAt] at this ⊢
  exact this
theorem endsAt_succ (w l : List Int) (m : Int) (i : Nat) : endsAt w l m (i + 1) = if sel w.reverse (l.take i).reverse ≤ m then endsAt w l m i ++ [(i : Int)] else endsAt w l m i := by
  unfold endsAt
  rw [List.range_succ, List.filter_append, List.map_append]
  by_cases h : sel w.reverse (l.take i).reverse ≤ m <;> simp [h]
theorem endsAt_mem (w l : List Int) (m : Int) (i j : Nat) : (endsAt w l m i).contains (j : Int) = (decide (j < i) && decide (sel w.reverse (l.take j).reverse ≤ m)) := by
  rw [Bool.eq_iff_iff]
  simp only [List.contains_iff_mem, endsAt, List.mem_map, List.mem_filter, List.mem_range, Bool.and_eq_true, decide_eq_true_eq]
  constructor
  · rintro ⟨k, ⟨h1, h2⟩, h3⟩
    obtain rfl : k = j := by omega
    exact ⟨h1, h2⟩
  · exact fun ⟨h1, h2⟩ => ⟨j, ⟨h1, h2⟩, rfl⟩
theorem p_ends_l (w l : List Int) (m : Int) (hw : w.length ≤ 60) (hl : l.length ≤ 60) : ∀ (k i : Nat), i ≤ l.length + 1 → l.length + 1 - i < k → spec_NearEnds.l1 w l m k (endsAt w l m i) (lrow (sel · (l.take (i - 1)).reverse) [] w) i = some (endsAt w l m (l.length + 1)) := by
  intro k
  induction k with
  | zero => intro i _ h; omega
  | succ k ih =>
    intro i hi hk
    rw [spec_NearEnds.l1]
    by_cases h : i < l.length + 1
    · rw [if_pos (show decide ((i : Int) ≤ (l.length : Int)) = true by simp; omega)]
      have hrow : ((if (decide ((i : Int) > 0)) = true then ((rd? l (IntKind.i64.wrap ((i : Int) - 1))).bind fun u312 => (spec_l15Row.f (lrow (sel · (l.take (i - 1)).reverse) [] w) u312 w 0).bind fun u313 => some u313) else (some (lrow (sel · (l.take (i - 1)).reverse) [] w)))) = some (lrow (sel · (l.take i).reverse) [] w) := by
        by_cases h0 : 0 < i
        · have hi1 : i - 1 < l.length := by omega
          rw [if_pos (by simpa using h0), wrapS (by omega) (by omega), show ((i : Int) - 1) = ((i - 1 : Nat) : Int) by omega, rd?_at hi1]
          simp only [Option.bind_some]
          rw [p_l15Row _ _ w 0 w.length (by omega) (by omega) (lrow_len _ _ _) (selRow_in _ w) (by omega) (by omega)]
          simp only [Option.bind_some]
          have hn := nxt_row sel (fun u p r t => sel_cc u p r t) l[i - 1] (l.take (i - 1)).reverse w []
          rw [← take_succ_rev l hi1, sel_nl, show i - 1 + 1 = i by omega] at hn
          rw [hn]
        · obtain rfl : i = 0 := by omega
          rfl
      rw [hrow]
      simp only [Option.bind_some]
      have hlast := lrow_last (sel · (l.take i).reverse) w []
      have hlt : w.length < (lrow (sel · (l.take i).reverse) [] w).length := by rw [lrow_len]; omega
      rw [rd?_at hlt]
      rw [List.getElem?_eq_getElem hlt, List.append_nil] at hlast
      simp only [Option.bind_some]
      rw [Option.some.inj hlast]
      have he := endsAt_succ w l m i
      have hel := endsAt_len w l m i
      have := ih (i + 1) (by omega) (by omega)
      rw [he, Nat.add_sub_cancel] at this
      by_cases hs : sel w.reverse (l.take i).reverse ≤ m
      · rw [if_pos hs] at this
        rw [if_pos (by simpa using hs), app?_at (by simp; omega)]
        simp only [Option.bind_some]
        rw [wrapN i (by omega)]
        exact this
      · rw [if_neg hs] at this
        rw [if_neg (by simpa using hs)]
        simp only [Option.bind_some]
        rw [wrapN i (by omega)]
        exact this
    · rw [if_neg (by simp; omega)]
      obtain rfl : i = l.length + 1 := by omega
      rfl
theorem p_specEnds (w l : List Int) (m : Int) (hw : w.length ≤ big) (hl : l.length ≤ big) : ∃ r : List Int × Bool, spec_NearEnds.f w l m = some r ∧ (r.2 = true → okShort w = true ∧ okShort l = true ∧ r.1 = endsAt w l m (l.length + 1)) := by
  unfold spec_NearEnds.f
  rw [p_l15List w hw, p_l15List l hl]
  simp only [Option.bind_some, p_l1In]
  cases e1 : okShort w with
  | false => exact ⟨_, rfl, by simp⟩
  | true =>
    cases e2 : okShort l with
    | false => exact ⟨_, rfl, by simp⟩
    | true =>
      simp only [Bool.not_true, Bool.false_eq_true, if_false]
      by_cases h0 : w.length = 0
      · exact ⟨([], false), by simp [h0], by simp⟩
      have b1 : ((w.length : Int) == 0) = false := by rw [beq_eq_false_iff_ne]; omega
      rw [b1]
      simp only [Bool.false_eq_true, if_false, Option.bind_some]
      cases e3 : (decide (0 ≤ m) && decide (m ≤ 60)) with
      | false => exact ⟨_, rfl, by simp⟩
      | true =>
        simp only [okShort, Bool.and_eq_true, decide_eq_true_eq] at e1 e2
        have lw : w.length ≤ 60 := by omega
        have ll : l.length ≤ 60 := by omega
        simp only [Bool.not_true, Bool.false_eq_true, if_false]
        rw [wrapS (n := (w.length : Int) + 1) (by omega) (by omega), show ((w.length : Int) + 1) = ((w.length + 1 : Nat) : Int) by omega, p_numbers _ (by omega)]
        simp only [Option.bind_some]
        have := p_ends_l w l m lw ll (((l.length : Int) - 0).toNat + 2) 0 (by omega) (by omega)
        rw [show endsAt w l m 0 = [] from rfl, show 0 - 1 = 0 from rfl, List.take_zero, List.reverse_nil, sel_row0, show ((0 : Nat) : Int) = 0 from rfl] at this
        rw [this]
        exact ⟨(_, true), rfl, fun _ => ⟨trivial, trivial, rfl⟩⟩
theorem wrapU (n : Int) : 0 ≤ IntKind.u64.wrap n ∧ IntKind.u64.wrap n < 18446744073709551616 := by rw [IntKind.wrap_u64]; omega
theorem p_next (code : List Int) (hc : allW (inK .u8) code) (a s : Int) (h0 : 0 ≤ a) (h1 : a ≤ 1000000000000000) : ∃ n s', spec_l1Cur_next.f code a s = some (n, a + 1, s') ∧ 0 ≤ n ∧ n ≤ 255 := by
  unfold spec_l1Cur_next.f
  have key : ∃ x : Int, (if (decide (a < (code.length : Int))) = true then ((rd? code a).bind fun u10 => some (IntKind.i64.wrap u10)) else (some 0)) = some x ∧ 0 ≤ x ∧ x ≤ 255 := by
    obtain ⟨k, rfl⟩ := Int.eq_ofNat_of_zero_le h0
    by_cases h : k < code.length
    · rw [if_pos (by simpa using h), rd?_at h]
      have hb : -0 ≤ code[k] ∧ code[k] ≤ 255 := by
        have := hc.2 _ (List.getElem_mem h)
        exact this
      simp only [Option.bind_some]
      rw [wrapS (by omega) (by omega)]
      exact ⟨_, rfl, by omega, by omega⟩
    · rw [if_neg (by simpa using h)]
      exact ⟨0, rfl, by omega, by omega⟩
  obtain ⟨x, e, x0, x1⟩ := key
  rw [e]
  simp only [Option.bind_some]
  rw [wrapS (n := a + 1) (by omega) (by omega)]
  generalize IntKind.u64.wrap (IntKind.u64.wrap (IntKind.u64.wrap (s * 6364136223846793005) + IntKind.u64.wrap x) + 1442695040888963407) = y
  by_cases h : a + 1 ≤ (code.length : Int)
  · rw [if_pos (by simpa using h)]
    exact ⟨x, y, rfl, x0, x1⟩
  · rw [if_neg (by simpa using h)]
    have hs : ∃ q, shrK? .u64 y 40 = some q := ⟨_, by unfold shrK?; rw [if_pos (by decide)]⟩
    obtain ⟨q, hq⟩ := hs
    rw [hq]
    simp only [Option.bind_some]
    have hb : 0 ≤ bits .and .u64 q 255 ∧ bits .and .u64 q 255 ≤ 255 := by
      unfold bits
      dsimp only
      have : (BitVec.ofInt IntKind.u64.bits q &&& BitVec.ofInt IntKind.u64.bits 255).toNat ≤ 255 := by
        rw [BitVec.toNat_and]
        exact Nat.le_trans Nat.and_le_right (by decide)
      rw [IntKind.wrap_u64]
      omega
    rw [wrapS (by omega) (by omega)]
    exact ⟨_, y, rfl, hb.1, hb.2⟩
theorem p_pick (code : List Int) (hc : allW (inK .u8) code) (a s n : Int) (h0 : 0 ≤ a) (h1 : a ≤ 1000000000000) : ∃ r a' s', spec_l1Cur_pick.f code a s n = some (r, a', s') ∧ 0 ≤ r ∧ (1 ≤ n → r < n) ∧ (n ≤ 1 → r = 0) ∧ r ≤ 65535 ∧ a ≤ a' ∧ a' ≤ a + 2 := by
  unfold spec_l1Cur_pick.f
  by_cases hn : n ≤ 1
  · rw [if_pos (by simpa using hn)]
    exact ⟨0, a, s, rfl, by omega, by omega, by omega, by omega, by omega, by omega⟩
  · rw [if_neg (by simpa using hn)]
    obtain ⟨x, s1, e1, x0, x1⟩ := p_next code hc a s h0 (by omega)
    rw [e1]
    simp only [Option.bind_some]
    have key : ∀ (v a' s' : Int), 0 ≤ v → v ≤ 65535 → a ≤ a' → a' ≤ a + 2 → ∃ r b' t', (rem? v n).bind (fun u20 => some (u20, a', s')) = some (r, b', t') ∧ 0 ≤ r ∧ (1 ≤ n → r < n) ∧ (n ≤ 1 → r = 0) ∧ r ≤ 65535 ∧ a ≤ b' ∧ b' ≤ a + 2 := by
      intro v a' s' v0 v1 b0 b1
      unfold rem?
      rw [if_neg (by omega)]
      have e := Int.tmod_eq_emod_of_nonneg (b := n) v0
      have hb := Int.emod_lt_of_pos v (show 0 < n by omega)
      have hb0 := Int.emod_nonneg v (show n ≠ 0 by omega)
      have hb1 : v % n ≤ v := by
        by_cases hvn : v < n
        · rw [Int.emod_eq_of_lt v0 hvn]; exact Int.le_refl _
        · omega
      rw [e]
      exact ⟨_, a', s', rfl, hb0, fun _ => hb, by omega, by omega, b0, b1⟩
    by_cases h2 : n > 200
    · rw [if_pos (by simpa using h2)]
      obtain ⟨y, s2, e2, y0, y1⟩ := p_next code hc (a + 1) s1 (by omega) (by omega)
      rw [e2]
      simp only [Option.bind_some]
      rw [wrapS (n := x * 256) (by omega) (by omega), wrapS (by omega) (by omega)]
      exact key (x * 256 + y) (a + 1 + 1) s2 (by omega) (by omega) (by omega) (by omega)
    · rw [if_neg (by simpa using h2)]
      exact key x (a + 1) s1 (by omega) (by omega) (by omega) (by omega)
theorem p_among (code : List Int) (hc : allW (inK .u8) code) (a s : Int) (l : List Int) (hl : l ≠ []) (h0 : 0 ≤ a) (h1 : a ≤ 1000000000000) : ∃ r a' s', spec_l1Cur_among.f code a s l = some (r, a', s') ∧ r ∈ l ∧ a ≤ a' ∧ a' ≤ a + 2 := by
  unfold spec_l1Cur_among.f
  have hp : 0 < l.length := List.length_pos_iff.2 hl
  obtain ⟨r, a', s', e, r0, r1, _, _, b0, b1⟩ := p_pick code hc a s (l.length : Int) h0 h1
  rw [e]
  simp only [Option.bind_some]
  obtain ⟨k, rfl⟩ := Int.eq_ofNat_of_zero_le r0
  have hk : k < l.length := by have := r1 (by omega); omega
  rw [rd?_at hk]
  exact ⟨_, a', s', rfl, List.getElem_mem hk, b0, b1⟩
def smallR : List Int := [97, 98, 97, 98, 99, 12354]
theorem p_small (code : List Int) (hc : allW (inK .u8) code) (a s m : Int) (h0 : 0 ≤ a) (h1 : a ≤ 100000000000) (hm0 : 0 ≤ m) (hm : m ≤ 60000) : ∃ (l : List Int) (a' s' : Int), spec_l1Cur_small.f code a s m = some (l, a', s') ∧ (l.length : Int) ≤ m ∧ (∀ x ∈ l, x ∈ smallR) ∧ a ≤ a' ∧ a' ≤ a + 2 + 2 * m := by
  unfold spec_l1Cur_small.f
  rw [wrapS (by omega) (by omega)]
  obtain ⟨r, a1, s1, e, r0, r1, _, _, b0, b1⟩ := p_pick code hc a s (m + 1) h0 (by omega)
  rw [e]
  simp only [Option.bind_some]
  obtain ⟨k, rfl⟩ := Int.eq_ofNat_of_zero_le r0
  have hk : (k : Int) < m + 1 := r1 (by omega)
  have key : ∀ (n f : Nat) (l : List Int) (a s : Int), n < f → 0 ≤ a → a + 2 * n ≤ 1000000000000 → (∀ x ∈ l, x ∈ smallR) → l.length + n ≤ 100000 → ∃ (l' : List Int) (a' s' : Int), spec_l1Cur_small.l1 code f l (n : Int) a s = some (l', a', s') ∧ l'.length = l.length + n ∧ (∀ x ∈ l', x ∈ smallR) ∧ a ≤ a' ∧ a' ≤ a + 2 * n := by
    intro n
    induction n with
    | zero =>
      intro f l a s hf ha ha2 hl hn
      obtain ⟨f, rfl⟩ := Nat.exists_eq_succ_of_ne_zero (show f ≠ 0 by omega)
      rw [spec_l1Cur_small.l1, if_neg (by simp)]
      exact ⟨l, a, s, rfl, by omega, hl, by omega, by omega⟩
    | succ n ih =>
      intro f l a s hf ha ha2 hl hn
      obtain ⟨f, rfl⟩ := Nat.exists_eq_succ_of_ne_zero (show f ≠ 0 by omega)
      rw [spec_l1Cur_small.l1, if_pos (by simp <;> omega)]
      obtain ⟨x, a1, s1, e, hx, c0, c1⟩ := p_among code hc a s smallR (by decide) ha (by omega)
      unfold smallR at e
      rw [e]
      simp only [Option.bind_some]
      rw [app?_at (by simp; omega)]
      simp only [Option.bind_some]
      rw [wrapS (by omega) (by omega), show ((n + 1 : Nat) : Int) - 1 = (n : Int) by omega]
      obtain ⟨l', a', s', e', g1, g2, g3, g4⟩ := ih f (l ++ [x]) a1 s1 (by omega) (by omega) (by omega) (fun y hy => by
        rcases List.mem_append.1 hy with hy | hy
        · exact hl y hy
        · rw [List.mem_singleton.1 hy]; exact hx) (by simp; omega)
      exact ⟨l', a', s', e', by rw [g1]; simp; omega, g2, by omega, by omega⟩
  obtain ⟨l, a', s', e2, g1, g2, g3, g4⟩ := key k (((k : Int) - 0).toNat + 2) [] a1 s1 (by omega) (by omega) (by omega) (by simp) (by simp; omega)
  rw [e2]
  exact ⟨l, a', s', rfl, by simp at g1; omega, g2, by omega, by omega⟩
theorem p_one (code : List Int) (hc : allW (inK .u8) code) (a s n : Int) (h0 : 0 ≤ a) (h1 : a ≤ 1000000000000) : ∃ (r : Bool) (a' s' : Int), spec_l1Cur_one.f code a s n = some (r, a', s') ∧ a ≤ a' ∧ a' ≤ a + 2 := by
  unfold spec_l1Cur_one.f
  obtain ⟨r, a', s', e, _, _, _, _, b0, b1⟩ := p_pick code hc a s n h0 h1
  rw [e]
  exact ⟨_, a', s', rfl, b0, b1⟩
theorem p_ownN (p : List Int) (hp : p.length ≤ big) : spec_l1Own.f p = some p := by
  unfold spec_l1Own.f
  rw [app?_at (by simpa using hp)]
  rfl
/-- What near draws. -/
def nearR (x : Int) : Prop := okRune x = true ∨ x = -1
theorem p_near (code : List Int) (hc : allW (inK .u8) code) (a s : Int) (h0 : 0 ≤ a) (h1 : a ≤ 10000000000) : ∃ (p q : List Int) (a' s' : Int), spec_l1Cur_near.f code a s = some (p, q, a', s') ∧ p.length ≤ 10 ∧ q.length ≤ 20 ∧ (∀ x ∈ p, okRune x = true) ∧ a ≤ a' ∧ a' ≤ a + 100 := by
  unfold spec_l1Cur_near.f
  obtain ⟨l, a1, s1, e1, l1, l2, b1, c1⟩ := p_small code hc a s 10 h0 (by omega) (by omega) (by omega)
  rw [e1]
  simp only [Option.bind_some]
  have hl10 : l.length ≤ 10 := by omega
  rw [p_ownN l (by unfold big; omega)]
  simp only [Option.bind_some]
  obtain ⟨r, a2, s2, e2, r0, r1, _, _, b2, c2⟩ := p_pick code hc a1 s1 4 (by omega) (by omega)
  rw [e2]
  simp only [Option.bind_some]
  obtain ⟨m, rfl⟩ := Int.eq_ofNat_of_zero_le r0
  have hm : m < 4 := by have := r1 (by omega); omega
  have key : ∀ (n f : Nat) (b : List Int) (a s : Int), n < f → 0 ≤ a → a + 10 * n ≤ 100000000000 → n ≤ 4 → b.length + n ≤ 15 → ∃ (b' : List Int) (a' s' : Int), spec_l1Cur_near.l1 code f b (n : Int) a s = some (b', a', s') ∧ b'.length ≤ b.length + n ∧ a ≤ a' ∧ a' ≤ a + 10 * n := by
    intro n
    induction n with
    | zero =>
      intro f b a s hf ha ha2 hn hb
      obtain ⟨f, rfl⟩ := Nat.exists_eq_succ_of_ne_zero (show f ≠ 0 by omega)
      rw [spec_l1Cur_near.l1, if_neg (by simp)]
      exact ⟨b, a, s, rfl, by omega, by omega, by omega⟩
    | succ n ih =>
      intro f b a s hf ha ha2 hn hb
      obtain ⟨f, rfl⟩ := Nat.exists_eq_succ_of_ne_zero (show f ≠ 0 by omega)
      rw [spec_l1Cur_near.l1, if_pos (by simp <;> omega), wrapS (by omega) (by omega)]
      obtain ⟨r, a1, s1, e1, r0, r1, _, _, x1, y1⟩ := p_pick code hc a s ((b.length : Int) + 1) ha (by omega)
      rw [e1]
      simp only [Option.bind_some]
      obtain ⟨j, rfl⟩ := Int.eq_ofNat_of_zero_le r0
      have hj : j ≤ b.length := by have := r1 (by omega); omega
      rw [cut?_at hj (Nat.le_refl _)]
      simp only [Option.bind_some]
      rw [p_ownN _ (by simp [big]; omega)]
      simp only [Option.bind_some]
      generalize hz : (b.take b.length).drop j = z
      have hzl : z.length = b.length - j := by rw [← hz]; simp
      -- the rest
      have k1 : ∃ (z' : List Int) (a' s' : Int), ((if (decide ((z.length : Int) > 0)) = true then ((spec_l1Cur_one.f code a1 s1 2).bind fun u718 => some (u718.1, u718.2.1, u718.2.2)) else (some (false, a1, s1))).bind fun (o : Bool × Int × Int) => match o with | (x714, x715, x716) => (if x714 = true then ((cut? z 1 (z.length : Int)).bind fun x721 => some (x721, x715, x716)) else (some (z, x715, x716)))) = some (z', a', s') ∧ z'.length ≤ z.length ∧ a1 ≤ a' ∧ a' ≤ a1 + 2 := by
        by_cases hzp : 0 < z.length
        · rw [if_pos (by simpa using hzp)]
          obtain ⟨w, a2, s2, e2, x2, y2⟩ := p_one code hc a1 s1 2 (by omega) (by omega)
          rw [e2]
          simp only [Option.bind_some]
          cases w with
          | true =>
            have := cut?_at (xs := z) (a := 1) (b := z.length) (by omega) (Nat.le_refl _)
            rw [show ((1 : Nat) : Int) = 1 from rfl] at this
            rw [if_pos rfl, this]
            exact ⟨_, a2, s2, rfl, by simp, x2, y2⟩
          | false => exact ⟨z, a2, s2, rfl, Nat.le_refl _, x2, y2⟩
        · rw [if_neg (by simpa using hzp)]
          exact ⟨z, a1, s1, rfl, Nat.le_refl _, by omega, by omega⟩
      obtain ⟨z', a2, s2, e2, hz', x2, y2⟩ := k1
      rw [e2]
      simp only [Option.bind_some]
      have hcut := cut?_at (xs := b) (a := 0) (b := j) (by omega) hj
      rw [show ((0 : Nat) : Int) = 0 from rfl] at hcut
      rw [hcut]
      simp only [Option.bind_some]
      rw [p_ownN _ (by simp [big]; omega)]
      simp only [Option.bind_some]
      generalize hy : (b.take j).drop 0 = y
      have hyl : y.length = j := by rw [← hy]; simp; omega
      have k2 : ∃ (y' : List Int) (a' s' : Int), ((spec_l1Cur_one.f code a2 s2 2).bind fun u739 => if u739.1 = true then ((spec_l1Cur_among.f code u739.2.1 u739.2.2 [97, 98, 120]).bind fun u742 => (app? 17592186044416 y [u742.1]).bind fun x744 => some (x744, u742.2.1, u742.2.2)) else (some (y, u739.2.1, u739.2.2))) = some (y', a', s') ∧ y'.length ≤ y.length + 1 ∧ a2 ≤ a' ∧ a' ≤ a2 + 4 := by
        obtain ⟨w, a3, s3, e3, x3, y3⟩ := p_one code hc a2 s2 2 (by omega) (by omega)
        rw [e3]
        simp only [Option.bind_some]
        cases w with
        | true =>
          rw [if_pos rfl]
          obtain ⟨v, a4, s4, e4, _, x4, y4⟩ := p_among code hc a3 s3 [97, 98, 120] (by simp) (by omega) (by omega)
          rw [e4]
          simp only [Option.bind_some]
          rw [app?_at (by simp; omega)]
          exact ⟨_, a4, s4, rfl, by simp, by omega, by omega⟩
        | false => exact ⟨y, a3, s3, rfl, by omega, by omega, by omega⟩
      obtain ⟨y', a3, s3, e3, hy', x3, y3⟩ := k2
      rw [e3]
      simp only [Option.bind_some]
      rw [app?_at (by omega)]
      simp only [Option.bind_some]
      rw [wrapS (by omega) (by omega), show ((n + 1 : Nat) : Int) - 1 = (n : Int) by omega]
      have hlen : (y' ++ z').length ≤ b.length + 1 := by simp; omega
      obtain ⟨b', a', s', e', g1, g2, g3⟩ := ih f (y' ++ z') a3 s3 (by omega) (by omega) (by omega) (by omega) (by omega)
      exact ⟨b', a', s', e', by omega, by omega, by omega⟩
  obtain ⟨b, a3, s3, e3, g1, g2, g3⟩ := key m (((m : Int) - 0).toNat + 2) l a2 s2 (by omega) (by omega) (by omega) (by omega) (by omega)
  rw [e3]
  simp only [Option.bind_some]
  obtain ⟨w, a4, s4, e4, x4, y4⟩ := p_one code hc a3 s3 30 (by omega) (by omega)
  rw [e4]
  simp only [Option.bind_some]
  have hok : ∀ x ∈ l, okRune x = true := fun x hx => by
    have h := l2 x hx
    have : ∀ y ∈ smallR, okRune y = true := by decide
    exact this x h
  cases w with
  | true =>
    rw [if_pos rfl, app?_at (by simp; omega)]
    exact ⟨l, _, a4, s4, rfl, hl10, by simp; omega, hok, by omega, by omega⟩
  | false => exact ⟨l, b, a4, s4, rfl, hl10, by omega, hok, by omega, by omega⟩
theorem p_numberOf (p : List Int) (hp : p.length ≤ big) (hb : allW (inK .u8) p) : ∃ n : Int, laws_numberOf.f p = some n ∧ 0 ≤ n ∧ n < 1000003 := by
  unfold laws_numberOf.f
  have key : ∀ (k i : Nat) (x : Int), i ≤ p.length → p.length - i < k → 0 ≤ x → x < 1000003 → ∃ n, laws_numberOf.l1 p k x i = some n ∧ 0 ≤ n ∧ n < 1000003 := by
    intro k
    induction k with
    | zero => intro i x _ h; omega
    | succ k ih =>
      intro i x hi hk h0 h1
      rw [laws_numberOf.l1]
      by_cases h : i < p.length
      · have hu : -0 ≤ p[i] ∧ p[i] ≤ 255 := hb.2 _ (List.getElem_mem h)
        rw [if_pos (by simpa using h), rd?_at h]
        simp only [Option.bind_some]
        rw [wrapS (n := 31 * x) (by omega) (by omega), wrapS (n := p[i]) (by omega) (by omega), wrapS (by omega) (by omega)]
        have hr : rem? (31 * x + p[i]) 1000003 = some ((31 * x + p[i]) % 1000003) := by
          unfold rem?
          rw [if_neg (by decide), Int.tmod_eq_emod_of_nonneg (by omega)]
        rw [hr]
        simp only [Option.bind_some]
        rw [wrapN i (by unfold big at hp; omega)]
        exact ih (i + 1) _ h (by omega) (by omega) (by omega)
      · rw [if_neg (by simpa using h)]
        exact ⟨x, rfl, h0, h1⟩
  obtain ⟨n, e, h0, h1⟩ := key (((p.length : Int) - 0).toNat + 2) 0 0 (by omega) (by omega) (by omega) (by omega)
  rw [show ((0 : Nat) : Int) = 0 from rfl] at e
  rw [e]
  exact ⟨n, rfl, h0, h1⟩
def wordR : List Int := [97, 98, 97, 99, 65, 12354]
theorem p_wordOf (p : List Int) (hp : p.length ≤ big) (hb : allW (inK .u8) p) : ∃ w : List Int, laws_wordOf.f p = some w ∧ w.length ≤ 6 ∧ ∀ x ∈ w, x ∈ wordR := by
  unfold laws_wordOf.f
  obtain ⟨n, e, h0, h1⟩ := p_numberOf p hp hb
  rw [e]
  simp only [Option.bind_some]
  generalize hx : IntKind.u64.wrap (IntKind.u64.wrap n + 5) = x
  have hx0 := wrapU (IntKind.u64.wrap n + 5)
  rw [hx] at hx0
  have hr : rem? x 7 = some (x % 7) := by
    unfold rem?
    rw [if_neg (by decide), Int.tmod_eq_emod_of_nonneg hx0.1]
  rw [hr]
  simp only [Option.bind_some]
  obtain ⟨m, hm⟩ := Int.eq_ofNat_of_zero_le (show 0 ≤ x % 7 by omega)
  have hm6 : m ≤ 6 := by omega
  rw [hm]
  have key : ∀ (n f : Nat) (x : Int) (w : List Int), n < f → w.length + n ≤ 6 → (∀ y ∈ w, y ∈ wordR) → ∃ w' : List Int, laws_wordOf.l1 f x w (n : Int) = some w' ∧ w'.length ≤ 6 ∧ ∀ y ∈ w', y ∈ wordR := by
    intro n
    induction n with
    | zero =>
      intro f x w hf hl hw
      obtain ⟨f, rfl⟩ := Nat.exists_eq_succ_of_ne_zero (show f ≠ 0 by omega)
      rw [laws_wordOf.l1, if_neg (by simp)]
      exact ⟨w, rfl, by omega, hw⟩
    | succ n ih =>
      intro f x w hf hl hw
      obtain ⟨f, rfl⟩ := Nat.exists_eq_succ_of_ne_zero (show f ≠ 0 by omega)
      rw [laws_wordOf.l1, if_pos (by simp <;> omega)]
      generalize hy : IntKind.u64.wrap (IntKind.u64.wrap (x * 6364136223846793005) + 1442695040888963407) = y
      have hy0 := wrapU (IntKind.u64.wrap (x * 6364136223846793005) + 1442695040888963407)
      rw [hy] at hy0
      have hs : shrK? .u64 y 40 = some (y / 1099511627776) := by
        unfold shrK?
        rw [if_pos (by decide), Int.fdiv_eq_ediv_of_nonneg _ (by decide)]
        rfl
      rw [hs]
      simp only [Option.bind_some]
      have hr : rem? (y / 1099511627776) 6 = some (y / 1099511627776 % 6) := by
        unfold rem?
        rw [if_neg (by decide), Int.tmod_eq_emod_of_nonneg (by omega)]
      rw [hr]
      simp only [Option.bind_some]
      obtain ⟨j, hj⟩ := Int.eq_ofNat_of_zero_le (show 0 ≤ y / 1099511627776 % 6 by omega)
      have hj6 : j < 6 := by omega
      rw [hj]
      have hrd := rd?_at (xs := wordR) (i := j) hj6
      unfold wordR at hrd
      rw [hrd]
      simp only [Option.bind_some]
      rw [app?_at (by simp; omega)]
      simp only [Option.bind_some]
      rw [IntKind.wrap_u64, show (((n + 1 : Nat) : Int) - 1) % 18446744073709551616 = (n : Int) by omega]
      exact ih f y _ (by omega) (by simp; omega) (fun z hz => by
        rcases List.mem_append.1 hz with hz | hz
        · exact hw z hz
        · rw [List.mem_singleton.1 hz]
          exact List.getElem_mem (l := wordR) hj6)
  obtain ⟨w, e2, g1, g2⟩ := key m (((m : Int) - 0).toNat + 2) x [] (by omega) (by simp; omega) (by simp)
  rw [e2]
  exact ⟨w, rfl, g1, g2⟩
theorem p_sameInts (p q : List Int) (hp : p.length ≤ big) : laws_sameInts.f p q = some (decide (p = q)) :=
  eq_all p q hp (laws_sameInts.l1 p q) _ (by omega) fun _ _ _ => rfl
theorem p_lawsHas (p : List Int) (n : Int) (hp : p.length ≤ big) : laws_has.f p n = some (p.contains n) := by
  unfold laws_has.f
  have := all_loop p hp (fun u => u == n) true (laws_has.l1 p n) (fun k i => rfl) (((p.length : Int) - 0).toNat + 2) 0 (by omega) (by omega)
  rw [show ((0 : Nat) : Int) = 0 from rfl] at this
  rw [this, List.drop_zero]
  have e : p.any (fun u => u == n) = p.contains n := by
    rw [List.contains_eq_any_beq]
    congr 1
    funext u
    exact Bool.beq_comm
  rw [e]
  cases p.contains n <;> rfl
theorem p_big (p q : List Int) (hp : p.length ≤ maxN) : laws_big.f p q = some (decide ((p.length : Int) + q.length > 1048576)) := by
  unfold laws_big.f
  unfold maxN at hp
  by_cases h : (p.length : Int) > 1048576
  · rw [if_pos (by simpa using h)]
    simp; omega
  · rw [if_neg (by simpa using h), wrapS (by omega) (by omega)]
    congr 1
    rw [Bool.eq_iff_iff]
    simp; omega
theorem okShort_sub {l : List Int} (h : okShort l = true) (a b : Nat) : okShort ((l.take b).drop a) = true := by
  simp only [okShort, Bool.and_eq_true, decide_eq_true_eq, List.all_eq_true] at h ⊢
  exact ⟨by have := h.1; simp; omega, fun x hx => h.2 x (List.mem_of_mem_take (List.mem_of_mem_drop hx))⟩
theorem okShort_of {l : List Int} (h : l.length ≤ 60) (h2 : ∀ x ∈ l, okRune x = true) : okShort l = true := by
  simp only [okShort, Bool.and_eq_true, decide_eq_true_eq, List.all_eq_true]
  exact ⟨by omega, h2⟩
theorem drop_rev (l : List Int) (a b : Nat) (ha : a ≤ b) (hb : b ≤ l.length) : ((l.take b).drop a).reverse = (l.take b).reverse.take (b - a) := by
  rw [List.reverse_drop]
  congr 1
  simp; omega
theorem p_from (w l : List Int) (m : Int) (hw : okShort w = true) (hl : okShort l = true) (to : Nat) (hto : to ≤ l.length) : ∀ (k i : Nat) (b : Bool), i ≤ to + 1 → to + 1 - i < k →
    ∃ r, laws_FnDistance.l2 (w, l, m) to k b i = some r ∧ (r = true ↔ b = true ∨ ∃ j, i ≤ j ∧ j ≤ to ∧ lev w.reverse ((l.take to).reverse.take (to - j)) ≤ m) := by
  have hl60 : l.length ≤ 60 := by simp only [okShort, Bool.and_eq_true, decide_eq_true_eq] at hl; omega
  have hw60 : w.length ≤ 60 := by simp only [okShort, Bool.and_eq_true, decide_eq_true_eq] at hw; omega
  intro k
  induction k with
  | zero => intro i _ _ h; omega
  | succ k ih =>
    intro i b hi hk
    rw [laws_FnDistance.l2]
    by_cases h : i ≤ to
    · rw [if_pos (by simpa using h)]
      rw [cut?_at h hto]
      simp only [Option.bind_some]
      rw [p_implDist w _ (by unfold big; omega) (by simp [big]; omega), hw, okShort_sub hl]
      simp only [Option.bind_some, Bool.and_true, if_true]
      have hb : (if b = true then some true else some (decide (lev ((l.take to).drop i).reverse w.reverse ≤ m))) = some (b || decide (lev ((l.take to).drop i).reverse w.reverse ≤ m)) := by cases b <;> rfl
      rw [hb]
      simp only [Option.bind_some]
      rw [wrapN i (by omega)]
      obtain ⟨r, e, hr⟩ := ih (i + 1) (b || decide (lev ((l.take to).drop i).reverse w.reverse ≤ m)) (by omega) (by omega)
      refine ⟨r, e, hr.trans ?_⟩
      rw [drop_rev l i to h hto, lev_symm]
      simp only [Bool.or_eq_true, decide_eq_true_eq]
      constructor
      · rintro ((hb | hb) | ⟨j, h1, h2, h3⟩)
        · exact .inl hb
        · exact .inr ⟨i, Nat.le_refl _, h, hb⟩
        · exact .inr ⟨j, by omega, h2, h3⟩
      · rintro (hb | ⟨j, h1, h2, h3⟩)
        · exact .inl (.inl hb)
        · by_cases hj : j = i
          · subst hj; exact .inl (.inr h3)
          · exact .inr ⟨j, by omega, h2, h3⟩
    · rw [if_neg (by simpa using h)]
      refine ⟨b, rfl, ⟨.inl, ?_⟩⟩
      rintro (hb | ⟨j, h1, h2, h3⟩)
      · exact hb
      · omega
theorem p_ends (w l : List Int) (m : Int) (e : List Int × Bool) (hw : okShort w = true) (hl : okShort l = true) (he : e.1 = endsAt w l m (l.length + 1)) : ∀ (k i : Nat), i ≤ l.length + 1 → l.length + 1 - i < k → laws_FnDistance.l1 (w, l, m) e k i = some (.go ()) := by
  have hl60 : l.length ≤ 60 := by simp only [okShort, Bool.and_eq_true, decide_eq_true_eq] at hl; omega
  intro k
  induction k with
  | zero => intro i _ h; omega
  | succ k ih =>
    intro i hi hk
    rw [laws_FnDistance.l1]
    by_cases h : i ≤ l.length
    · rw [if_pos (by simpa using h)]
      obtain ⟨r, e2, hr⟩ := p_from w l m hw hl i h (((i : Int) - 0).toNat + 2) 0 false (by omega) (by omega)
      rw [show ((0 : Nat) : Int) = 0 from rfl] at e2
      rw [e2]
      simp only [Option.bind_some]
      have hlen := endsAt_len w l m (l.length + 1)
      rw [p_lawsHas _ _ (by rw [he]; unfold big; omega), he, endsAt_mem]
      simp only [Option.bind_some]
      have hq : r = (decide (i < l.length + 1) && decide (sel w.reverse (l.take i).reverse ≤ m)) := by
        rw [Bool.eq_iff_iff, hr]
        simp only [Bool.and_eq_true, decide_eq_true_eq]
        have hlr : (l.take i).reverse.length = i := by simp; omega
        constructor
        · rintro (hb | ⟨j, h1, h2, h3⟩)
          · cases hb
          · have := sel_le w.reverse (l.take i).reverse (i - j)
            exact ⟨by omega, by omega⟩
        · rintro ⟨h1, h2⟩
          obtain ⟨j, h3, h4⟩ := sel_is w.reverse (l.take i).reverse
          rw [hlr] at h3
          refine .inr ⟨i - j, by omega, by omega, ?_⟩
          rw [show i - (i - j) = j by omega, ← h4]
          exact h2
      rw [← hq]
      simp only [bne_self_eq_false, Bool.false_eq_true, if_false, Option.bind_some]
      rw [wrapN i (by omega)]
      exact ih (i + 1) (by omega) (by omega)
    · rw [if_neg (by simpa using h)]
theorem law_Distance (p q : List Int) (hp : allW (inK .u8) p) (hq : allW (inK .u8) q) : laws_FnDistance.f p q = some true := by
  unfold laws_FnDistance.f
  rw [p_big p q hp.1]
  simp only [Option.bind_some]
  by_cases hb : (p.length : Int) + q.length > 1048576
  · rw [if_pos (by simpa using hb)]
  rw [if_neg (by simpa using hb)]
  have hpb : p.length ≤ big := by unfold big; omega
  have hqb : q.length ≤ big := by unfold big; omega
  unfold spec_DrawDistanceOf.f
  obtain ⟨a, b, a1, s1, e1, la, lb, ra, _, _⟩ := p_near p hp 0 0 (by omega) (by omega)
  rw [e1]
  simp only [Option.bind_some]
  have hla : a.length ≤ big := by unfold big; omega
  have hlb : b.length ≤ big := by unfold big; omega
  rw [p_implDist a b hla hlb, p_specDist a b hla hlb, p_implDist b a hlb hla]
  simp only [Option.bind_some]
  have oka : okShort a = true := okShort_of (by omega) ra
  have hsym := lev_symm a.reverse b.reverse
  have hz : (lev b.reverse a.reverse == 0) = decide (a = b) := by
    rw [Bool.eq_iff_iff]
    simp only [beq_iff_eq, decide_eq_true_eq]
    constructor
    · intro h
      have := lev_zero _ _ h
      rw [List.reverse_inj] at this
      exact this.symm
    · rintro rfl
      exact lev_self _
  rw [p_sameInts a b hla]
  obtain ⟨c, e2, lc, rc⟩ := p_wordOf q hqb hq
  rw [e2]
  simp only [Option.bind_some]
  have hlc : c.length ≤ big := by unfold big; omega
  have okc : okShort c = true := okShort_of (by omega) fun x hx => by
    have h := rc x hx
    have : ∀ y ∈ wordR, okRune y = true := by decide
    exact this x h
  rw [p_implDist a c hla hlc, p_implDist c b hlc hlb]
  have htri := lev_tri _ b.reverse c.reverse a.reverse (Nat.le_refl _)
  have hp1 := lev_pos c.reverse a.reverse
  have hp2 := lev_pos b.reverse c.reverse
  have hq1 := lev_le c.reverse a.reverse
  have hq2 := lev_le b.reverse c.reverse
  simp only [List.length_reverse] at hq1 hq2
  have hw : IntKind.i64.wrap (lev c.reverse a.reverse + lev b.reverse c.reverse) = lev c.reverse a.reverse + lev b.reverse c.reverse := wrapS (by omega) (by omega)
  have hgt : ¬ (lev b.reverse a.reverse > lev c.reverse a.reverse + lev b.reverse c.reverse) := by omega
  unfold spec_DrawNearEnds.f
  obtain ⟨w, b1, t1, f1, l1, r1, x1, y1⟩ := p_small q hq 0 0 4 (by omega) (by omega) (by omega) (by omega)
  obtain ⟨l, b2, t2, f2, l2, r2, x2, y2⟩ := p_small q hq b1 t1 12 (by omega) (by omega) (by omega) (by omega)
  obtain ⟨m, b3, t3, f3, hm, x3, y3⟩ := p_among q hq b2 t2 [0, 1, 2, 3, -1, 60, 61] (by simp) (by omega) (by omega)
  have hlw : w.length ≤ big := by unfold big; omega
  have hll : l.length ≤ big := by unfold big; omega
  obtain ⟨e, g1, g2, g3⟩ := p_NearEnds w l m hlw hll
  obtain ⟨e', k1, k2⟩ := p_specEnds w l m hlw hll
  rw [g2] at k1
  obtain rfl := Option.some.inj k1
  have hsame := p_sameInts e.1 e.1 (by unfold big; omega)
  have hlast : (if e.2 = true then (laws_FnDistance.l1 (w, l, m) e (l.length + 2) 0) else (some (Lo.go ()))) = some (Lo.go ()) := by
    cases h : e.2 with
    | false => rfl
    | true =>
      obtain ⟨o1, o2, o3⟩ := k2 h
      rw [if_pos rfl]
      exact p_ends w l m e o1 o2 o3 _ 0 (by omega) (by omega)
  rw [f1]
  simp only [Option.bind_some]
  rw [f2]
  simp only [Option.bind_some]
  rw [f3]
  simp only [Option.bind_some]
  rw [g1, g2]
  simp only [Option.bind_some]
  rw [hsame, oka]
  cases hob : okShort b with
  | false => simp [hlast, okc]
  | true =>
    simp only [Bool.and_true, Bool.true_and, if_true, Option.bind_some]
    rw [hsym, okc]
    simp [hz, hw, hgt, hlast]
    try omega
end Go.Proofs.Ytkieinlcpkpcjaa
