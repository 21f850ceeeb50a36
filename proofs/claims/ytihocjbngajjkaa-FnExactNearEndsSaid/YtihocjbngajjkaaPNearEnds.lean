/- Plain laws of the printed functions. Conditions as each lemma says. -/
import Derived.Test.YtihocjbngajjkaaPB
import Derived.Test.YtihocjbngajjkaaWNearEnds1
set_option linter.unusedVariables false
set_option linter.unusedSimpArgs false
namespace Go.Proofs.Ytihocjbngajjkaa
open Go Go.Proofs.GL
theorem p_l1In (a b c : Int) : spec_l1In.f a b c = some (decide (b ≤ a) && decide (a ≤ c)) := by
  unfold spec_l1In.f
  by_cases h : b ≤ a
  · rw [if_pos (by simpa using h)]; simp [h]
  · rw [if_neg (by simpa using h)]; simp [h]
theorem p_inRange (a b c : Int) : impl_inRange.f a b c = some (decide (b ≤ a) && decide (a ≤ c)) := by
  unfold impl_inRange.f
  by_cases h : b ≤ a
  · rw [if_pos (by simpa using h)]; simp [h]
  · rw [if_neg (by simpa using h)]; simp [h]
def okRune (r : Int) : Bool := decide (0 ≤ r) && decide (r ≤ 1114111) && !(decide (55296 ≤ r) && decide (r ≤ 57343))
theorem p_specRune (r : Int) : spec_GoodRune.f r = some (okRune r) := by
  unfold spec_GoodRune.f okRune
  simp only [p_l1In, Option.bind_some]
  cases (decide (0 ≤ r) && decide (r ≤ 1114111)) <;> rfl
theorem p_implRune (r : Int) : impl_GoodRune.f r = some (okRune r) := by
  unfold impl_GoodRune.f okRune
  simp only [p_inRange, Option.bind_some]
  cases (decide (0 ≤ r) && decide (r ≤ 1114111)) <;> rfl
theorem p_allRunes (p : List Int) (hp : p.length ≤ big) : spec_l1AllRunes.f p = some (p.all okRune && decide (p.length ≤ 1000)) := by
  unfold spec_l1AllRunes.f
  have := all_loop p hp (fun u => !okRune u) false (spec_l1AllRunes.l1 p) (fun k i => by rw [spec_l1AllRunes.l1]; simp only [p_specRune, Option.bind_some]) (((p.length : Int) - 0).toNat + 2) 0 (by omega) (by omega)
  rw [show ((0 : Nat) : Int) = 0 from rfl] at this
  rw [this, List.drop_zero]
  have e : p.any (fun u => !okRune u) = !p.all okRune := by rw [List.all_eq_not_any_not]; simp
  rw [e]
  cases h : p.all okRune <;> simp
  omega
theorem p_areRunes (p : List Int) (n : Int) (hp : p.length ≤ big) : impl_areRunes.f p n = some (decide ((p.length : Int) ≤ n) && p.all okRune) := by
  unfold impl_areRunes.f slices_ContainsFunc_int_int_impl_areRunes_1.f slices_IndexFunc_int_int_impl_areRunes_1.f
  by_cases h : (p.length : Int) ≤ n
  · rw [if_pos (by simpa using h)]
    have := scan_loop p hp (fun u => !okRune u) (fun i _ => i) (slices_IndexFunc_int_int_impl_areRunes_1.l1 p) (fun k i => by rw [slices_IndexFunc_int_int_impl_areRunes_1.l1]; simp only [impl_areRunes_1.f, p_implRune, Option.bind_some]) (((p.length : Int) - 0).toNat + 2) 0 (by omega) (by omega)
    rw [show ((0 : Nat) : Int) = 0 from rfl] at this
    rw [this, List.drop_zero]
    have e : p.all okRune = !(p.any fun u => !okRune u) := List.all_eq_not_any_not
    rw [e]
    cases hf : p.findIdx? (fun u => !okRune u) with
    | none =>
      have : p.any (fun u => !okRune u) = false := by
        rw [List.findIdx?_eq_none_iff] at hf
        simpa using hf
      rw [this]; simp [h]
    | some j =>
      obtain ⟨hj, h1, h2⟩ := List.findIdx?_eq_some_iff_getElem.1 hf
      have : p.any (fun u => !okRune u) = true := List.any_eq_true.2 ⟨_, List.getElem_mem hj, h1⟩
      rw [this]
      simp [hj]
  · rw [if_neg (by simpa using h)]
    simp [h]
def okShort (p : List Int) : Bool := decide ((p.length : Int) ≤ 60) && p.all okRune
theorem p_areShort (p : List (List Int)) (hp : p.length ≤ big) (hq : ∀ q ∈ p, q.length ≤ big) : impl_areShort.f p = some (p.all okShort) := by
  unfold impl_areShort.f slices_ContainsFunc_int_int_impl_areShort_1.f slices_IndexFunc_int_int_impl_areShort_1.f
  have key : ∀ (k i : Nat), i ≤ p.length → p.length - i < k → ∃ o, slices_IndexFunc_int_int_impl_areShort_1.l1 p k i = some o ∧ (if (p.drop i).all okShort then o = .go () else ∃ n : Int, 0 ≤ n ∧ o = .ret n) := by
    intro k
    induction k with
    | zero => intro i _ h; omega
    | succ k ih =>
      intro i hi hk
      rw [slices_IndexFunc_int_int_impl_areShort_1.l1]
      by_cases h : i < p.length
      · rw [if_pos (by simpa using h), rd?_at h]
        simp only [Option.bind_some, impl_areShort_1.f, p_areRunes p[i] 60 (hq _ (List.getElem_mem h))]
        rw [List.drop_eq_getElem_cons h, List.all_cons]
        have e : (decide ((p[i].length : Int) ≤ 60) && p[i].all okRune) = okShort p[i] := rfl
        rw [e]
        cases hr : okShort p[i] with
        | false => exact ⟨.ret i, by simp, by simp⟩
        | true =>
          simp only [Bool.not_true, Bool.false_eq_true, if_false, Bool.true_and]
          rw [wrapN i (by unfold big at hp; omega)]
          exact ih (i + 1) h (by omega)
      · rw [if_neg (by simpa using h)]
        exact ⟨_, rfl, by simp [List.drop_eq_nil_of_le (by omega : p.length ≤ i)]⟩
  obtain ⟨o, h1, h2⟩ := key (((p.length : Int) - 0).toNat + 2) 0 (by omega) (by omega)
  rw [show ((0 : Nat) : Int) = 0 from rfl] at h1
  rw [h1]
  rw [List.drop_zero] at h2
  cases hr : p.all okShort with
  | true =>
    rw [hr, if_pos rfl] at h2
    subst h2
    simp
  | false =>
    rw [hr] at h2
    obtain ⟨m, hm, rfl⟩ := h2
    simp [hm]
theorem p_l15List (p : List Int) (hp : p.length ≤ big) : spec_l15List.f p = some (okShort p) := by
  unfold spec_l15List.f okShort
  rw [p_allRunes p hp]
  simp only [Option.bind_some]
  generalize p.all okRune = b
  by_cases h2 : p.length ≤ 60 <;> by_cases h3 : p.length ≤ 1000 <;> cases b <;> simp [h2, h3] <;> omega
def marks (k : Int) (n : Nat) : List Int := (List.range n).map fun i : Nat => k + i
theorem marks_len (k : Int) (n : Nat) : (marks k n).length = n := by simp [marks]
theorem marks_get (k : Int) (n i : Nat) (h : i < n) : (marks k n)[i]? = some (k + i) := by simp [marks, h]
theorem p_markIntS_l (p : List Int) (k0 : Int) (h0 : 0 ≤ k0) (h1 : k0 ≤ 1000000000000) (hp : p.length ≤ big) : ∀ (k i : Nat) (x : List Int), i ≤ p.length → p.length - i < k → x.length = p.length → x.take i = (marks k0 p.length).take i → laws_markIntS.l1 p k x (k0 + i) i = some (k0 + p.length, marks k0 p.length) := by
  intro k
  induction k with
  | zero => intro i x _ h; omega
  | succ k ih =>
    intro i x hi hk hl ht
    rw [laws_markIntS.l1]
    by_cases h : i < p.length
    · rw [if_pos (by simpa using h), rd?_at (by omega : i < x.length)]
      simp only [Option.bind_some]
      rw [st?_at _ (by omega : i < x.length)]
      simp only [Option.bind_some]
      unfold big at hp
      rw [wrapN i (by omega), wrapS (by omega) (by omega), show k0 + (i : Int) + 1 = k0 + ((i + 1 : Nat) : Int) by omega]
      refine ih (i + 1) _ h (by omega) (by simpa using hl) ?_
      rw [List.take_add_one, List.take_add_one, List.take_set_of_le (Nat.le_refl i), ht, marks_get _ _ _ h]
      simp [h, hl]
    · rw [if_neg (by simpa using h)]
      obtain rfl : i = p.length := by omega
      rw [List.take_of_length_le (l := x) (by omega), List.take_of_length_le (l := marks k0 p.length) (by rw [marks_len]; omega)] at ht
      rw [ht]
theorem p_markIntS (p : List Int) (k0 : Int) (h0 : 0 ≤ k0) (h1 : k0 ≤ 1000000000000) (hp : p.length ≤ big) : laws_markIntS.f p k0 = some (k0 + p.length, marks k0 p.length) := by
  unfold laws_markIntS.f
  have := p_markIntS_l p k0 h0 h1 hp (((p.length : Int) - 0).toNat + 2) 0 p (by omega) (by omega) rfl (by simp)
  rw [show ((0 : Nat) : Int) = 0 from rfl, Int.add_zero] at this
  rw [this]
  rfl
theorem p_heldIntS_l (n : Nat) (k0 : Int) (h0 : 0 ≤ k0) (h1 : k0 ≤ 1000000000000) (hp : n ≤ big) : ∀ (k i : Nat), i ≤ n → n - i < k → laws_heldIntS.l1 (marks k0 n) k (k0 + i) i = some (.go (k0 + n)) := by
  intro k
  induction k with
  | zero => intro i _ h; omega
  | succ k ih =>
    intro i hi hk
    rw [laws_heldIntS.l1, marks_len]
    by_cases h : i < n
    · have hm := rd?_at (xs := marks k0 n) (i := i) (by rw [marks_len]; exact h)
      have hg : (marks k0 n)[i]'(by rw [marks_len]; exact h) = k0 + i := by simp [marks]
      rw [if_pos (by simpa using h), hm, hg]
      simp only [Option.bind_some]
      unfold big at hp
      rw [if_neg (by simp), wrapN i (by omega), wrapS (by omega) (by omega), show k0 + (i : Int) + 1 = k0 + ((i + 1 : Nat) : Int) by omega]
      exact ih (i + 1) h (by omega)
    · rw [if_neg (by simpa using h)]
      obtain rfl : i = n := by omega
      rfl
theorem p_heldIntS (n : Nat) (k0 : Int) (h0 : 0 ≤ k0) (h1 : k0 ≤ 1000000000000) (hp : n ≤ big) : laws_heldIntS.f (marks k0 n) k0 = some (k0 + n) := by
  unfold laws_heldIntS.f
  have := p_heldIntS_l n k0 h0 h1 hp ((((marks k0 n).length : Int) - 0).toNat + 2) 0 (by omega) (by rw [marks_len]; omega)
  rw [show ((0 : Nat) : Int) = 0 from rfl, Int.add_zero] at this
  rw [this]
  rfl
def nxt (a : Int) : List Int → List Int → Int → List Int
  | x :: y :: ys, u :: us, r => min (if (u != r) = true then x + 1 else x) (min (y + 1) (a + 1)) :: nxt (min (if (u != r) = true then x + 1 else x) (min (y + 1) (a + 1))) (y :: ys) us r
  | _, _, _ => []
def inB (B : Int) (x : List Int) : Prop := ∀ e ∈ x, 0 ≤ e ∧ e ≤ B
theorem nxt_bd : ∀ (us row : List Int) (a B r : Int), inB B row → 0 ≤ a → inB (a + us.length) (nxt a row us r)
  | [], row, a, B, r, _, _ => by cases row with | nil => simp [nxt, inB] | cons x row => cases row <;> simp [nxt, inB]
  | u :: us, [], a, B, r, _, _ => by simp [nxt, inB]
  | u :: us, [x], a, B, r, _, _ => by simp [nxt, inB]
  | u :: us, x :: y :: ys, a, B, r, h, ha => by
    have hx := h x (by simp)
    have hy := h y (by simp)
    have hv : 0 ≤ min (if (u != r) = true then x + 1 else x) (min (y + 1) (a + 1)) ∧ min (if (u != r) = true then x + 1 else x) (min (y + 1) (a + 1)) ≤ a + 1 := by
      split <;> omega
    have ih := nxt_bd us (y :: ys) _ B r (fun e he => h e (List.mem_cons_of_mem _ he)) hv.1
    intro e he
    unfold nxt at he
    simp only [List.length_cons]
    rcases List.mem_cons.1 he with rfl | he
    · omega
    · have := ih e he
      omega
theorem nxt_len : ∀ (us row : List Int) (a r : Int), row.length = us.length + 1 → (nxt a row us r).length = us.length
  | [], [x], a, r, _ => rfl
  | [], [], a, r, h => by simp at h
  | [], x :: y :: ys, a, r, h => by simp at h
  | u :: us, [], a, r, h => by simp at h
  | u :: us, [x], a, r, h => by simp at h
  | u :: us, x :: y :: ys, a, r, h => by
    unfold nxt
    simp only [List.length_cons]
    rw [nxt_len us (y :: ys) _ r (by simpa using h)]
theorem p_rows_l (row : List Int) (r : Int) (l : List Int) (R : Int) (hR : R ≤ 1000000000) (hl : l.length ≤ 1000000) (hrow : row.length = l.length + 1) (hb : inB R row) : ∀ (k i : Nat) (out : List Int) (a : Int), i ≤ l.length → l.length - i < k → out.length = i + 1 → out[i]? = some a → 0 ≤ a → a ≤ 1000000000 + i →
    impl_nextRow.l1 row r l k out i = some (out ++ nxt a (row.drop i) (l.drop i) r) ∧ spec_l15Row.l1 row r l k out i = some (out ++ nxt a (row.drop i) (l.drop i) r) := by
  intro k
  induction k with
  | zero => intro i out a _ h; omega
  | succ k ih =>
    intro i out a hi hk hlen ha ha0 ha1
    rw [impl_nextRow.l1, spec_l15Row.l1]
    by_cases h : i < l.length
    · have hi1 : i < row.length := by omega
      have hi2 : i + 1 < row.length := by omega
      have hoa : out[i]'(by omega) = a := (List.getElem?_eq_some_iff.1 ha).2
      rw [if_pos (by simpa using h), if_pos (by simpa using h), rd?_at h]
      simp only [Option.bind_some]
      rw [rd?_at hi1]
      simp only [Option.bind_some]
      have hr1 := hb _ (List.getElem_mem hi1)
      have hr2 := hb _ (List.getElem_mem hi2)
      have hby : (if (l[i] != r) = true then some (IntKind.i64.wrap (row[i] + 1)) else some row[i]) = some (if (l[i] != r) = true then row[i] + 1 else row[i]) := by
        split
        · rw [wrapS (by omega) (by omega)]
        · rfl
      rw [hby]
      simp only [Option.bind_some]
      have hbd : 0 ≤ (if (l[i] != r) = true then row[i] + 1 else row[i]) := by split <;> omega
      rw [wrapN i (by omega), rd?_at hi2, rd?_at (by omega : i < out.length), hoa]
      simp only [Option.bind_some]
      rw [wrapS (n := row[i + 1] + 1) (by omega) (by omega), wrapS (n := a + 1) (by omega) (by omega)]
      have hleast : ∀ a b, spec_l1Least.f a b = some (min a b) := fun a b => by
        unfold spec_l1Least.f
        by_cases h : a < b
        · rw [if_pos (by simpa using h)]; congr 1; omega
        · rw [if_neg (by simpa using h)]; congr 1; omega
      simp only [hleast, Option.bind_some]
      rw [wrapS (n := min row[i + 1] a + 1) (by omega) (by omega), show min row[i + 1] a + 1 = min (row[i + 1] + 1) (a + 1) by omega]
      have hd1 : row.drop i = row[i] :: row[i + 1] :: row.drop (i + 1 + 1) := by rw [List.drop_eq_getElem_cons hi1, List.drop_eq_getElem_cons hi2]
      have hd2 : row.drop (i + 1) = row[i + 1] :: row.drop (i + 1 + 1) := List.drop_eq_getElem_cons hi2
      rw [hd1, List.drop_eq_getElem_cons h]
      unfold nxt
      rw [← hd2]
      generalize hv : min (if (l[i] != r) = true then row[i] + 1 else row[i]) (min (row[i + 1] + 1) (a + 1)) = v
      rw [app?_at (by simp; omega)]
      simp only [Option.bind_some]
      have := ih (i + 1) (out ++ [v]) v h (by omega) (by simp; omega) (by rw [List.getElem?_append_right (by omega)]; simp [hlen]) (by omega) (by omega)
      rw [List.append_assoc] at this
      exact this
    · rw [if_neg (by simpa using h), if_neg (by simpa using h)]
      obtain rfl : i = l.length := by omega
      have e : nxt a (row.drop l.length) (l.drop l.length) r = [] := by
        rw [List.drop_length]
        cases row.drop l.length with
        | nil => rfl
        | cons x xs => cases xs <;> rfl
      rw [e, List.append_nil]
      exact ⟨rfl, rfl⟩
theorem p_nextRow (row : List Int) (r : Int) (l : List Int) (a R : Int) (hR : R ≤ 1000000) (hl : l.length ≤ 1000000) (hrow : row.length = l.length + 1) (hb : inB R row) (ha : row[0]? = some a) : impl_nextRow.f row r l = some ((a + 1) :: nxt (a + 1) row l r) := by
  have h0 : 0 < row.length := by omega
  have e0 : row[0] = a := (List.getElem?_eq_some_iff.1 ha).2
  have hb0 := hb _ (List.getElem_mem h0)
  rw [e0] at hb0
  have := (p_rows_l row r l R (by omega) hl hrow hb (((l.length : Int) - 0).toNat + 2) 0 [a + 1] (a + 1) (by omega) (by omega) rfl rfl (by omega) (by omega)).1
  rw [show ((0 : Nat) : Int) = 0 from rfl] at this
  unfold impl_nextRow.f
  have h1 := rd?_at h0
  rw [show ((0 : Nat) : Int) = 0 from rfl] at h1
  rw [h1, e0]
  simp only [Option.bind_some]
  rw [wrapS (by omega) (by omega), this]
  rfl
theorem p_l15Row (row : List Int) (r : Int) (l : List Int) (a R : Int) (hR : R ≤ 1000000000) (hl : l.length ≤ 1000000) (hrow : row.length = l.length + 1) (hb : inB R row) (ha : 0 ≤ a) (ha1 : a ≤ 1000000000) : spec_l15Row.f row r l a = some (a :: nxt a row l r) := by
  have := (p_rows_l row r l R hR hl hrow hb (((l.length : Int) - 0).toNat + 2) 0 [a] a (by omega) (by omega) rfl rfl (by omega) (by omega)).2
  rw [show ((0 : Nat) : Int) = 0 from rfl] at this
  unfold spec_l15Row.f
  rw [this]
  rfl
theorem marks_succ (k : Int) (n : Nat) : marks k (n + 1) = marks k n ++ [k + n] := by simp [marks, List.range_succ]
theorem marks_cons (k : Int) (n : Nat) : marks k (n + 1) = k :: marks (k + 1) n := by
  simp only [marks, List.range_succ_eq_map, List.map_cons, List.map_map]
  congr 1
  · simp
  · apply List.map_congr_left
    intro i _
    simp only [Function.comp_apply, Nat.succ_eq_add_one]
    omega
theorem p_numbers_l (n : Nat) (hn : n ≤ 1000001) : ∀ (k i : Nat), i ≤ n → n - i < k → spec_l15Numbers.l1 n k (marks 0 i) i = some (marks 0 n) := by
  intro k
  induction k with
  | zero => intro i _ h; omega
  | succ k ih =>
    intro i hi hk
    rw [spec_l15Numbers.l1]
    by_cases h : i < n
    · rw [if_pos (by simp; omega), app?_at (by rw [marks_len]; simp; omega)]
      simp only [Option.bind_some]
      rw [wrapN i (by omega)]
      have := marks_succ 0 i
      rw [Int.zero_add] at this
      rw [← this]
      exact ih (i + 1) h (by omega)
    · rw [if_neg (by simp; omega)]
      obtain rfl : i = n := by omega
      rfl
theorem p_numbers (n : Nat) (hn : n ≤ 1000001) : spec_l15Numbers.f n = some (marks 0 n) := by
  unfold spec_l15Numbers.f
  have := p_numbers_l n hn (((n : Int) - 0).toNat + 2) 0 (by omega) (by omega)
  rw [show ((0 : Nat) : Int) = 0 from rfl, show marks 0 0 = [] from rfl] at this
  rw [this]
  rfl
theorem p_firstRow_l (n : Nat) (hn : n ≤ 1000000) : ∀ (k i : Nat), i ≤ n + 1 → n + 1 - i < k → impl_firstRow.l1 n k (marks 0 i) i = some (marks 0 (n + 1)) := by
  intro k
  induction k with
  | zero => intro i _ h; omega
  | succ k ih =>
    intro i hi hk
    rw [impl_firstRow.l1, wrapS (by omega) (by omega)]
    by_cases h : i < n + 1
    · rw [if_pos (by simp; omega), app?_at (by rw [marks_len]; simp; omega)]
      simp only [Option.bind_some]
      rw [wrapN i (by omega)]
      have := marks_succ 0 i
      rw [Int.zero_add] at this
      rw [← this]
      exact ih (i + 1) h (by omega)
    · rw [if_neg (by simp; omega)]
      obtain rfl : i = n + 1 := by omega
      rfl
theorem p_firstRow (n : Nat) (hn : n ≤ 1000000) : impl_firstRow.f n = some (marks 0 (n + 1)) := by
  unfold impl_firstRow.f
  rw [wrapS (by omega) (by omega)]
  have := p_firstRow_l n hn (((n : Int) + 1 - 0).toNat + 2) 0 (by omega) (by omega)
  rw [show ((0 : Nat) : Int) = 0 from rfl, show marks 0 0 = [] from rfl] at this
  rw [this]
  rfl
theorem p_eqIntS (p q : List Int) (hp : p.length ≤ big) : laws_eqIntS.f p q = some (decide (p = q)) :=
  eq_all p q hp (laws_eqIntS.l1 p q) _ (by omega) fun _ _ _ => rfl
theorem p_toIntS_l (p : List Int) (hp : p.length ≤ big) : ∀ (k i : Nat) (x : List Int), i ≤ p.length → p.length - i < k → x.length = p.length → x.take i = p.take i → laws_toIntS.l1 p k x i = some p := by
  intro k
  induction k with
  | zero => intro i x _ h; omega
  | succ k ih =>
    intro i x hi hk hl ht
    rw [laws_toIntS.l1]
    by_cases h : i < p.length
    · rw [if_pos (by simpa using h), rd?_at h]
      simp only [Option.bind_some]
      rw [rd?_at (by omega : i < x.length)]
      simp only [Option.bind_some]
      rw [st?_at p[i] (by omega : i < x.length)]
      simp only [Option.bind_some]
      rw [wrapN i (by unfold big at hp; omega)]
      refine ih (i + 1) _ h (by omega) (by simpa using hl) ?_
      rw [List.take_add_one, List.take_add_one, List.take_set_of_le (Nat.le_refl i), ht]
      simp [h, hl]
    · rw [if_neg (by simpa using h)]
      obtain rfl : i = p.length := by omega
      rw [List.take_length, ← hl, List.take_length] at ht
      rw [ht]
theorem p_toIntS (p : List Int) (hp : p.length ≤ big) : laws_toIntS.f p = some p := by
  unfold laws_toIntS.f
  rw [mk?_at (by unfold big at hp; omega)]
  simp only [Option.bind_some]
  have := p_toIntS_l p hp (((p.length : Int) - 0).toNat + 2) 0 (List.replicate p.length 0) (by omega) (by omega) (by simp) (by simp)
  rw [show ((0 : Nat) : Int) = 0 from rfl] at this
  rw [this]
  rfl
def sm (b : Int) : List Int → List Int
  | [] => []
  | y :: ys => min y (b + 1) :: sm (min y (b + 1)) ys
theorem sm_nxt : ∀ (us row : List Int) (a b r : Int), b ≤ a → sm b (nxt a row us r) = nxt b row us r
  | [], row, a, b, r, _ => by cases row with | nil => rfl | cons x row => cases row <;> rfl
  | u :: us, [], a, b, r, _ => rfl
  | u :: us, [x], a, b, r, _ => rfl
  | u :: us, x :: y :: ys, a, b, r, h => by
    unfold nxt sm
    have e : min (min (if (u != r) = true then x + 1 else x) (min (y + 1) (a + 1))) (b + 1) = min (if (u != r) = true then x + 1 else x) (min (y + 1) (b + 1)) := by omega
    rw [e, sm_nxt us (y :: ys) _ _ r (by omega)]
theorem sm_marks : ∀ (n : Nat) (b : Int), sm b (marks (b + 1) n) = marks (b + 1) n
  | 0, b => rfl
  | n + 1, b => by
    rw [marks_cons]
    unfold sm
    rw [show min (b + 1) (b + 1) = b + 1 by omega, sm_marks n (b + 1)]
theorem p_smooth (w : List Int) (hw : w.length ≤ 1000000) : ∀ (k i : Nat) (x : List Int) (a : Int), i ≤ w.length → w.length - i < k → x.length = w.length + 1 → inB 1000000000 x → x[i]? = some a → impl_NearEnds.l2 w k x i = some (x.take (i + 1) ++ sm a (x.drop (i + 1))) := by
  intro k
  induction k with
  | zero => intro i x a _ h; omega
  | succ k ih =>
    intro i x a hi hk hl hb ha
    rw [impl_NearEnds.l2]
    by_cases h : i < w.length
    · have h1 : i < x.length := by omega
      have h2 : i + 1 < x.length := by omega
      have hxa : x[i] = a := (List.getElem?_eq_some_iff.1 ha).2
      have b1 := hb _ (List.getElem_mem h1)
      have b2 := hb _ (List.getElem_mem h2)
      rw [if_pos (by simpa using h), wrapN i (by omega), rd?_at h2]
      simp only [Option.bind_some]
      rw [rd?_at h1]
      simp only [Option.bind_some]
      rw [st?_at _ h2, wrapS (by omega) (by omega)]
      simp only [Option.bind_some]
      rw [hxa] at b1 ⊢
      generalize hv : min x[i + 1] (a + 1) = v
      have hlen : (x.set (i + 1) v).length = w.length + 1 := by simpa using hl
      rw [ih (i + 1) (x.set (i + 1) v) v h (by omega) hlen (fun e he => by
        rcases List.mem_or_eq_of_mem_set he with h | rfl
        · exact hb e h
        · omega) (by rw [List.getElem?_set_self h2])]
      have e1 : (x.set (i + 1) v).take (i + 1 + 1) = x.take (i + 1) ++ [v] := by
        rw [List.take_add_one, List.getElem?_set_self h2, List.take_set_of_le (Nat.le_refl _)]
        rfl
      have e2 : (x.set (i + 1) v).drop (i + 1 + 1) = x.drop (i + 1 + 1) := by rw [List.drop_set_of_lt (by omega)]
      rw [e1, e2, List.drop_eq_getElem_cons h2]
      show _ = some (x.take (i + 1) ++ (min x[i + 1] (a + 1) :: sm (min x[i + 1] (a + 1)) (x.drop (i + 1 + 1))))
      rw [hv, List.append_assoc]
      rfl
    · rw [if_neg (by simpa using h)]
      obtain rfl : i = w.length := by omega
      rw [List.drop_of_length_le (by omega), List.take_of_length_le (by omega)]
      simp [sm]
/-- A row of the search. -/
def goodRow (n : Nat) (row : List Int) : Prop := ∃ rest, row = 0 :: rest ∧ rest.length = n ∧ inB 1000 row
theorem goodRow.smooth {w : List Int} {a : Int} {rest : List Int} (hw : w.length ≤ 60) (hl : rest.length = w.length) (hb : inB 1000000000 rest) : impl_NearEnds.l2 w (((w.length : Int) - 0).toNat + 2) (0 :: rest) 0 = some (0 :: sm 0 rest) := by
  have := p_smooth w (by omega) (((w.length : Int) - 0).toNat + 2) 0 (0 :: rest) 0 (by omega) (by omega) (by simp [hl]) (fun e he => by
    rcases List.mem_cons.1 he with rfl | he
    · omega
    · exact hb e he) rfl
  rw [show ((0 : Nat) : Int) = 0 from rfl] at this
  rw [this]
  rfl
theorem p_near_l (w l : List Int) (m : Int) (hw : w.length ≤ 60) (hl : l.length ≤ 60) : ∀ (n k k' i : Nat) (out row : List Int), l.length + 1 - i = n → i ≤ l.length + 1 → n < k → n < k' → out.length ≤ i → goodRow w.length row → (i = 0 → row = marks 0 (w.length + 1)) →
    ∃ z, impl_NearEnds.l1 w l m k out row i = some z ∧ spec_NearEnds.l1 w l m k' out row i = some z ∧ z.length ≤ 62 := by
  intro n
  induction n with
  | zero =>
    intro k k' i out row hn hi hk hk' ho hrow h00
    obtain ⟨k, rfl⟩ := Nat.exists_eq_succ_of_ne_zero (show k ≠ 0 by omega)
    obtain ⟨k', rfl⟩ := Nat.exists_eq_succ_of_ne_zero (show k' ≠ 0 by omega)
    rw [impl_NearEnds.l1, spec_NearEnds.l1, wrapS (n := (l.length : Int) + 1) (by omega) (by omega)]
    rw [if_neg (by simp; omega), if_neg (by simp; omega)]
    exact ⟨_, rfl, rfl, by omega⟩
  | succ n ih =>
    intro k k' i out row hn hi hk hk' ho hrow h00
    obtain ⟨k, rfl⟩ := Nat.exists_eq_succ_of_ne_zero (show k ≠ 0 by omega)
    obtain ⟨k', rfl⟩ := Nat.exists_eq_succ_of_ne_zero (show k' ≠ 0 by omega)
    rw [impl_NearEnds.l1, spec_NearEnds.l1, wrapS (n := (l.length : Int) + 1) (by omega) (by omega)]
    by_cases h : i < l.length + 1
    · rw [if_pos (show decide ((i : Int) < (l.length : Int) + 1) = true by simp; omega), if_pos (show decide ((i : Int) ≤ (l.length : Int)) = true by simp; omega)]
      obtain ⟨rest, rfl, hrl, hrb⟩ := hrow
      -- the new row, of both
      have key : ∃ row', goodRow w.length row' ∧ ((if (decide ((i : Int) > 0)) = true then ((rd? l (IntKind.i64.wrap ((i : Int) - 1))).bind fun u312 => (spec_l15Row.f (0 :: rest) u312 w 0).bind fun u313 => some u313) else (some (0 :: rest))) = some row') ∧
          ∃ rowa : List Int, ((if (decide ((i : Int) > 0)) = true then ((rd? l (IntKind.i64.wrap ((i : Int) - 1))).bind fun u312 => (impl_nextRow.f (0 :: rest) u312 w).bind fun u313 => some u313) else (some (0 :: rest))) = some rowa) ∧ ∃ b rs, rowa = b :: rs ∧ impl_NearEnds.l2 w (((w.length : Int) - 0).toNat + 2) (0 :: rs) 0 = some row' := by
        by_cases h0 : 0 < i
        · have hi1 : i - 1 < l.length := by omega
          rw [if_pos (by simpa using h0), if_pos (by simpa using h0), wrapS (by omega) (by omega), show ((i : Int) - 1) = ((i - 1 : Nat) : Int) by omega, rd?_at hi1]
          simp only [Option.bind_some]
          have hlen : (0 :: rest).length = w.length + 1 := by simp [hrl]
          rw [p_l15Row (0 :: rest) _ w 0 1000 (by omega) (by omega) hlen hrb (by omega) (by omega), p_nextRow (0 :: rest) _ w 0 1000 (by omega) (by omega) hlen hrb rfl]
          simp only [Option.bind_some]
          have bd := nxt_bd w (0 :: rest) (0 + 1) 1000 l[i - 1] hrb (by omega)
          have bd0 := nxt_bd w (0 :: rest) 0 1000 l[i - 1] hrb (by omega)
          refine ⟨_, ⟨_, rfl, nxt_len w (0 :: rest) 0 _ hlen, ?_⟩, rfl, _, rfl, _, _, rfl, ?_⟩
          · intro e he
            rcases List.mem_cons.1 he with rfl | he
            · omega
            · have := bd0 e he; omega
          · rw [goodRow.smooth (a := 0) hw (nxt_len w (0 :: rest) (0 + 1) _ hlen) (fun e he => by have := bd e he; omega), sm_nxt w (0 :: rest) (0 + 1) 0 _ (by omega)]
        · have hz : i = 0 := by omega
          rw [if_neg (by simp; omega), if_neg (by simp; omega)]
          have hm := h00 hz
          rw [marks_cons] at hm
          obtain rfl : rest = marks (0 + 1) w.length := (List.cons.inj hm).2
          refine ⟨_, ⟨_, rfl, hrl, hrb⟩, rfl, _, rfl, _, _, rfl, ?_⟩
          rw [goodRow.smooth (a := 0) hw hrl (fun e he => by have := hrb e (List.mem_cons_of_mem _ he); omega), sm_marks]
      obtain ⟨row', hg, e1, rowa, e2, b, rs, rfl, e3⟩ := key
      rw [e1, e2]
      simp only [Option.bind_some]
      have hrd : rd? (b :: rs) 0 = some b := rfl
      have hst : st? (b :: rs) 0 0 = some (0 :: rs) := by
        have := st?_at (xs := b :: rs) (i := 0) 0 (by simp)
        rw [show ((0 : Nat) : Int) = 0 from rfl] at this
        rw [this]
        rfl
      rw [hrd]
      simp only [Option.bind_some]
      rw [hst]
      simp only [Option.bind_some]
      rw [e3]
      simp only [Option.bind_some]
      obtain ⟨rs', rfl, hrl', hrb'⟩ := hg
      rw [rd?_at (xs := 0 :: rs') (i := w.length) (by simp; omega)]
      simp only [Option.bind_some]
      split
      · rw [app?_at (by simp; omega)]
        simp only [Option.bind_some]
        rw [wrapN i (by omega)]
        exact ih k k' (i + 1) _ _ (by omega) (by omega) (by omega) (by omega) (by simp; omega) ⟨rs', rfl, hrl', hrb'⟩ (fun h => by omega)
      · simp only [Option.bind_some]
        rw [wrapN i (by omega)]
        exact ih k k' (i + 1) _ _ (by omega) (by omega) (by omega) (by omega) (by omega) ⟨rs', rfl, hrl', hrb'⟩ (fun h => by omega)
    · rw [if_neg (by simp; omega), if_neg (by simp; omega)]
      exact ⟨_, rfl, rfl, by omega⟩
theorem p_NearEnds (w l : List Int) (m : Int) (hw : w.length ≤ big) (hl : l.length ≤ big) : ∃ r : List Int × Bool, impl_NearEnds.f w l m = some r ∧ spec_NearEnds.f w l m = some r ∧ r.1.length ≤ 62 := by
  unfold impl_NearEnds.f spec_NearEnds.f
  rw [p_areShort [w, l] (by simp [big]) (by simp [hw, hl]), p_l15List w hw, p_l15List l hl]
  simp only [Option.bind_some, List.all_cons, List.all_nil, Bool.and_true, p_inRange, p_l1In]
  cases e1 : okShort w with
  | false => exact ⟨_, by simp; rfl, by simp, by simp⟩
  | true =>
    cases e2 : okShort l with
    | false => exact ⟨_, by simp; rfl, by simp, by simp⟩
    | true =>
      simp only [Bool.and_true, Bool.not_true, Bool.false_eq_true, if_false]
      by_cases h0 : w.length = 0
      · exact ⟨_, by simp [h0]; rfl, by simp [h0], by simp⟩
      have b1 : ((w.length : Int) == 0) = false := by rw [beq_eq_false_iff_ne]; omega
      rw [b1]
      simp only [Bool.false_eq_true, if_false, Option.bind_some]
      cases e3 : (decide (0 ≤ m) && decide (m ≤ 60)) with
      | false => exact ⟨_, rfl, rfl, by simp⟩
      | true =>
        simp only [okShort, Bool.and_eq_true, decide_eq_true_eq] at e1 e2
        have lw : w.length ≤ 60 := by omega
        have ll : l.length ≤ 60 := by omega
        simp only [Bool.not_true, Bool.false_eq_true, if_false]
        rw [p_firstRow _ (by omega), wrapS (n := (l.length : Int) + 1) (by omega) (by omega), wrapS (n := (w.length : Int) + 1) (by omega) (by omega), show ((w.length : Int) + 1) = ((w.length + 1 : Nat) : Int) by omega, p_numbers _ (by omega)]
        simp only [Option.bind_some]
        have hg : goodRow w.length (marks 0 (w.length + 1)) := ⟨_, marks_cons 0 _, marks_len _ _, fun e he => by
          simp only [marks, List.mem_map, List.mem_range] at he
          obtain ⟨j, hj, rfl⟩ := he
          omega⟩
        obtain ⟨z, f1, f2, f3⟩ := p_near_l w l m lw ll (l.length + 1) (((l.length : Int) + 1 - 0).toNat + 2) (((l.length : Int) - 0).toNat + 2) 0 [] (marks 0 (w.length + 1)) (by omega) (by omega) (by omega) (by omega) (by simp) hg (fun _ => rfl)
        rw [show ((0 : Nat) : Int) = 0 from rfl] at f1 f2
        rw [f1, f2]
        exact ⟨(z, true), rfl, rfl, f3⟩
theorem law_NearEnds (p q : List Int) (m : Int) (_ : allW (inK .i64) p) (_ : allW (inK .i64) q) (_ : inK .i64 m) : laws_FnExactNearEnds.f p q m = some true := by
  unfold laws_FnExactNearEnds.f
  by_cases h1 : (p.length : Int) > 1048576
  · rw [if_pos (by simpa using h1)]
  rw [if_neg (by simpa using h1)]
  by_cases h2 : (q.length : Int) > 1048576
  · rw [if_pos (by simpa using h2)]
  rw [if_neg (by simpa using h2)]
  have hp : p.length ≤ big := by unfold big; omega
  have hq : q.length ≤ big := by unfold big; omega
  obtain ⟨r, e1, e2, e3⟩ := p_NearEnds p q m hp hq
  have hr : r.1.length ≤ big := by unfold big; omega
  have m1 := p_markIntS p 1 (by omega) (by omega) hp
  have m2 := p_markIntS q (1 + p.length) (by omega) (by omega) hq
  have m3 := p_markIntS r.1 1 (by omega) (by omega) hr
  have m4 := p_heldIntS r.1.length 1 (by omega) (by omega) hr
  have n1 : ¬ (1 + (p.length : Int) + (q.length : Int) < 0) := by omega
  have n2 : ¬ (1 + (r.1.length : Int) < 0) := by omega
  simp [p_toIntS p hp, p_toIntS q hq, p_eqIntS p p hp, p_eqIntS q q hq, p_eqIntS r.1 r.1 hr, e1, e2, m1, m2, m3, m4, n1, n2]
end Go.Proofs.Ytihocjbngajjkaa
