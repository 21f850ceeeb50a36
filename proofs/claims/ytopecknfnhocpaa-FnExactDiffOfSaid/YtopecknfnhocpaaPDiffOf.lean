/- Plain laws of the printed functions. Conditions as each lemma says. -/
import Derived.Test.YtopecknfnhocpaaPB
import Derived.Test.YtopecknfnhocpaaWDiffOf2
set_option linter.unusedVariables false
set_option linter.unusedSimpArgs false
namespace Go.Proofs.Ytopecknfnhocpaa
open Go Go.Proofs.GL
theorem p_mostT (a b : Int) : spec_l1Most.f a b = some (max a b) := by
  unfold spec_l1Most.f
  by_cases h : a > b
  · rw [if_pos (by simpa using h), Int.max_eq_left (by omega)]
  · rw [if_neg (by simpa using h), Int.max_eq_right (by omega)]
theorem p_com2 (a b : List Int) (i : Int) : ∀ (k : Nat) (t : List (List Int)) (j : Int), impl_commons.l2 a b i k t j = spec_l15Common.l2 a b i k t j := by
  intro k
  induction k with
  | zero => intro t j; rfl
  | succ k ih =>
    intro t j
    rw [impl_commons.l2, spec_l15Common.l2]
    simp only [p_mostT, Option.bind_some, ih]
theorem p_com1 (a b : List Int) : ∀ (k : Nat) (t : List (List Int)) (j : Int), impl_commons.l1 a b k t j = spec_l15Common.l1 a b k t j := by
  intro k
  induction k with
  | zero => intro t j; rfl
  | succ k ih =>
    intro t j
    rw [impl_commons.l1, spec_l15Common.l1]
    simp only [p_com2, ih]
theorem p_com (a b : List Int) : impl_commons.f a b = spec_l15Common.f a b := by
  unfold impl_commons.f spec_l15Common.f
  simp only [p_com1]
/-- The rows from i on are there. -/
def Tab (i n m : Nat) (t : List (List Int)) : Prop := t.length = n + 1 ∧ ∀ r, i ≤ r → r ≤ n → ∃ row, t[r]? = some row ∧ row.length = m + 1
theorem Tab.set {i n m : Nat} {t : List (List Int)} (T : Tab i n m t) {r : Nat} (row : List Int) (h : row.length = m + 1) : Tab i n m (t.set r row) := by
  refine ⟨by simpa using T.1, fun q h1 h2 => ?_⟩
  obtain ⟨x, e1, e2⟩ := T.2 q h1 h2
  by_cases hq : r = q
  · subst hq
    have := (List.getElem?_eq_some_iff.1 e1).1
    exact ⟨row, by rw [List.getElem?_set_self this], h⟩
  · exact ⟨x, by rw [List.getElem?_set_ne hq]; exact e1, e2⟩
theorem rd?_get {α : Type} {xs : List α} {i : Nat} {x : α} (h : xs[i]? = some x) : rd? xs (i : Int) = some x := by
  obtain ⟨h1, h2⟩ := List.getElem?_eq_some_iff.1 h
  rw [rd?_at h1, h2]
theorem p_com2_ok (a b : List Int) (ha : a.length ≤ 1000) (hb : b.length ≤ 1000) (i : Nat) (hi : i ≤ a.length) : ∀ (k q : Nat) (t : List (List Int)), q ≤ b.length → q < k → Tab i a.length b.length t → ∃ t', spec_l15Common.l2 a b i k t ((q : Int) - 1) = some t' ∧ Tab i a.length b.length t' := by
  intro k
  induction k with
  | zero => intro q _ _ h; omega
  | succ k ih =>
    intro q t hq hk T
    rw [spec_l15Common.l2]
    cases q with
    | zero =>
      have c1 : decide (((0 : Nat) : Int) - 1 ≥ 0) = false := by decide
      simp only [c1, Bool.false_eq_true, if_false, Option.bind_some]
      exact ⟨t, rfl, T⟩
    | succ p =>
      have e1 : ((p + 1 : Nat) : Int) - 1 = (p : Int) := by omega
      rw [e1]
      have c1 : decide ((p : Int) ≥ 0) = true := by simp
      simp only [c1, if_true, Option.bind_some]
      by_cases hl : i < a.length
      · have c2 : decide ((i : Int) < (a.length : Int)) = true := by simpa using hl
        simp only [c2, if_true]
        obtain ⟨r1, g1, l1⟩ := T.2 (i + 1) (by omega) (by omega)
        obtain ⟨r0, g0, l0⟩ := T.2 i (by omega) (by omega)
        have q1 : rd? t (((i + 1 : Nat)) : Int) = some r1 := rd?_get g1
        have q0 : rd? t (i : Int) = some r0 := rd?_get g0
        have s1 : rd? r1 (((p + 1 : Nat)) : Int) = some r1[p + 1] := rd?_at (by omega)
        have s2 : rd? r1 (p : Int) = some r1[p] := rd?_at (by omega)
        have s3 : rd? r0 (((p + 1 : Nat)) : Int) = some r0[p + 1] := rd?_at (by omega)
        have s4 : rd? r0 (p : Int) = some r0[p] := rd?_at (by omega)
        have s5 : ∀ v, st? r0 (p : Int) v = some (r0.set p v) := fun v => st?_at v (by omega)
        have s6 : ∀ v, st? t (i : Int) v = some (t.set i v) := fun v => st?_at v (by have := T.1; omega)
        have w1 := wrapN i (by omega)
        have w2 := wrapN p (by omega)
        have w3 : IntKind.i64.wrap ((p : Int) - 1) = (p : Int) - 1 := wrapS (by omega) (by omega)
        simp only [rd?_at hl, rd?_at (show p < b.length by omega), Option.bind_some, w1, w2, w3, q1, q0, s1, s2, s3, s4, s5, s6, p_mostT]
        split
        · exact ih p _ (by omega) (by omega) (T.set _ (by simpa using l0))
        · exact ih p _ (by omega) (by omega) (T.set _ (by simpa using l0))
      · have c2 : decide ((i : Int) < (a.length : Int)) = false := by simpa using hl
        simp only [c2, Bool.false_eq_true, if_false]
        exact ⟨t, rfl, T⟩
theorem p_com1_ok (a b : List Int) (ha : a.length ≤ 1000) (hb : b.length ≤ 1000) : ∀ (k q : Nat) (t : List (List Int)), q ≤ a.length + 1 → q < k → Tab q a.length b.length t → ∃ t', spec_l15Common.l1 a b k t ((q : Int) - 1) = some t' ∧ Tab 0 a.length b.length t' := by
  intro k
  induction k with
  | zero => intro q _ _ h; omega
  | succ k ih =>
    intro q t hq hk T
    rw [spec_l15Common.l1]
    cases q with
    | zero =>
      have c1 : decide (((0 : Nat) : Int) - 1 ≥ 0) = false := by decide
      simp only [c1, Bool.false_eq_true, if_false]
      exact ⟨t, rfl, T⟩
    | succ i =>
      have e1 : ((i + 1 : Nat) : Int) - 1 = (i : Int) := by omega
      rw [e1]
      have c1 : decide ((i : Int) ≥ 0) = true := by simp
      have w1 := wrapN b.length (by omega)
      have w2 : IntKind.i64.wrap ((b.length : Int) - 1) = (b.length : Int) - 1 := wrapS (by omega) (by omega)
      have w3 : IntKind.i64.wrap ((i : Int) - 1) = (i : Int) - 1 := wrapS (by omega) (by omega)
      have m1 : mk? 17592186044416 (0 : Int) (((b.length + 1 : Nat)) : Int) = some (List.replicate (b.length + 1) 0) := mk?_at (by omega)
      have hit : i < t.length := by have := T.1; omega
      have T' : Tab i a.length b.length (t.set i (List.replicate (b.length + 1) 0)) := by
        refine ⟨by simpa using T.1, fun r h1 h2 => ?_⟩
        by_cases hr : i = r
        · subst hr
          exact ⟨_, List.getElem?_set_self hit, by simp⟩
        · obtain ⟨x, g1, g2⟩ := T.2 r (by omega) h2
          exact ⟨x, by rw [List.getElem?_set_ne hr]; exact g1, g2⟩
      have hf : b.length < ((b.length : Int) - 1 - 0).toNat + 2 := by omega
      obtain ⟨t', g1, g2⟩ := p_com2_ok a b ha hb i (by omega) (((b.length : Int) - 1 - 0).toNat + 2) b.length _ (Nat.le_refl _) hf T'
      simp only [c1, if_true, w1, w2, w3, m1, Option.bind_some, rd?_at hit, st?_at _ hit, g1]
      exact ih i t' (by omega) (by omega) g2
theorem p_table (a b : List Int) (ha : a.length ≤ 1000) (hb : b.length ≤ 1000) : ∃ t, impl_commons.f a b = some t ∧ spec_l15Common.f a b = some t ∧ Tab 0 a.length b.length t := by
  rw [p_com]
  have w1 := wrapN a.length (by omega)
  have m1 : mk? 5864062014805 ([] : List Int) (((a.length + 1 : Nat)) : Int) = some (List.replicate (a.length + 1) []) := mk?_at (by omega)
  obtain ⟨t, g1, g2⟩ := p_com1_ok a b ha hb (((a.length : Int) - 0).toNat + 2) (a.length + 1) (List.replicate (a.length + 1) []) (Nat.le_refl _) (by omega) ⟨by simp, fun r h1 h2 => by omega⟩
  rw [show ((a.length + 1 : Nat) : Int) - 1 = (a.length : Int) by omega] at g1
  have : spec_l15Common.f a b = some t := by
    unfold spec_l15Common.f
    simp only [w1, m1, Option.bind_some, g1]
  exact ⟨t, this, this, g2⟩
def keeps (d : List (Int × List Int)) : List Int := d.flatMap fun e => if (e.1 == 1) = true then e.2 else []
theorem p_add (d : List (Int × List Int)) (k r : Int) (N : Nat) (hN : N ≤ 2000) (hd : d.length ≤ N) (ht : ∀ e ∈ d, e.2.length ≤ N) : ∃ d', spec_l15Add.f d k r = some d' ∧ keeps d' = keeps d ++ (if (k == 1) = true then [r] else []) ∧ d'.length ≤ N + 1 ∧ ∀ e ∈ d', e.2.length ≤ N + 1 := by
  have new : ∃ d', app? 4398046511104 d [(k, [r])] = some d' ∧ keeps d' = keeps d ++ (if (k == 1) = true then [r] else []) ∧ d'.length ≤ N + 1 ∧ ∀ e ∈ d', e.2.length ≤ N + 1 := by
    refine ⟨d ++ [(k, [r])], app?_at (by simp; omega), ?_, by simp; omega, fun e he => ?_⟩
    · unfold keeps
      rw [List.flatMap_append]
      simp
    · rcases List.mem_append.1 he with he | he
      · have := ht e he; omega
      · rw [List.mem_singleton.1 he]; simp
  unfold spec_l15Add.f
  rcases List.eq_nil_or_concat d with rfl | ⟨d0, e, rfl⟩
  · obtain ⟨d', g1, g2⟩ := new
    refine ⟨d', ?_, g2⟩
    have c1 : decide (((([] : List (Int × List Int)).length : Nat) : Int) > 0) = false := by simp
    simp only [c1, Bool.false_eq_true, if_false, Option.bind_some, g1]
  · rw [List.concat_eq_append] at *
    have c1 : decide ((((d0 ++ [e]).length : Nat) : Int) > 0) = true := by rw [decide_eq_true_eq, List.length_append, List.length_singleton]; omega
    have w1 : IntKind.i64.wrap ((((d0 ++ [e]).length : Nat) : Int) - 1) = (d0.length : Int) := by
      rw [List.length_append, List.length_singleton] at hd ⊢
      rw [wrapS (by omega) (by omega)]
      omega
    have r1 : rd? (d0 ++ [e]) (d0.length : Int) = some e := by
      have := rd?_at (xs := d0 ++ [e]) (i := d0.length) (by simp)
      rw [this]
      simp
    simp only [c1, if_true, w1, r1, Option.bind_some]
    have he : e.2.length ≤ N := ht e (by simp)
    cases hk : e.1 == k with
    | false =>
      obtain ⟨d', g1, g2⟩ := new
      refine ⟨d', ?_, g2⟩
      simp only [Bool.false_eq_true, if_false, g1, Option.bind_some]
    | true =>
      have a1 : app? 17592186044416 e.2 [r] = some (e.2 ++ [r]) := app?_at (by simp; omega)
      have s1 : st? (d0 ++ [e]) (d0.length : Int) (e.1, e.2 ++ [r]) = some (d0 ++ [(e.1, e.2 ++ [r])]) := by
        rw [st?_at _ (by simp)]
        simp
      simp only [if_true, a1, s1, Option.bind_some]
      have hk' : e.1 = k := by simpa using hk
      subst hk'
      refine ⟨_, rfl, ?_, by simpa using (by simp at hd; omega : d0.length ≤ N), fun x hx => ?_⟩
      · unfold keeps
        rw [List.flatMap_append, List.flatMap_append]
        simp
        split <;> simp
      · rcases List.mem_append.1 hx with hx | hx
        · have := ht x (by simp [hx]); omega
        · rw [List.mem_singleton.1 hx]; simp; omega
theorem p_l1In (a b c : Int) : spec_l1In.f a b c = some (decide (b ≤ a) && decide (a ≤ c)) := by
  unfold spec_l1In.f
  by_cases h : b ≤ a
  · rw [if_pos (by simpa using h)]; simp [h]
  · rw [if_neg (by simpa using h)]; simp [h]
theorem p_inRange (a b c : Int) : impl_inRange.f a b c = some (decide (b ≤ a) && decide (a ≤ c)) := by
  unfold impl_inRange.f
  by_cases h : b ≤ a
  · rw [if_pos (by simpa using h)]; simp [h]
  · rw [if_neg (by simpa using h)]; simp [h]
def okRune (r : Int) : Bool := decide (0 ≤ r) && decide (r ≤ 1114111) && !(decide (55296 ≤ r) && decide (r ≤ 57343))
theorem p_specRune (r : Int) : spec_GoodRune.f r = some (okRune r) := by
  unfold spec_GoodRune.f okRune
  simp only [p_l1In, Option.bind_some]
  cases (decide (0 ≤ r) && decide (r ≤ 1114111)) <;> rfl
theorem p_implRune (r : Int) : impl_GoodRune.f r = some (okRune r) := by
  unfold impl_GoodRune.f okRune
  simp only [p_inRange, Option.bind_some]
  cases (decide (0 ≤ r) && decide (r ≤ 1114111)) <;> rfl
theorem p_allRunes (p : List Int) (hp : p.length ≤ big) : spec_l1AllRunes.f p = some (p.all okRune && decide (p.length ≤ 1000)) := by
  unfold spec_l1AllRunes.f
  have := all_loop p hp (fun u => !okRune u) false (spec_l1AllRunes.l1 p) (fun k i => by rw [spec_l1AllRunes.l1]; simp only [p_specRune, Option.bind_some]) (((p.length : Int) - 0).toNat + 2) 0 (by omega) (by omega)
  rw [show ((0 : Nat) : Int) = 0 from rfl] at this
  rw [this, List.drop_zero]
  have e : p.any (fun u => !okRune u) = !p.all okRune := by rw [List.all_eq_not_any_not]; simp
  rw [e]
  cases h : p.all okRune <;> simp
  omega
theorem p_areRunes (p : List Int) (n : Int) (hp : p.length ≤ big) : impl_areRunes.f p n = some (decide ((p.length : Int) ≤ n) && p.all okRune) := by
  unfold impl_areRunes.f slices_ContainsFunc_int_int_impl_areRunes_1.f slices_IndexFunc_int_int_impl_areRunes_1.f
  by_cases h : (p.length : Int) ≤ n
  · rw [if_pos (by simpa using h)]
    have := scan_loop p hp (fun u => !okRune u) (fun i _ => i) (slices_IndexFunc_int_int_impl_areRunes_1.l1 p) (fun k i => by rw [slices_IndexFunc_int_int_impl_areRunes_1.l1]; simp only [impl_areRunes_1.f, p_implRune, Option.bind_some]) (((p.length : Int) - 0).toNat + 2) 0 (by omega) (by omega)
    rw [show ((0 : Nat) : Int) = 0 from rfl] at this
    rw [this, List.drop_zero]
    have e : p.all okRune = !(p.any fun u => !okRune u) := List.all_eq_not_any_not
    rw [e]
    cases hf : p.findIdx? (fun u => !okRune u) with
    | none =>
      have : p.any (fun u => !okRune u) = false := by
        rw [List.findIdx?_eq_none_iff] at hf
        simpa using hf
      rw [this]; simp [h]
    | some j =>
      obtain ⟨hj, h1, h2⟩ := List.findIdx?_eq_some_iff_getElem.1 hf
      have : p.any (fun u => !okRune u) = true := List.any_eq_true.2 ⟨_, List.getElem_mem hj, h1⟩
      rw [this]
      simp [hj]
  · rw [if_neg (by simpa using h)]
    simp [h]
def okShort (p : List Int) : Bool := decide ((p.length : Int) ≤ 60) && p.all okRune
theorem p_areShort (p : List (List Int)) (hp : p.length ≤ big) (hq : ∀ q ∈ p, q.length ≤ big) : impl_areShort.f p = some (p.all okShort) := by
  unfold impl_areShort.f slices_ContainsFunc_int_int_impl_areShort_1.f slices_IndexFunc_int_int_impl_areShort_1.f
  have key : ∀ (k i : Nat), i ≤ p.length → p.length - i < k → ∃ o, slices_IndexFunc_int_int_impl_areShort_1.l1 p k i = some o ∧ (if (p.drop i).all okShort then o = .go () else ∃ n : Int, 0 ≤ n ∧ o = .ret n) := by
    intro k
    induction k with
    | zero => intro i _ h; omega
    | succ k ih =>
      intro i hi hk
      rw [slices_IndexFunc_int_int_impl_areShort_1.l1]
      by_cases h : i < p.length
      · rw [if_pos (by simpa using h), rd?_at h]
        simp only [Option.bind_some, impl_areShort_1.f, p_areRunes p[i] 60 (hq _ (List.getElem_mem h))]
        rw [List.drop_eq_getElem_cons h, List.all_cons]
        have e : (decide ((p[i].length : Int) ≤ 60) && p[i].all okRune) = okShort p[i] := rfl
        rw [e]
        cases hr : okShort p[i] with
        | false => exact ⟨.ret i, by simp, by simp⟩
        | true =>
          simp only [Bool.not_true, Bool.false_eq_true, if_false, Bool.true_and]
          rw [wrapN i (by unfold big at hp; omega)]
          exact ih (i + 1) h (by omega)
      · rw [if_neg (by simpa using h)]
        exact ⟨_, rfl, by simp [List.drop_eq_nil_of_le (by omega : p.length ≤ i)]⟩
  obtain ⟨o, h1, h2⟩ := key (((p.length : Int) - 0).toNat + 2) 0 (by omega) (by omega)
  rw [show ((0 : Nat) : Int) = 0 from rfl] at h1
  rw [h1]
  rw [List.drop_zero] at h2
  cases hr : p.all okShort with
  | true =>
    rw [hr, if_pos rfl] at h2
    subst h2
    simp
  | false =>
    rw [hr] at h2
    obtain ⟨m, hm, rfl⟩ := h2
    simp [hm]
theorem p_l15List (p : List Int) (hp : p.length ≤ big) : spec_l15List.f p = some (okShort p) := by
  unfold spec_l15List.f okShort
  rw [p_allRunes p hp]
  simp only [Option.bind_some]
  generalize p.all okRune = b
  by_cases h2 : p.length ≤ 60 <;> by_cases h3 : p.length ≤ 1000 <;> cases b <;> simp [h2, h3] <;> omega
theorem p_eqIntS (p q : List Int) (hp : p.length ≤ big) : laws_eqIntS.f p q = some (decide (p = q)) :=
  eq_all p q hp (laws_eqIntS.l1 p q) _ (by omega) fun _ _ _ => rfl
def marks (k : Int) (n : Nat) : List Int := (List.range n).map fun i : Nat => k + i
theorem marks_len (k : Int) (n : Nat) : (marks k n).length = n := by simp [marks]
theorem marks_get (k : Int) (n i : Nat) (h : i < n) : (marks k n)[i]? = some (k + i) := by simp [marks, h]
theorem p_markIntS_l (p : List Int) (k0 : Int) (h0 : 0 ≤ k0) (h1 : k0 ≤ 1000000000000) (hp : p.length ≤ big) : ∀ (k i : Nat) (x : List Int), i ≤ p.length → p.length - i < k → x.length = p.length → x.take i = (marks k0 p.length).take i → laws_markIntS.l1 p k x (k0 + i) i = some (k0 + p.length, marks k0 p.length) := by
  intro k
  induction k with
  | zero => intro i x _ h; omega
  | succ k ih =>
    intro i x hi hk hl ht
    rw [laws_markIntS.l1]
    by_cases h : i < p.length
    · rw [if_pos (by simpa using h), rd?_at (by omega : i < x.length)]
      simp only [Option.bind_some]
      rw [st?_at _ (by omega : i < x.length)]
      simp only [Option.bind_some]
      unfold big at hp
      rw [wrapN i (by omega), wrapS (by omega) (by omega), show k0 + (i : Int) + 1 = k0 + ((i + 1 : Nat) : Int) by omega]
      refine ih (i + 1) _ h (by omega) (by simpa using hl) ?_
      rw [List.take_add_one, List.take_add_one, List.take_set_of_le (Nat.le_refl i), ht, marks_get _ _ _ h]
      simp [h, hl]
    · rw [if_neg (by simpa using h)]
      obtain rfl : i = p.length := by omega
      rw [List.take_of_length_le (l := x) (by omega), List.take_of_length_le (l := marks k0 p.length) (by rw [marks_len]; omega)] at ht
      rw [ht]
theorem p_markIntS (p : List Int) (k0 : Int) (h0 : 0 ≤ k0) (h1 : k0 ≤ 1000000000000) (hp : p.length ≤ big) : laws_markIntS.f p k0 = some (k0 + p.length, marks k0 p.length) := by
  unfold laws_markIntS.f
  have := p_markIntS_l p k0 h0 h1 hp (((p.length : Int) - 0).toNat + 2) 0 p (by omega) (by omega) rfl (by simp)
  rw [show ((0 : Nat) : Int) = 0 from rfl, Int.add_zero] at this
  rw [this]
  rfl
theorem p_heldIntS_l (n : Nat) (k0 : Int) (h0 : 0 ≤ k0) (h1 : k0 ≤ 1000000000000) (hp : n ≤ big) : ∀ (k i : Nat), i ≤ n → n - i < k → laws_heldIntS.l1 (marks k0 n) k (k0 + i) i = some (.go (k0 + n)) := by
  intro k
  induction k with
  | zero => intro i _ h; omega
  | succ k ih =>
    intro i hi hk
    rw [laws_heldIntS.l1, marks_len]
    by_cases h : i < n
    · have hm := rd?_at (xs := marks k0 n) (i := i) (by rw [marks_len]; exact h)
      have hg : (marks k0 n)[i]'(by rw [marks_len]; exact h) = k0 + i := by simp [marks]
      rw [if_pos (by simpa using h), hm, hg]
      simp only [Option.bind_some]
      unfold big at hp
      rw [if_neg (by simp), wrapN i (by omega), wrapS (by omega) (by omega), show k0 + (i : Int) + 1 = k0 + ((i + 1 : Nat) : Int) by omega]
      exact ih (i + 1) h (by omega)
    · rw [if_neg (by simpa using h)]
      obtain rfl : i = n := by omega
      rfl
theorem p_heldIntS (n : Nat) (k0 : Int) (h0 : 0 ≤ k0) (h1 : k0 ≤ 1000000000000) (hp : n ≤ big) : laws_heldIntS.f (marks k0 n) k0 = some (k0 + n) := by
  unfold laws_heldIntS.f
  have := p_heldIntS_l n k0 h0 h1 hp ((((marks k0 n).length : Int) - 0).toNat + 2) 0 (by omega) (by rw [marks_len]; omega)
  rw [show ((0 : Nat) : Int) = 0 from rfl, Int.add_zero] at this
  rw [this]
  rfl
abbrev Ed := Int × List Int
def okLen (d : List Ed) : Prop := d.length ≤ big ∧ ∀ u ∈ d, u.2.length ≤ big
/-- What the marks of edits count. -/
def wEd : List Ed → Int
  | [] => 0
  | u :: us => 1 + u.2.length + wEd us
theorem wEd_cons (u : Ed) (us : List Ed) : wEd (u :: us) = 1 + u.2.length + wEd us := rfl
theorem wEd_pos : ∀ d : List Ed, 0 ≤ wEd d
  | [] => Int.le_refl _
  | u :: us => by have := wEd_pos us; rw [wEd_cons]; omega
theorem wEd_eq : ∀ d : List Ed, wEd d = d.length + sumW (fun u : Ed => (u.2.length : Int)) d
  | [] => rfl
  | u :: us => by
    have := wEd_eq us
    simp only [List.length_cons, wEd_cons, sumW]
    omega
theorem wEd_ok {d : List Ed} (h : wEd d ≤ 1048576) : okLen d ∧ d.length ≤ 1048576 := by
  have hp : ∀ u ∈ d, 0 ≤ (u.2.length : Int) := fun u _ => by omega
  have h2 := wEd_eq d
  have h3 := sumW_pos (w := fun u : Ed => (u.2.length : Int)) hp
  exact ⟨⟨by unfold big; omega, fun u hu => by have := sumW_mem (w := fun u : Ed => (u.2.length : Int)) hp u hu; unfold big; omega⟩, by omega⟩
theorem p_eqEditS (p q : List Ed) (hp : okLen p) : laws_eqEditS.f p q = some (decide (p = q)) :=
  eqS_all p q hp.1 (fun u v => laws_eqEdit.f u.1 u.2 v.1 v.2) (fun u hu v => by
    unfold laws_eqEdit.f
    rw [p_eqIntS _ _ (hp.2 u hu)]
    obtain ⟨u1, u2⟩ := u
    obtain ⟨v1, v2⟩ := v
    by_cases h1 : u1 = v1 <;> by_cases h2 : u2 = v2 <;> simp [h1, h2]) (laws_eqEditS.l1 p q) (((p.length : Int) - 0).toNat + 2) (by omega) fun _ _ => rfl
def mEd (u : Ed) (c : Int) : Int × Ed := (c + 1 + u.2.length, (c, marks (c + 1) u.2.length))
def gEd (us : List Ed) (c : Int) : Prop := 0 ≤ c ∧ c + wEd us ≤ 1000000000000 ∧ okLen us
theorem gEd_step (u : Ed) (us : List Ed) (c : Int) (h : gEd (u :: us) c) : gEd us (mEd u c).1 := by
  obtain ⟨h0, h1, h2, h3⟩ := h
  rw [wEd_cons] at h1
  exact ⟨by simp only [mEd]; omega, by simp only [mEd]; omega, by simp at h2; omega, fun v hv => h3 v (List.mem_cons_of_mem _ hv)⟩
theorem p_markEditS (d : List Ed) (c : Int) (hg : gEd d c) : laws_markEditS.f d c = some (mAll mEd d c) := by
  unfold laws_markEditS.f
  have := mark_loop d.length hg.2.2.1 mEd gEd gEd_step (laws_markEditS.l1 d) (fun x c i K => (rd? x i).bind fun u106 => (st? x i (c, u106.2)).bind fun x108 => (rd? x108 i).bind fun u110 => (laws_markIntS.f u110.2 (IntKind.i64.wrap (c + 1))).bind fun u114 => (st? x108 i (u110.1, u114.2)).bind fun x116 => K x116 u114.1)
    (fun pre u us c K hg => by
      have hw := wEd_pos us
      obtain ⟨h0, h1, h2, h3⟩ := hg
      rw [wEd_cons] at h1
      have e1 : rd? (pre ++ u :: us) (pre.length : Int) = some u := by rw [rd?_at (by simp)]; simp
      rw [e1]
      simp only [Option.bind_some]
      rw [st?_at _ (by simp)]
      simp only [Option.bind_some]
      have e2 : (pre ++ u :: us).set pre.length (c, u.2) = pre ++ (c, u.2) :: us := by simp
      have e3 : rd? (pre ++ (c, u.2) :: us) (pre.length : Int) = some (c, u.2) := by rw [rd?_at (by simp)]; simp
      rw [e2, e3]
      simp only [Option.bind_some]
      rw [wrapS (by omega) (by omega), p_markIntS _ _ (by omega) (by omega) (h3 u (by simp))]
      simp only [Option.bind_some]
      rw [st?_at _ (by simp)]
      simp [mEd]) (fun _ _ _ _ => rfl) d [] c (((d.length : Int) - 0).toNat + 2) (by simp) (by omega) hg
  simp only [List.nil_append, List.length_nil] at this
  rw [show ((0 : Nat) : Int) = 0 from rfl] at this
  rw [this]
  rfl
theorem mEd_ge : ∀ (d : List Ed) (c : Int), (mAll mEd d c).1 = c + wEd d
  | [], c => by simp [mAll, wEd]
  | u :: us, c => by
    have := mEd_ge us (mEd u c).1
    simp only [mAll, this]
    simp only [mEd, wEd_cons]
    omega
theorem p_heldEditS (d : List Ed) (c : Int) (hg : gEd d c) : laws_heldEditS.f (mAll mEd d c).2 c = some (mAll mEd d c).1 := by
  unfold laws_heldEditS.f
  have := held_loop d.length hg.2.2.1 mEd gEd gEd_step laws_heldEditS.l1 (fun p c i K => (rd? p i).bind fun u112 => if (u112.1 != c) = true then (some (Lo.ret (-1))) else ((rd? p i).bind fun u118 => (laws_heldIntS.f u118.2 (IntKind.i64.wrap (c + 1))).bind fun u120 => if (decide (u120 < 0)) = true then (some (Lo.ret (-1))) else K u120))
    (fun pre post u us c K hg => by
      have hw := wEd_pos us
      obtain ⟨h0, h1, h2, h3⟩ := hg
      rw [wEd_cons] at h1
      have e1 : rd? (pre ++ (mEd u c).2 :: post) (pre.length : Int) = some (mEd u c).2 := by rw [rd?_at (by simp)]; simp
      rw [e1]
      simp only [Option.bind_some]
      have e2 : (mEd u c).2.1 = c := rfl
      have e3 : (mEd u c).2.2 = marks (c + 1) u.2.length := rfl
      rw [e2, e3, if_neg (by simp), wrapS (by omega) (by omega), p_heldIntS _ _ (by omega) (by omega) (h3 u (by simp))]
      simp only [Option.bind_some]
      rw [if_neg (by simp; omega)]
      rfl) (fun _ _ _ _ => rfl) d [] c ((((mAll mEd d c).2.length : Int) - 0).toNat + 2) (by simp) (by rw [mAll_len]; omega) hg
  simp only [List.nil_append, List.length_nil] at this
  rw [show ((0 : Nat) : Int) = 0 from rfl] at this
  rw [this]
  rfl
theorem p_toIntS_l (p : List Int) (hp : p.length ≤ big) : ∀ (k i : Nat) (x : List Int), i ≤ p.length → p.length - i < k → x.length = p.length → x.take i = p.take i → laws_toIntS.l1 p k x i = some p := by
  intro k
  induction k with
  | zero => intro i x _ h; omega
  | succ k ih =>
    intro i x hi hk hl ht
    rw [laws_toIntS.l1]
    by_cases h : i < p.length
    · rw [if_pos (by simpa using h), rd?_at h]
      simp only [Option.bind_some]
      rw [rd?_at (by omega : i < x.length)]
      simp only [Option.bind_some]
      rw [st?_at p[i] (by omega : i < x.length)]
      simp only [Option.bind_some]
      rw [wrapN i (by unfold big at hp; omega)]
      refine ih (i + 1) _ h (by omega) (by simpa using hl) ?_
      rw [List.take_add_one, List.take_add_one, List.take_set_of_le (Nat.le_refl i), ht]
      simp [h, hl]
    · rw [if_neg (by simpa using h)]
      obtain rfl : i = p.length := by omega
      rw [List.take_length, ← hl, List.take_length] at ht
      rw [ht]
theorem p_toIntS (p : List Int) (hp : p.length ≤ big) : laws_toIntS.f p = some p := by
  unfold laws_toIntS.f
  rw [mk?_at (by unfold big at hp; omega)]
  simp only [Option.bind_some]
  have := p_toIntS_l p hp (((p.length : Int) - 0).toNat + 2) 0 (List.replicate p.length 0) (by omega) (by omega) (by simp) (by simp)
  rw [show ((0 : Nat) : Int) = 0 from rfl] at this
  rw [this]
  rfl
theorem p_same (d : List Ed) (k r : Int) (hd : d.length ≤ 2000) : impl_DiffOf_1.f k r d = spec_l15Add.f d k r := by
  unfold impl_DiffOf_1.f spec_l15Add.f
  have e : decide (IntKind.i64.wrap ((d.length : Int) - 1) ≥ 0) = decide ((d.length : Int) > 0) := by
    rw [wrapS (by omega) (by omega), Bool.eq_iff_iff, decide_eq_true_eq, decide_eq_true_eq]
    omega
  rw [e]
theorem p_walkD (a b : List Int) (t : List (List Int)) (T : Tab 0 a.length b.length t) (ha : a.length ≤ 100) (hb : b.length ≤ 100) : ∀ (k i j : Nat) (d : List Ed), i ≤ a.length → j ≤ b.length → a.length + b.length - i - j < k → d.length ≤ i + j → (∀ e ∈ d, e.2.length ≤ i + j) →
    ∃ d', spec_l15Diff.l1 a b t k d i j = some d' ∧ impl_along_impl_DiffOf_1.l1 a b t k i j d = some d' ∧ d'.length ≤ 200 ∧ (∀ e ∈ d', e.2.length ≤ 200) := by
  intro k
  induction k with
  | zero => intro i j d _ _ h; omega
  | succ k ih =>
    intro i j d hi hj hk hd ht
    have step : ∀ (kind r : Int) (i' j' : Nat), i' ≤ a.length → j' ≤ b.length → i + j + 1 ≤ i' + j' → ∃ d1, spec_l15Add.f d kind r = some d1 ∧ impl_DiffOf_1.f kind r d = some d1 ∧
        ∃ d', spec_l15Diff.l1 a b t k d1 i' j' = some d' ∧ impl_along_impl_DiffOf_1.l1 a b t k i' j' d1 = some d' ∧ d'.length ≤ 200 ∧ (∀ e ∈ d', e.2.length ≤ 200) := by
      intro kind r i' j' h1 h2 h3
      obtain ⟨d1, g1, g2, g3, g4⟩ := p_add d kind r (i + j) (by omega) hd ht
      refine ⟨d1, g1, by rw [p_same d kind r (by omega)]; exact g1, ?_⟩
      exact ih i' j' d1 h1 h2 (by omega) (by omega) (fun e he => by have := g4 e he; omega)
    rw [spec_l15Diff.l1, impl_along_impl_DiffOf_1.l1]
    have w1 := wrapN i (by omega)
    have w2 := wrapN j (by omega)
    by_cases h1 : i < a.length
    · have c1 : decide ((i : Int) < (a.length : Int)) = true := by simpa using h1
      have c4 : ((i : Int) == (a.length : Int)) = false := by simp; omega
      have ra := rd?_at h1
      by_cases h2 : j < b.length
      · have c2 : ((j : Int) == (b.length : Int)) = false := by simp; omega
        have c3 : decide ((j : Int) < (b.length : Int)) = true := by simpa using h2
        have rb := rd?_at h2
        obtain ⟨r1, g1, l1⟩ := T.2 (i + 1) (by omega) (by omega)
        obtain ⟨r0, g0, l0⟩ := T.2 i (by omega) (by omega)
        have q1 : rd? t (((i + 1 : Nat)) : Int) = some r1 := rd?_get g1
        have q0 : rd? t (i : Int) = some r0 := rd?_get g0
        have s1 : rd? r1 (j : Int) = some r1[j] := rd?_at (by omega)
        have s0 : rd? r0 (j : Int) = some r0[j] := rd?_at (by omega)
        simp only [c1, c2, c3, c4, ra, rb, w1, w2, q1, q0, s1, s0, if_true, if_false, Bool.false_eq_true, Option.bind_some]
        cases he : a[i] == b[j] with
        | true =>
          obtain ⟨d1, e1, e2, d', e3, e4, e5⟩ := step 1 a[i] (i + 1) (j + 1) h1 h2 (by omega)
          simp only [if_true, e1, e2, Option.bind_some]
          exact ⟨d', e3, e4, e5⟩
        | false =>
          cases ht2 : r1[j] == r0[j] with
          | true =>
            obtain ⟨d1, e1, e2, d', e3, e4, e5⟩ := step 2 a[i] (i + 1) j h1 hj (by omega)
            simp only [Bool.false_eq_true, if_true, if_false, e1, e2, Option.bind_some]
            exact ⟨d', e3, e4, e5⟩
          | false =>
            obtain ⟨d1, e1, e2, d', e3, e4, e5⟩ := step 3 b[j] i (j + 1) hi h2 (by omega)
            simp only [Bool.false_eq_true, if_false, e1, e2, Option.bind_some]
            exact ⟨d', e3, e4, e5⟩
      · have hje : j = b.length := by omega
        have c2 : ((j : Int) == (b.length : Int)) = true := by simp; omega
        have c3 : decide ((j : Int) < (b.length : Int)) = false := by simpa using h2
        obtain ⟨d1, e1, e2, d', e3, e4, e5⟩ := step 2 a[i] (i + 1) j h1 hj (by omega)
        simp only [c1, c2, c3, ra, w1, if_true, if_false, Bool.false_eq_true, Option.bind_some, e1, e2]
        exact ⟨d', e3, e4, e5⟩
    · have c1 : decide ((i : Int) < (a.length : Int)) = false := by simpa using h1
      have c4 : ((i : Int) == (a.length : Int)) = true := by simp; omega
      by_cases h2 : j < b.length
      · have c2 : ((j : Int) == (b.length : Int)) = false := by simp; omega
        have c3 : decide ((j : Int) < (b.length : Int)) = true := by simpa using h2
        have rb := rd?_at h2
        obtain ⟨d1, e1, e2, d', e3, e4, e5⟩ := step 3 b[j] i (j + 1) hi h2 (by omega)
        simp only [c1, c2, c3, c4, rb, w2, if_true, if_false, Bool.false_eq_true, Option.bind_some, e1, e2]
        exact ⟨d', e3, e4, e5⟩
      · have c3 : decide ((j : Int) < (b.length : Int)) = false := by simpa using h2
        simp only [c1, c3, if_false, Bool.false_eq_true, Option.bind_some]
        exact ⟨d, rfl, rfl, by omega, fun e he => by have := ht e he; omega⟩
theorem wEd_le : ∀ d : List Ed, (∀ u ∈ d, u.2.length ≤ 200) → wEd d ≤ 201 * d.length
  | [], _ => by simp [wEd]
  | u :: us, h => by
    have h1 := h u (by simp)
    have h2 := wEd_le us fun v hv => h v (List.mem_cons_of_mem _ hv)
    rw [wEd_cons, List.length_cons]
    omega
theorem p_DiffOf (a b : List Int) (ha : a.length ≤ big) (hb : b.length ≤ big) : ∃ r : List Ed × Bool, impl_DiffOf.f a b = some r ∧ spec_DiffOf.f a b = some r ∧ r.1.length ≤ 200 ∧ (∀ e ∈ r.1, e.2.length ≤ 200) := by
  unfold impl_DiffOf.f spec_DiffOf.f
  rw [p_areShort [a, b] (by unfold big; simp) (by simp; exact ⟨ha, hb⟩), p_l15List a ha, p_l15List b hb]
  simp only [Option.bind_some, List.all_cons, List.all_nil, Bool.and_true]
  cases h1 : okShort a with
  | false => exact ⟨([], false), rfl, rfl, by simp, by simp⟩
  | true =>
    cases h2 : okShort b with
    | false => exact ⟨([], false), rfl, rfl, by simp, by simp⟩
    | true =>
      simp only [Bool.and_self, Bool.not_true, Bool.false_eq_true, if_false, Option.bind_some]
      have la : a.length ≤ 60 := by
        simp only [okShort, Bool.and_eq_true, decide_eq_true_eq] at h1
        omega
      have lb : b.length ≤ 60 := by
        simp only [okShort, Bool.and_eq_true, decide_eq_true_eq] at h2
        omega
      obtain ⟨t, t1, t2, T⟩ := p_table a b (by omega) (by omega)
      obtain ⟨d', e1, e2, e4, e5⟩ := p_walkD a b t T (by omega) (by omega) (a.length + b.length + 2) 0 0 [] (by omega) (by omega) (by omega) (by simp) (by simp)
      rw [show ((0 : Nat) : Int) = 0 from rfl] at e1 e2
      refine ⟨(d', true), ?_, ?_, e4, e5⟩
      · unfold impl_along_impl_DiffOf_1.f
        simp only [t1, Option.bind_some, e2]
      · unfold spec_l15Diff.f
        simp only [t2, Option.bind_some, e1]
theorem law_DiffOf (a b : List Int) (_ : allW (inK .i64) a) (_ : allW (inK .i64) b) : laws_FnExactDiffOf.f a b = some true := by
  unfold laws_FnExactDiffOf.f
  by_cases ha0 : (a.length : Int) > 1048576
  · rw [if_pos (by simpa using ha0)]
  rw [if_neg (by simpa using ha0)]
  by_cases hb0 : (b.length : Int) > 1048576
  · rw [if_pos (by simpa using hb0)]
  rw [if_neg (by simpa using hb0)]
  have ha : a.length ≤ big := by unfold big; omega
  have hb : b.length ≤ big := by unfold big; omega
  obtain ⟨r, e1, e2, b1, b2⟩ := p_DiffOf a b ha hb
  have e3 : okLen r.1 := ⟨by unfold big; omega, fun u hu => by have := b2 u hu; unfold big; omega⟩
  have w2 := wEd_pos r.1
  have w3 := wEd_le r.1 b2
  have g2 : gEd r.1 1 := ⟨by omega, by omega, e3⟩
  have n2 : ¬ ((mAll mEd r.1 1).1 < 0) := by rw [mEd_ge]; omega
  have ma := p_markIntS a 1 (by omega) (by omega) ha
  have mb := p_markIntS b (1 + a.length) (by omega) (by omega) hb
  have n1 : ¬ (1 + (a.length : Int) + (b.length : Int) < 0) := by omega
  simp [p_toIntS a ha, p_toIntS b hb, e1, e2, p_eqIntS a a ha, p_eqIntS b b hb, p_eqEditS r.1 r.1 e3, ma, mb, p_markEditS r.1 1 g2, p_heldEditS r.1 1 g2, n1, n2]
end Go.Proofs.Ytopecknfnhocpaa
