/- Plain laws of the printed functions. Conditions as each lemma says. -/
import Derived.Test.YtihocjbngajjkaaWDistanceOf0
set_option linter.unusedVariables false
set_option linter.unusedSimpArgs false
namespace Go.Proofs.Ytihocjbngajjkaa
open Go Go.Proofs.GL
theorem wrapS {n : Int} (h0 : -9223372036854775808 ≤ n) (h1 : n < 9223372036854775808) : IntKind.i64.wrap n = n := by rw [IntKind.wrap_i64]; omega
theorem rd?_at {α : Type} {xs : List α} {i : Nat} (h : i < xs.length) : rd? xs (i : Int) = some xs[i] := by
  unfold rd?
  rw [if_pos (Int.natCast_nonneg i), Int.toNat_natCast, List.getElem?_eq_getElem h]
theorem toIntS_l (p : List Int) (hp : p.length ≤ 17592186044416) : ∀ (k i : Nat) (x : List Int), i ≤ p.length → p.length - i < k → x.length = p.length → x.take i = p.take i → laws_toIntS.l1 p k x i = some p := by
  intro k
  induction k with
  | zero => intro i x _ h; omega
  | succ k ih =>
    intro i x hi hk hl ht
    rw [laws_toIntS.l1]
    by_cases h : i < p.length
    · rw [if_pos (by simpa using h), rd?_at h]
      simp only [Option.bind_some]
      rw [rd?_at (by omega : i < x.length)]
      simp only [Option.bind_some]
      have hst : st? x (i : Int) p[i] = some (x.set i p[i]) := by
        unfold st?
        rw [if_pos (by omega), Int.toNat_natCast]
      rw [hst]
      simp only [Option.bind_some]
      rw [wrapS (by omega) (by omega), show ((i : Int) + 1) = ((i + 1 : Nat) : Int) by omega]
      refine ih (i + 1) _ h (by omega) (by simpa using hl) ?_
      rw [List.take_add_one, List.take_add_one, List.take_set_of_le (Nat.le_refl i), ht]
      simp [h, hl]
    · rw [if_neg (by simpa using h)]
      obtain rfl : i = p.length := by omega
      rw [List.take_length, ← hl, List.take_length] at ht
      rw [ht]
theorem toIntS (p : List Int) (hp : p.length ≤ 17592186044416) : laws_toIntS.f p = some p := by
  unfold laws_toIntS.f mk?
  rw [if_pos (by omega)]
  simp only [Option.bind_some]
  have := toIntS_l p hp (((p.length : Int) - 0).toNat + 2) 0 (List.replicate (p.length : Int).toNat 0) (by omega) (by omega) (by simp) (by simp)
  rw [show ((0 : Nat) : Int) = 0 from rfl] at this
  rw [this]
  rfl
theorem eqIntS_l (p : List Int) (hp : p.length ≤ 17592186044416) : ∀ (k i : Nat), i ≤ p.length → p.length - i < k → laws_eqIntS.l1 p p k i = some (.go ()) := by
  intro k
  induction k with
  | zero => intro i _ h; omega
  | succ k ih =>
    intro i hi hk
    rw [laws_eqIntS.l1]
    by_cases h : i < p.length
    · rw [if_pos (by simpa using h), rd?_at h]
      simp only [Option.bind_some]
      rw [if_neg (by simp), wrapS (by omega) (by omega), show ((i : Int) + 1) = ((i + 1 : Nat) : Int) by omega]
      exact ih (i + 1) h (by omega)
    · rw [if_neg (by simpa using h)]
theorem eqIntS (p : List Int) (hp : p.length ≤ 17592186044416) : laws_eqIntS.f p p = some true := by
  unfold laws_eqIntS.f
  rw [if_neg (by simp)]
  have := eqIntS_l p hp (((p.length : Int) - 0).toNat + 2) 0 (by omega) (by omega)
  rw [show ((0 : Nat) : Int) = 0 from rfl] at this
  rw [this]
  rfl
end Go.Proofs.Ytihocjbngajjkaa
namespace Go.Proofs.Ytihocjbngajjkaa
open Go Go.Proofs.GL
def okRune (r : Int) : Bool := decide (0 ≤ r) && decide (r ≤ 1114111) && !(decide (55296 ≤ r) && decide (r ≤ 57343))
theorem l1In (a b c : Int) : spec_l1In.f a b c = some (decide (b ≤ a) && decide (a ≤ c)) := by
  unfold spec_l1In.f
  by_cases h : b ≤ a
  · rw [if_pos (by simpa using h)]; simp [h]
  · rw [if_neg (by simpa using h)]; simp [h]
theorem inRange (a b c : Int) : impl_inRange.f a b c = some (decide (b ≤ a) && decide (a ≤ c)) := by
  unfold impl_inRange.f
  by_cases h : b ≤ a
  · rw [if_pos (by simpa using h)]; simp [h]
  · rw [if_neg (by simpa using h)]; simp [h]
theorem spec_rune (r : Int) : spec_GoodRune.f r = some (okRune r) := by
  unfold spec_GoodRune.f okRune
  simp only [l1In, Option.bind_some]
  cases (decide (0 ≤ r) && decide (r ≤ 1114111)) <;> rfl
theorem impl_rune (r : Int) : impl_GoodRune.f r = some (okRune r) := by
  unfold impl_GoodRune.f okRune
  simp only [inRange, Option.bind_some]
  cases (decide (0 ≤ r) && decide (r ≤ 1114111)) <;> rfl
theorem allRunes_l (p : List Int) (hp : p.length ≤ 17592186044416) : ∀ (k i : Nat), i ≤ p.length → p.length - i < k → spec_l1AllRunes.l1 p k i = some (if (p.drop i).all okRune then .go () else .ret false) := by
  intro k
  induction k with
  | zero => intro i _ h; omega
  | succ k ih =>
    intro i hi hk
    rw [spec_l1AllRunes.l1]
    by_cases h : i < p.length
    · rw [if_pos (by simpa using h), rd?_at h]
      simp only [Option.bind_some, spec_rune]
      rw [List.drop_eq_getElem_cons h, List.all_cons]
      cases hr : okRune p[i] with
      | false => simp
      | true =>
        simp only [Bool.not_true, Bool.false_eq_true, if_false, Bool.true_and]
        rw [wrapS (by omega) (by omega), show ((i : Int) + 1) = ((i + 1 : Nat) : Int) by omega]
        exact ih (i + 1) h (by omega)
    · rw [if_neg (by simpa using h)]
      simp [List.drop_eq_nil_of_le (by omega : p.length ≤ i)]
theorem allRunes (p : List Int) (hp : p.length ≤ 17592186044416) : spec_l1AllRunes.f p = some (p.all okRune && decide (p.length ≤ 1000)) := by
  unfold spec_l1AllRunes.f
  have := allRunes_l p hp (((p.length : Int) - 0).toNat + 2) 0 (by omega) (by omega)
  rw [show ((0 : Nat) : Int) = 0 from rfl] at this
  rw [this]
  cases h : p.all okRune <;> simp [h]
  omega
end Go.Proofs.Ytihocjbngajjkaa
namespace Go.Proofs.Ytihocjbngajjkaa
open Go Go.Proofs.GL
theorem idx1_l (p : List Int) (hp : p.length ≤ 17592186044416) : ∀ (k i : Nat), i ≤ p.length → p.length - i < k → ∃ o, slices_IndexFunc_int_int_impl_areRunes_1.l1 p k i = some o ∧ (if (p.drop i).all okRune then o = .go () else ∃ n : Int, 0 ≤ n ∧ o = .ret n) := by
  intro k
  induction k with
  | zero => intro i _ h; omega
  | succ k ih =>
    intro i hi hk
    rw [slices_IndexFunc_int_int_impl_areRunes_1.l1]
    by_cases h : i < p.length
    · rw [if_pos (by simpa using h), rd?_at h]
      simp only [Option.bind_some, impl_areRunes_1.f, impl_rune]
      rw [List.drop_eq_getElem_cons h, List.all_cons]
      cases hr : okRune p[i] with
      | false => exact ⟨.ret i, by simp, by simp⟩
      | true =>
        simp only [Bool.not_true, Bool.false_eq_true, if_false, Bool.true_and]
        rw [wrapS (by omega) (by omega), show ((i : Int) + 1) = ((i + 1 : Nat) : Int) by omega]
        exact ih (i + 1) h (by omega)
    · rw [if_neg (by simpa using h)]
      exact ⟨_, rfl, by simp [List.drop_eq_nil_of_le (by omega : p.length ≤ i)]⟩
theorem areRunes (p : List Int) (n : Int) (hp : p.length ≤ 17592186044416) : impl_areRunes.f p n = some (decide ((p.length : Int) ≤ n) && p.all okRune) := by
  unfold impl_areRunes.f slices_ContainsFunc_int_int_impl_areRunes_1.f slices_IndexFunc_int_int_impl_areRunes_1.f
  by_cases h : (p.length : Int) ≤ n
  · rw [if_pos (by simpa using h)]
    obtain ⟨o, h1, h2⟩ := idx1_l p hp (((p.length : Int) - 0).toNat + 2) 0 (by omega) (by omega)
    rw [show ((0 : Nat) : Int) = 0 from rfl] at h1
    rw [h1]
    rw [List.drop_zero] at h2
    cases hr : p.all okRune with
    | true =>
      rw [hr, if_pos rfl] at h2
      subst h2
      simp [h]
    | false =>
      rw [hr] at h2
      obtain ⟨m, hm, rfl⟩ := h2
      simp [h, hm]
  · rw [if_neg (by simpa using h)]
    simp [h]
end Go.Proofs.Ytihocjbngajjkaa
namespace Go.Proofs.Ytihocjbngajjkaa
open Go Go.Proofs.GL
def okShort (p : List Int) : Bool := decide ((p.length : Int) ≤ 60) && p.all okRune
theorem idx2_l (p : List (List Int)) (hp : p.length ≤ 17592186044416) (hq : ∀ q ∈ p, q.length ≤ 17592186044416) : ∀ (k i : Nat), i ≤ p.length → p.length - i < k → ∃ o, slices_IndexFunc_int_int_impl_areShort_1.l1 p k i = some o ∧ (if (p.drop i).all okShort then o = .go () else ∃ n : Int, 0 ≤ n ∧ o = .ret n) := by
  intro k
  induction k with
  | zero => intro i _ h; omega
  | succ k ih =>
    intro i hi hk
    rw [slices_IndexFunc_int_int_impl_areShort_1.l1]
    by_cases h : i < p.length
    · rw [if_pos (by simpa using h), rd?_at h]
      simp only [Option.bind_some, impl_areShort_1.f, areRunes p[i] 60 (hq _ (List.getElem_mem h))]
      rw [List.drop_eq_getElem_cons h, List.all_cons]
      have e : (decide ((p[i].length : Int) ≤ 60) && p[i].all okRune) = okShort p[i] := rfl
      rw [e]
      cases hr : okShort p[i] with
      | false => exact ⟨.ret i, by simp, by simp⟩
      | true =>
        simp only [Bool.not_true, Bool.false_eq_true, if_false, Bool.true_and]
        rw [wrapS (by omega) (by omega), show ((i : Int) + 1) = ((i + 1 : Nat) : Int) by omega]
        exact ih (i + 1) h (by omega)
    · rw [if_neg (by simpa using h)]
      exact ⟨_, rfl, by simp [List.drop_eq_nil_of_le (by omega : p.length ≤ i)]⟩
theorem areShort (p : List (List Int)) (hp : p.length ≤ 17592186044416) (hq : ∀ q ∈ p, q.length ≤ 17592186044416) : impl_areShort.f p = some (p.all okShort) := by
  unfold impl_areShort.f slices_ContainsFunc_int_int_impl_areShort_1.f slices_IndexFunc_int_int_impl_areShort_1.f
  obtain ⟨o, h1, h2⟩ := idx2_l p hp hq (((p.length : Int) - 0).toNat + 2) 0 (by omega) (by omega)
  rw [show ((0 : Nat) : Int) = 0 from rfl] at h1
  rw [h1]
  rw [List.drop_zero] at h2
  cases hr : p.all okShort with
  | true =>
    rw [hr, if_pos rfl] at h2
    subst h2
    simp
  | false =>
    rw [hr] at h2
    obtain ⟨m, hm, rfl⟩ := h2
    simp [hm]
theorem l15List (p : List Int) (hp : p.length ≤ 17592186044416) : spec_l15List.f p = some (okShort p) := by
  unfold spec_l15List.f okShort
  rw [allRunes p hp]
  simp only [Option.bind_some]
  cases h : p.all okRune <;> by_cases h2 : p.length ≤ 60 <;> by_cases h3 : p.length ≤ 1000 <;> simp [h, h2, h3] <;> omega
end Go.Proofs.Ytihocjbngajjkaa
namespace Go.Proofs.Ytihocjbngajjkaa
open Go Go.Proofs.GL
def upTo (n : Nat) : List Int := (List.range n).map fun i : Nat => (i : Int)
theorem upTo_succ (n : Nat) : upTo (n + 1) = upTo n ++ [(n : Int)] := by simp [upTo, List.range_succ]
theorem upTo_len (n : Nat) : (upTo n).length = n := by simp [upTo]
theorem firstRow_l (n : Nat) (hn : n ≤ 1000000) : ∀ (k i : Nat), i ≤ n + 1 → n + 1 - i < k → impl_firstRow.l1 n k (upTo i) i = some (upTo (n + 1)) := by
  intro k
  induction k with
  | zero => intro i _ h; omega
  | succ k ih =>
    intro i hi hk
    rw [impl_firstRow.l1, wrapS (by omega) (by omega)]
    by_cases h : i < n + 1
    · rw [if_pos (by simp; omega)]
      unfold app?
      rw [if_pos (by rw [upTo_len]; simp; omega)]
      simp only [Option.bind_some]
      rw [← upTo_succ, wrapS (by omega) (by omega), show ((i : Int) + 1) = ((i + 1 : Nat) : Int) by omega]
      exact ih (i + 1) h (by omega)
    · rw [if_neg (by simp; omega)]
      obtain rfl : i = n + 1 := by omega
      rfl
theorem firstRow (n : Nat) (hn : n ≤ 1000000) : impl_firstRow.f n = some (upTo (n + 1)) := by
  unfold impl_firstRow.f
  rw [wrapS (by omega) (by omega)]
  have := firstRow_l n hn (((n : Int) + 1 - 0).toNat + 2) 0 (by omega) (by omega)
  rw [show ((0 : Nat) : Int) = 0 from rfl, show upTo 0 = [] from rfl] at this
  rw [this]
  rfl
theorem numbers_l (n : Nat) (hn : n ≤ 1000001) : ∀ (k i : Nat), i ≤ n → n - i < k → spec_l15Numbers.l1 n k (upTo i) i = some (upTo n) := by
  intro k
  induction k with
  | zero => intro i _ h; omega
  | succ k ih =>
    intro i hi hk
    rw [spec_l15Numbers.l1]
    by_cases h : i < n
    · rw [if_pos (by simp; omega)]
      unfold app?
      rw [if_pos (by rw [upTo_len]; simp; omega)]
      simp only [Option.bind_some]
      rw [← upTo_succ, wrapS (by omega) (by omega), show ((i : Int) + 1) = ((i + 1 : Nat) : Int) by omega]
      exact ih (i + 1) h (by omega)
    · rw [if_neg (by simp; omega)]
      obtain rfl : i = n := by omega
      rfl
theorem numbers (n : Nat) (hn : n ≤ 1000001) : spec_l15Numbers.f n = some (upTo n) := by
  unfold spec_l15Numbers.f
  have := numbers_l n hn (((n : Int) - 0).toNat + 2) 0 (by omega) (by omega)
  rw [show ((0 : Nat) : Int) = 0 from rfl, show upTo 0 = [] from rfl] at this
  rw [this]
  rfl
end Go.Proofs.Ytihocjbngajjkaa
namespace Go.Proofs.Ytihocjbngajjkaa
open Go Go.Proofs.GL
def inB (B : Int) (x : List Int) : Prop := ∀ i (h : i < x.length), 0 ≤ x[i] ∧ x[i] ≤ B
theorem l1Least (a b : Int) : spec_l1Least.f a b = some (min a b) := by
  unfold spec_l1Least.f
  by_cases h : a < b
  · rw [if_pos (by simpa using h)]; congr 1; omega
  · rw [if_neg (by simpa using h)]; congr 1; omega
theorem row_l (row : List Int) (r : Int) (l : List Int) (R : Int) (hR0 : 0 ≤ R) (hR : R ≤ 1000000000) (hl : l.length ≤ 1000000) (hrow : row.length = l.length + 1) (hb : inB R row) : ∀ (k i : Nat) (out : List Int), i ≤ l.length → l.length - i < k → out.length = i + 1 → inB (R + 1 + i) out →
    ∃ z, impl_nextRow.l1 row r l k out i = some z ∧ spec_l15Row.l1 row r l k out i = some z ∧ z.length = l.length + 1 ∧ inB (R + 1 + l.length) z ∧ z.head? = out.head? := by
  intro k
  induction k with
  | zero => intro i out _ h; omega
  | succ k ih =>
    intro i out hi hk hlen ho
    rw [impl_nextRow.l1, spec_l15Row.l1]
    by_cases h : i < l.length
    · rw [if_pos (by simpa using h), if_pos (by simpa using h), rd?_at h]
      simp only [Option.bind_some]
      rw [rd?_at (by omega : i < row.length)]
      simp only [Option.bind_some]
      have hr1 := hb i (by omega)
      have hr2 := hb (i + 1) (by omega)
      have ho1 := ho i (by omega)
      have hby : ∃ y : Int, (if (l[i] != r) = true then some (IntKind.i64.wrap (row[i] + 1)) else some row[i]) = some y ∧ 0 ≤ y ∧ y ≤ R + 1 := by
        by_cases hc : (l[i] != r) = true
        · exact ⟨row[i] + 1, by rw [if_pos hc, wrapS (by omega) (by omega)], by omega, by omega⟩
        · exact ⟨row[i], by rw [if_neg hc], by omega, by omega⟩
      obtain ⟨y, hy, hy0, hy1⟩ := hby
      rw [hy]
      simp only [Option.bind_some]
      rw [wrapS (by omega) (by omega), show ((i : Int) + 1) = ((i + 1 : Nat) : Int) by omega, rd?_at (by omega : i + 1 < row.length), rd?_at (by omega : i < out.length)]
      simp only [Option.bind_some, l1Least]
      rw [wrapS (n := row[i + 1] + 1) (by omega) (by omega), wrapS (n := out[i] + 1) (by omega) (by omega), wrapS (n := min row[i + 1] out[i] + 1) (by omega) (by omega)]
      have e : min y (min (row[i + 1] + 1) (out[i] + 1)) = min y (min row[i + 1] out[i] + 1) := by omega
      rw [e]
      unfold app?
      rw [if_pos (by simp; omega)]
      simp only [Option.bind_some]
      obtain ⟨z, h1, h2, h3, h4, h5⟩ := ih (i + 1) (out ++ [min y (min row[i + 1] out[i] + 1)]) h (by omega) (by simp; omega) (by
        intro j hj
        rw [List.getElem_append]
        split
        · have := ho j (by assumption); omega
        · simp only [List.getElem_singleton]; omega)
      refine ⟨z, h1, h2, h3, h4, ?_⟩
      rw [h5, List.head?_append]
      have : out ≠ [] := by intro e; rw [e] at hlen; simp at hlen
      cases hh : out.head? with
      | none => exact absurd (List.head?_eq_none_iff.1 hh) this
      | some a => rfl
    · rw [if_neg (by simpa using h), if_neg (by simpa using h)]
      obtain rfl : i = l.length := by omega
      exact ⟨out, rfl, rfl, hlen, ho, rfl⟩
end Go.Proofs.Ytihocjbngajjkaa
namespace Go.Proofs.Ytihocjbngajjkaa
open Go Go.Proofs.GL
theorem nextRow (row : List Int) (r : Int) (l : List Int) (R : Int) (hR0 : 0 ≤ R) (hR : R ≤ 1000000000) (hl : l.length ≤ 1000000) (hrow : row.length = l.length + 1) (hb : inB R row) (a : Int) (ha : row.head? = some a) :
    ∃ z, impl_nextRow.f row r l = some z ∧ spec_l15Row.f row r l (a + 1) = some z ∧ z.length = l.length + 1 ∧ inB (R + 1 + l.length) z ∧ z.head? = some (a + 1) := by
  have h0 : 0 < row.length := by omega
  have e0 : row[0] = a := by
    rw [List.head?_eq_getElem?, List.getElem?_eq_getElem h0] at ha
    exact Option.some.inj ha
  have hb0 := hb 0 h0
  rw [e0] at hb0
  obtain ⟨z, h1, h2, h3, h4, h5⟩ := row_l row r l R hR0 hR hl hrow hb (((l.length : Int) - 0).toNat + 2) 0 [a + 1] (by omega) (by omega) rfl (by
    intro i hi
    simp only [List.getElem_singleton]
    omega)
  rw [show ((0 : Nat) : Int) = 0 from rfl] at h1 h2
  refine ⟨z, ?_, ?_, h3, h4, h5⟩
  · unfold impl_nextRow.f
    have := rd?_at h0
    rw [show ((0 : Nat) : Int) = 0 from rfl] at this
    rw [this, e0]
    simp only [Option.bind_some]
    rw [wrapS (by omega) (by omega), h1]
    rfl
  · unfold spec_l15Row.f
    rw [h2]
    rfl
end Go.Proofs.Ytihocjbngajjkaa
namespace Go.Proofs.Ytihocjbngajjkaa
open Go Go.Proofs.GL
theorem inB.le {B B' : Int} {x : List Int} (h : inB B x) (hb : B ≤ B') : inB B' x := fun i hi => by have := h i hi; omega
theorem dist_l (a b : List Int) (ha : a.length ≤ 60) (hb : b.length ≤ 60) : ∀ (k i : Nat) (row : List Int), i ≤ a.length → a.length - i < k → row.length = b.length + 1 → inB (60 + 61 * i) row → row.head? = some (i : Int) →
    ∃ z, impl_distances.l1 a b k row i = some z ∧ spec_l15Distance.l1 a b k row i = some z ∧ z.length = b.length + 1 := by
  intro k
  induction k with
  | zero => intro i row _ h; omega
  | succ k ih =>
    intro i row hi hk hlen ho hh
    rw [impl_distances.l1, spec_l15Distance.l1]
    by_cases h : i < a.length
    · rw [if_pos (by simpa using h), if_pos (by simpa using h), rd?_at h]
      simp only [Option.bind_some]
      obtain ⟨z, h1, h2, h3, h4, h5⟩ := nextRow row a[i] b (60 + 61 * i) (by omega) (by omega) (by omega) hlen ho i hh
      rw [wrapS (by omega) (by omega), h1, h2]
      simp only [Option.bind_some]
      rw [show ((i : Int) + 1) = ((i + 1 : Nat) : Int) by omega]
      exact ih (i + 1) z h (by omega) h3 (h4.le (by omega)) (by rw [h5]; congr 1)
    · rw [if_neg (by simpa using h), if_neg (by simpa using h)]
      exact ⟨row, rfl, rfl, hlen⟩
theorem distance (a b : List Int) (ha : a.length ≤ 60) (hb : b.length ≤ 60) : ∃ z d, impl_distances.f a b = some z ∧ rd? z (b.length : Int) = some d ∧ spec_l15Distance.f a b = some d := by
  obtain ⟨z, h1, h2, h3⟩ := dist_l a b ha hb (((a.length : Int) - 0).toNat + 2) 0 (upTo (b.length + 1)) (by omega) (by omega) (by rw [upTo_len]) (fun i hi => by
    rw [upTo_len] at hi
    simp only [upTo, List.getElem_map, List.getElem_range]
    omega) (by simp [upTo, List.range_succ_eq_map])
  rw [show ((0 : Nat) : Int) = 0 from rfl] at h1 h2
  have hz : b.length < z.length := by omega
  refine ⟨z, z[b.length], ?_, rd?_at hz, ?_⟩
  · unfold impl_distances.f
    rw [firstRow _ (by omega)]
    simp only [Option.bind_some]
    rw [h1]
    rfl
  · unfold spec_l15Distance.f
    rw [wrapS (by omega) (by omega), show ((b.length : Int) + 1) = ((b.length + 1 : Nat) : Int) by omega, numbers _ (by omega)]
    simp only [Option.bind_some]
    rw [h2]
    simp only [Option.bind_some]
    rw [rd?_at hz]
    rfl
theorem law (p q : List Int) : laws_FnExactDistanceOf.f p q = some true := by
  unfold laws_FnExactDistanceOf.f
  by_cases h1 : (p.length : Int) > 1048576
  · rw [if_pos (by simpa using h1)]
  rw [if_neg (by simpa using h1)]
  by_cases h2 : (q.length : Int) > 1048576
  · rw [if_pos (by simpa using h2)]
  rw [if_neg (by simpa using h2)]
  have hp : p.length ≤ 17592186044416 := by omega
  have hq : q.length ≤ 17592186044416 := by omega
  have key : ∃ d, spec_DistanceOf.f p q = some d ∧ impl_DistanceOf.f p q = some d := by
    unfold spec_DistanceOf.f impl_DistanceOf.f
    rw [l15List p hp, l15List q hq, areShort [p, q] (by simp) (by simp [hp, hq])]
    simp only [Option.bind_some, List.all_cons, List.all_nil, Bool.and_true]
    cases e1 : okShort p <;> cases e2 : okShort q <;> simp
    have l1 : p.length ≤ 60 := by simp [okShort] at e1; omega
    have l2 : q.length ≤ 60 := by simp [okShort] at e2; omega
    obtain ⟨z, d, a1, a2, a3⟩ := distance p q l1 l2
    exact ⟨d, .inr ⟨by rw [a3]; rfl, by rw [a1]; simp [a2]⟩⟩
  obtain ⟨d, h3, h4⟩ := key
  simp [toIntS p hp, toIntS q hq, eqIntS p hp, eqIntS q hq, h3, h4]
end Go.Proofs.Ytihocjbngajjkaa
