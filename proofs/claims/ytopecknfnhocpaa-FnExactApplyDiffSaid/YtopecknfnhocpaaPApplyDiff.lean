/- Plain laws of the printed functions. Conditions as each lemma says. -/
import Derived.Test.YtopecknfnhocpaaPB
import Derived.Test.YtopecknfnhocpaaWApplyDiff1
set_option linter.unusedVariables false
set_option linter.unusedSimpArgs false
namespace Go.Proofs.Ytopecknfnhocpaa
open Go Go.Proofs.GL
theorem p_eqIntS (p q : List Int) (hp : p.length ≤ big) : laws_eqIntS.f p q = some (decide (p = q)) :=
  eq_all p q hp (laws_eqIntS.l1 p q) _ (by omega) fun _ _ _ => rfl
theorem p_toIntS_l (p : List Int) (hp : p.length ≤ big) : ∀ (k i : Nat) (x : List Int), i ≤ p.length → p.length - i < k → x.length = p.length → x.take i = p.take i → laws_toIntS.l1 p k x i = some p := by
  intro k
  induction k with
  | zero => intro i x _ h; omega
  | succ k ih =>
    intro i x hi hk hl ht
    rw [laws_toIntS.l1]
    by_cases h : i < p.length
    · rw [if_pos (by simpa using h), rd?_at h]
      simp only [Option.bind_some]
      rw [rd?_at (by omega : i < x.length)]
      simp only [Option.bind_some]
      rw [st?_at p[i] (by omega : i < x.length)]
      simp only [Option.bind_some]
      rw [wrapN i (by unfold big at hp; omega)]
      refine ih (i + 1) _ h (by omega) (by simpa using hl) ?_
      rw [List.take_add_one, List.take_add_one, List.take_set_of_le (Nat.le_refl i), ht]
      simp [h, hl]
    · rw [if_neg (by simpa using h)]
      obtain rfl : i = p.length := by omega
      rw [List.take_length, ← hl, List.take_length] at ht
      rw [ht]
theorem p_toIntS (p : List Int) (hp : p.length ≤ big) : laws_toIntS.f p = some p := by
  unfold laws_toIntS.f
  rw [mk?_at (by unfold big at hp; omega)]
  simp only [Option.bind_some]
  have := p_toIntS_l p hp (((p.length : Int) - 0).toNat + 2) 0 (List.replicate p.length 0) (by omega) (by omega) (by simp) (by simp)
  rw [show ((0 : Nat) : Int) = 0 from rfl] at this
  rw [this]
  rfl
theorem p_szIntS (p : List Int) (n : Int) (h0 : 0 ≤ n) (h1 : n ≤ 1048576) (hp : p.length ≤ maxN) : laws_szIntS.f p n = some (if (p.length : Int) ≤ n then n - p.length else -1) := by
  unfold laws_szIntS.f
  unfold maxN at hp
  rw [wrapS (by omega) (by omega)]
  by_cases h : (p.length : Int) ≤ n
  · rw [if_neg (by simp; omega), if_pos h]
  · rw [if_pos (by simp; omega), if_neg h]
def marks (k : Int) (n : Nat) : List Int := (List.range n).map fun i : Nat => k + i
theorem marks_len (k : Int) (n : Nat) : (marks k n).length = n := by simp [marks]
theorem marks_get (k : Int) (n i : Nat) (h : i < n) : (marks k n)[i]? = some (k + i) := by simp [marks, h]
theorem p_markIntS_l (p : List Int) (k0 : Int) (h0 : 0 ≤ k0) (h1 : k0 ≤ 1000000000000) (hp : p.length ≤ big) : ∀ (k i : Nat) (x : List Int), i ≤ p.length → p.length - i < k → x.length = p.length → x.take i = (marks k0 p.length).take i → laws_markIntS.l1 p k x (k0 + i) i = some (k0 + p.length, marks k0 p.length) := by
  intro k
  induction k with
  | zero => intro i x _ h; omega
  | succ k ih =>
    intro i x hi hk hl ht
    rw [laws_markIntS.l1]
    by_cases h : i < p.length
    · rw [if_pos (by simpa using h), rd?_at (by omega : i < x.length)]
      simp only [Option.bind_some]
      rw [st?_at _ (by omega : i < x.length)]
      simp only [Option.bind_some]
      unfold big at hp
      rw [wrapN i (by omega), wrapS (by omega) (by omega), show k0 + (i : Int) + 1 = k0 + ((i + 1 : Nat) : Int) by omega]
      refine ih (i + 1) _ h (by omega) (by simpa using hl) ?_
      rw [List.take_add_one, List.take_add_one, List.take_set_of_le (Nat.le_refl i), ht, marks_get _ _ _ h]
      simp [h, hl]
    · rw [if_neg (by simpa using h)]
      obtain rfl : i = p.length := by omega
      rw [List.take_of_length_le (l := x) (by omega), List.take_of_length_le (l := marks k0 p.length) (by rw [marks_len]; omega)] at ht
      rw [ht]
theorem p_markIntS (p : List Int) (k0 : Int) (h0 : 0 ≤ k0) (h1 : k0 ≤ 1000000000000) (hp : p.length ≤ big) : laws_markIntS.f p k0 = some (k0 + p.length, marks k0 p.length) := by
  unfold laws_markIntS.f
  have := p_markIntS_l p k0 h0 h1 hp (((p.length : Int) - 0).toNat + 2) 0 p (by omega) (by omega) rfl (by simp)
  rw [show ((0 : Nat) : Int) = 0 from rfl, Int.add_zero] at this
  rw [this]
  rfl
theorem p_heldIntS_l (n : Nat) (k0 : Int) (h0 : 0 ≤ k0) (h1 : k0 ≤ 1000000000000) (hp : n ≤ big) : ∀ (k i : Nat), i ≤ n → n - i < k → laws_heldIntS.l1 (marks k0 n) k (k0 + i) i = some (.go (k0 + n)) := by
  intro k
  induction k with
  | zero => intro i _ h; omega
  | succ k ih =>
    intro i hi hk
    rw [laws_heldIntS.l1, marks_len]
    by_cases h : i < n
    · have hm := rd?_at (xs := marks k0 n) (i := i) (by rw [marks_len]; exact h)
      have hg : (marks k0 n)[i]'(by rw [marks_len]; exact h) = k0 + i := by simp [marks]
      rw [if_pos (by simpa using h), hm, hg]
      simp only [Option.bind_some]
      unfold big at hp
      rw [if_neg (by simp), wrapN i (by omega), wrapS (by omega) (by omega), show k0 + (i : Int) + 1 = k0 + ((i + 1 : Nat) : Int) by omega]
      exact ih (i + 1) h (by omega)
    · rw [if_neg (by simpa using h)]
      obtain rfl : i = n := by omega
      rfl
theorem p_heldIntS (n : Nat) (k0 : Int) (h0 : 0 ≤ k0) (h1 : k0 ≤ 1000000000000) (hp : n ≤ big) : laws_heldIntS.f (marks k0 n) k0 = some (k0 + n) := by
  unfold laws_heldIntS.f
  have := p_heldIntS_l n k0 h0 h1 hp ((((marks k0 n).length : Int) - 0).toNat + 2) 0 (by omega) (by rw [marks_len]; omega)
  rw [show ((0 : Nat) : Int) = 0 from rfl, Int.add_zero] at this
  rw [this]
  rfl
theorem p_l1In (a b c : Int) : spec_l1In.f a b c = some (decide (b ≤ a) && decide (a ≤ c)) := by
  unfold spec_l1In.f
  by_cases h : b ≤ a
  · rw [if_pos (by simpa using h)]; simp [h]
  · rw [if_neg (by simpa using h)]; simp [h]
theorem p_inRange (a b c : Int) : impl_inRange.f a b c = some (decide (b ≤ a) && decide (a ≤ c)) := by
  unfold impl_inRange.f
  by_cases h : b ≤ a
  · rw [if_pos (by simpa using h)]; simp [h]
  · rw [if_neg (by simpa using h)]; simp [h]
def okRune (r : Int) : Bool := decide (0 ≤ r) && decide (r ≤ 1114111) && !(decide (55296 ≤ r) && decide (r ≤ 57343))
theorem p_specRune (r : Int) : spec_GoodRune.f r = some (okRune r) := by
  unfold spec_GoodRune.f okRune
  simp only [p_l1In, Option.bind_some]
  cases (decide (0 ≤ r) && decide (r ≤ 1114111)) <;> rfl
theorem p_implRune (r : Int) : impl_GoodRune.f r = some (okRune r) := by
  unfold impl_GoodRune.f okRune
  simp only [p_inRange, Option.bind_some]
  cases (decide (0 ≤ r) && decide (r ≤ 1114111)) <;> rfl
theorem p_allRunes (p : List Int) (hp : p.length ≤ big) : spec_l1AllRunes.f p = some (p.all okRune && decide (p.length ≤ 1000)) := by
  unfold spec_l1AllRunes.f
  have := all_loop p hp (fun u => !okRune u) false (spec_l1AllRunes.l1 p) (fun k i => by rw [spec_l1AllRunes.l1]; simp only [p_specRune, Option.bind_some]) (((p.length : Int) - 0).toNat + 2) 0 (by omega) (by omega)
  rw [show ((0 : Nat) : Int) = 0 from rfl] at this
  rw [this, List.drop_zero]
  have e : p.any (fun u => !okRune u) = !p.all okRune := by rw [List.all_eq_not_any_not]; simp
  rw [e]
  cases h : p.all okRune <;> simp
  omega
theorem p_areRunes (p : List Int) (n : Int) (hp : p.length ≤ big) : impl_areRunes.f p n = some (decide ((p.length : Int) ≤ n) && p.all okRune) := by
  unfold impl_areRunes.f slices_ContainsFunc_int_int_impl_areRunes_1.f slices_IndexFunc_int_int_impl_areRunes_1.f
  by_cases h : (p.length : Int) ≤ n
  · rw [if_pos (by simpa using h)]
    have := scan_loop p hp (fun u => !okRune u) (fun i _ => i) (slices_IndexFunc_int_int_impl_areRunes_1.l1 p) (fun k i => by rw [slices_IndexFunc_int_int_impl_areRunes_1.l1]; simp only [impl_areRunes_1.f, p_implRune, Option.bind_some]) (((p.length : Int) - 0).toNat + 2) 0 (by omega) (by omega)
    rw [show ((0 : Nat) : Int) = 0 from rfl] at this
    rw [this, List.drop_zero]
    have e : p.all okRune = !(p.any fun u => !okRune u) := List.all_eq_not_any_not
    rw [e]
    cases hf : p.findIdx? (fun u => !okRune u) with
    | none =>
      have : p.any (fun u => !okRune u) = false := by
        rw [List.findIdx?_eq_none_iff] at hf
        simpa using hf
      rw [this]; simp [h]
    | some j =>
      obtain ⟨hj, h1, h2⟩ := List.findIdx?_eq_some_iff_getElem.1 hf
      have : p.any (fun u => !okRune u) = true := List.any_eq_true.2 ⟨_, List.getElem_mem hj, h1⟩
      rw [this]
      simp [hj]
  · rw [if_neg (by simpa using h)]
    simp [h]
def okShort (p : List Int) : Bool := decide ((p.length : Int) ≤ 60) && p.all okRune
theorem p_areShort (p : List (List Int)) (hp : p.length ≤ big) (hq : ∀ q ∈ p, q.length ≤ big) : impl_areShort.f p = some (p.all okShort) := by
  unfold impl_areShort.f slices_ContainsFunc_int_int_impl_areShort_1.f slices_IndexFunc_int_int_impl_areShort_1.f
  have key : ∀ (k i : Nat), i ≤ p.length → p.length - i < k → ∃ o, slices_IndexFunc_int_int_impl_areShort_1.l1 p k i = some o ∧ (if (p.drop i).all okShort then o = .go () else ∃ n : Int, 0 ≤ n ∧ o = .ret n) := by
    intro k
    induction k with
    | zero => intro i _ h; omega
    | succ k ih =>
      intro i hi hk
      rw [slices_IndexFunc_int_int_impl_areShort_1.l1]
      by_cases h : i < p.length
      · rw [if_pos (by simpa using h), rd?_at h]
        simp only [Option.bind_some, impl_areShort_1.f, p_areRunes p[i] 60 (hq _ (List.getElem_mem h))]
        rw [List.drop_eq_getElem_cons h, List.all_cons]
        have e : (decide ((p[i].length : Int) ≤ 60) && p[i].all okRune) = okShort p[i] := rfl
        rw [e]
        cases hr : okShort p[i] with
        | false => exact ⟨.ret i, by simp, by simp⟩
        | true =>
          simp only [Bool.not_true, Bool.false_eq_true, if_false, Bool.true_and]
          rw [wrapN i (by unfold big at hp; omega)]
          exact ih (i + 1) h (by omega)
      · rw [if_neg (by simpa using h)]
        exact ⟨_, rfl, by simp [List.drop_eq_nil_of_le (by omega : p.length ≤ i)]⟩
  obtain ⟨o, h1, h2⟩ := key (((p.length : Int) - 0).toNat + 2) 0 (by omega) (by omega)
  rw [show ((0 : Nat) : Int) = 0 from rfl] at h1
  rw [h1]
  rw [List.drop_zero] at h2
  cases hr : p.all okShort with
  | true =>
    rw [hr, if_pos rfl] at h2
    subst h2
    simp
  | false =>
    rw [hr] at h2
    obtain ⟨m, hm, rfl⟩ := h2
    simp [hm]
theorem p_l15List (p : List Int) (hp : p.length ≤ big) : spec_l15List.f p = some (okShort p) := by
  unfold spec_l15List.f okShort
  rw [p_allRunes p hp]
  simp only [Option.bind_some]
  generalize p.all okRune = b
  by_cases h2 : p.length ≤ 60 <;> by_cases h3 : p.length ≤ 1000 <;> cases b <;> simp [h2, h3] <;> omega
abbrev Ed := Int × List Int
def okLen (d : List Ed) : Prop := d.length ≤ big ∧ ∀ u ∈ d, u.2.length ≤ big
/-- What the marks of edits count. -/
def wEd : List Ed → Int
  | [] => 0
  | u :: us => 1 + u.2.length + wEd us
theorem wEd_cons (u : Ed) (us : List Ed) : wEd (u :: us) = 1 + u.2.length + wEd us := rfl
theorem wEd_pos : ∀ d : List Ed, 0 ≤ wEd d
  | [] => Int.le_refl _
  | u :: us => by have := wEd_pos us; rw [wEd_cons]; omega
theorem p_szEdit (u : Ed) (hu : u.2.length ≤ maxN) (n : Int) (h0 : 0 ≤ n) (h1 : n ≤ 1048576) : ∃ r, laws_szEdit.f u.1 u.2 n = some r ∧ (r < 0 ∨ 0 ≤ r ∧ r + u.2.length ≤ n) := by
  unfold laws_szEdit.f
  rw [p_szIntS u.2 n h0 h1 hu]
  simp only [Option.bind_some]
  by_cases h : (u.2.length : Int) ≤ n
  · rw [if_pos h, if_neg (by simp; omega)]; exact ⟨_, rfl, .inr ⟨by omega, by omega⟩⟩
  · rw [if_neg h, if_pos (by decide)]; exact ⟨_, rfl, .inl (by decide)⟩
theorem wEd_eq : ∀ d : List Ed, wEd d = d.length + sumW (fun u : Ed => (u.2.length : Int)) d
  | [] => rfl
  | u :: us => by
    have := wEd_eq us
    simp only [List.length_cons, wEd_cons, sumW]
    omega
theorem p_szEditS (d : List Ed) (hd : d.length ≤ maxN) (hu : ∀ u ∈ d, u.2.length ≤ maxN) (n : Int) (h0 : 0 ≤ n) (h1 : n ≤ 1048576) : ∃ r, laws_szEditS.f d n = some r ∧ (r < 0 ∨ 0 ≤ r ∧ r + wEd d ≤ n) := by
  rw [wEd_eq]
  exact sz_all d hd n h0 h1 (fun u n => laws_szEdit.f u.1 u.2 n) (fun u => u.2.length) (fun u hm n a b => p_szEdit u (hu u hm) n a b) (fun u _ => by omega) (laws_szEditS.l1 d) (((d.length : Int) - 0).toNat + 2) (by omega) fun _ _ _ => rfl
theorem wEd_ok {d : List Ed} (h : wEd d ≤ 1048576) : okLen d ∧ d.length ≤ 1048576 := by
  have hp : ∀ u ∈ d, 0 ≤ (u.2.length : Int) := fun u _ => by omega
  have h2 := wEd_eq d
  have h3 := sumW_pos (w := fun u : Ed => (u.2.length : Int)) hp
  exact ⟨⟨by unfold big; omega, fun u hu => by have := sumW_mem (w := fun u : Ed => (u.2.length : Int)) hp u hu; unfold big; omega⟩, by omega⟩
theorem p_toEditS (d : List Ed) (hd : okLen d) (hd2 : d.length ≤ 4398046511104) : laws_toEditS.f d = some d :=
  copy_all d hd.1 (fun u K => (laws_toEdit.f u.1 u.2).bind fun v => K (v.1, v.2)) (fun u hu K => by unfold laws_toEdit.f; rw [p_toIntS _ (hd.2 u hu)]; rfl) (laws_toEditS.l1 d) (0, []) (((d.length : Int) - 0).toNat + 2) 4398046511104 (by omega) hd2 fun _ _ _ => rfl
theorem p_eqEditS (p q : List Ed) (hp : okLen p) : laws_eqEditS.f p q = some (decide (p = q)) :=
  eqS_all p q hp.1 (fun u v => laws_eqEdit.f u.1 u.2 v.1 v.2) (fun u hu v => by
    unfold laws_eqEdit.f
    rw [p_eqIntS _ _ (hp.2 u hu)]
    obtain ⟨u1, u2⟩ := u
    obtain ⟨v1, v2⟩ := v
    by_cases h1 : u1 = v1 <;> by_cases h2 : u2 = v2 <;> simp [h1, h2]) (laws_eqEditS.l1 p q) (((p.length : Int) - 0).toNat + 2) (by omega) fun _ _ => rfl
def mEd (u : Ed) (c : Int) : Int × Ed := (c + 1 + u.2.length, (c, marks (c + 1) u.2.length))
def gEd (us : List Ed) (c : Int) : Prop := 0 ≤ c ∧ c + wEd us ≤ 1000000000000 ∧ okLen us
theorem gEd_step (u : Ed) (us : List Ed) (c : Int) (h : gEd (u :: us) c) : gEd us (mEd u c).1 := by
  obtain ⟨h0, h1, h2, h3⟩ := h
  rw [wEd_cons] at h1
  exact ⟨by simp only [mEd]; omega, by simp only [mEd]; omega, by simp at h2; omega, fun v hv => h3 v (List.mem_cons_of_mem _ hv)⟩
theorem p_markEditS (d : List Ed) (c : Int) (hg : gEd d c) : laws_markEditS.f d c = some (mAll mEd d c) := by
  unfold laws_markEditS.f
  have := mark_loop d.length hg.2.2.1 mEd gEd gEd_step (laws_markEditS.l1 d) (fun x c i K => (rd? x i).bind fun u106 => (st? x i (c, u106.2)).bind fun x108 => (rd? x108 i).bind fun u110 => (laws_markIntS.f u110.2 (IntKind.i64.wrap (c + 1))).bind fun u114 => (st? x108 i (u110.1, u114.2)).bind fun x116 => K x116 u114.1)
    (fun pre u us c K hg => by
      have hw := wEd_pos us
      obtain ⟨h0, h1, h2, h3⟩ := hg
      rw [wEd_cons] at h1
      have e1 : rd? (pre ++ u :: us) (pre.length : Int) = some u := by rw [rd?_at (by simp)]; simp
      rw [e1]
      simp only [Option.bind_some]
      rw [st?_at _ (by simp)]
      simp only [Option.bind_some]
      have e2 : (pre ++ u :: us).set pre.length (c, u.2) = pre ++ (c, u.2) :: us := by simp
      have e3 : rd? (pre ++ (c, u.2) :: us) (pre.length : Int) = some (c, u.2) := by rw [rd?_at (by simp)]; simp
      rw [e2, e3]
      simp only [Option.bind_some]
      rw [wrapS (by omega) (by omega), p_markIntS _ _ (by omega) (by omega) (h3 u (by simp))]
      simp only [Option.bind_some]
      rw [st?_at _ (by simp)]
      simp [mEd]) (fun _ _ _ _ => rfl) d [] c (((d.length : Int) - 0).toNat + 2) (by simp) (by omega) hg
  simp only [List.nil_append, List.length_nil] at this
  rw [show ((0 : Nat) : Int) = 0 from rfl] at this
  rw [this]
  rfl
theorem mEd_ge : ∀ (d : List Ed) (c : Int), (mAll mEd d c).1 = c + wEd d
  | [], c => by simp [mAll, wEd]
  | u :: us, c => by
    have := mEd_ge us (mEd u c).1
    simp only [mAll, this]
    simp only [mEd, wEd_cons]
    omega
def okEd (u : Ed) : Bool := (decide (1 ≤ u.1) && decide (u.1 ≤ 3)) && !((u.2.length : Int) == 0) && okShort u.2
theorem p_areEdits (d : List Ed) (hd : okLen d) : impl_areEdits.f d = some (decide ((d.length : Int) ≤ 120) && d.all okEd) := by
  unfold impl_areEdits.f slices_ContainsFunc_impl_Edit_impl_Edit_impl_areEdits_1.f slices_IndexFunc_impl_Edit_impl_Edit_impl_areEdits_1.f
  by_cases h : (d.length : Int) ≤ 120
  · rw [if_pos (by simpa using h)]
    have key : ∀ (k i : Nat), i ≤ d.length → d.length - i < k → ∃ o, slices_IndexFunc_impl_Edit_impl_Edit_impl_areEdits_1.l1 d k i = some o ∧ (if (d.drop i).all okEd then o = .go () else ∃ n : Int, 0 ≤ n ∧ o = .ret n) := by
      intro k
      induction k with
      | zero => intro i _ h; omega
      | succ k ih =>
        intro i hi hk
        rw [slices_IndexFunc_impl_Edit_impl_Edit_impl_areEdits_1.l1]
        by_cases h : i < d.length
        · rw [if_pos (by simpa using h), rd?_at h]
          have hm := List.getElem_mem h
          have e : impl_areEdits_1.f d[i].1 d[i].2 = some (!okEd d[i]) := by
            unfold impl_areEdits_1.f okEd
            rw [p_areShort [d[i].2] (by simp [big]) (by simpa using hd.2 _ hm)]
            simp only [p_inRange, Option.bind_some, List.all_cons, List.all_nil, Bool.and_true]
            cases (decide (1 ≤ d[i].1) && decide (d[i].1 ≤ 3)) <;> cases ((d[i].2.length : Int) == 0) <;> cases okShort d[i].2 <;> rfl
          simp only [Option.bind_some]
          rw [e]
          simp only [Option.bind_some]
          rw [List.drop_eq_getElem_cons h, List.all_cons]
          cases hr : okEd d[i] with
          | false => exact ⟨.ret i, by simp, by simp⟩
          | true =>
            simp only [Bool.not_true, Bool.false_eq_true, if_false, Bool.true_and]
            rw [wrapN i (by have := hd.1; unfold big at this; omega)]
            exact ih (i + 1) h (by omega)
        · rw [if_neg (by simpa using h)]
          exact ⟨_, rfl, by simp [List.drop_eq_nil_of_le (by omega : d.length ≤ i)]⟩
    obtain ⟨o, h1, h2⟩ := key (((d.length : Int) - 0).toNat + 2) 0 (by omega) (by omega)
    rw [show ((0 : Nat) : Int) = 0 from rfl] at h1
    rw [h1]
    rw [List.drop_zero] at h2
    cases hr : d.all okEd with
    | true =>
      rw [hr, if_pos rfl] at h2
      subst h2
      simp [h]
    | false =>
      rw [hr] at h2
      obtain ⟨m, hm, rfl⟩ := h2
      simp [hm]
  · rw [if_neg (by simpa using h)]
    simp [h]
theorem p_l15Edits (d : List Ed) (hd : okLen d) : spec_l15Edits.f d = some (decide ((d.length : Int) ≤ 120) && d.all okEd) := by
  unfold spec_l15Edits.f
  have key : ∀ (k i : Nat), i ≤ d.length → d.length - i < k → spec_l15Edits.l1 d k i = some (if (d.drop i).all okEd then .go () else .ret false) := by
    intro k
    induction k with
    | zero => intro i _ h; omega
    | succ k ih =>
      intro i hi hk
      rw [spec_l15Edits.l1]
      by_cases h : i < d.length
      · rw [if_pos (by simpa using h), rd?_at h]
        have hm := List.getElem_mem h
        simp only [Option.bind_some, p_l1In, p_l15List _ (hd.2 _ hm)]
        rw [List.drop_eq_getElem_cons h, List.all_cons]
        have e : ((if (!(decide (1 ≤ d[i].1) && decide (d[i].1 ≤ 3))) = true then some true else if ((d[i].2.length : Int) == 0) = true then some true else some (!okShort d[i].2)) : Option Bool) = some (!okEd d[i]) := by
          unfold okEd
          cases (decide (1 ≤ d[i].1) && decide (d[i].1 ≤ 3)) <;> cases ((d[i].2.length : Int) == 0) <;> cases okShort d[i].2 <;> rfl
        rw [e]
        cases hr : okEd d[i] with
        | false => simp
        | true =>
          simp only [Bool.not_true, Option.bind_some, Bool.false_eq_true, if_false, Bool.true_and]
          rw [wrapN i (by have := hd.1; unfold big at this; omega)]
          exact ih (i + 1) h (by omega)
      · rw [if_neg (by simpa using h)]
        simp [List.drop_eq_nil_of_le (by omega : d.length ≤ i)]
  have := key (((d.length : Int) - 0).toNat + 2) 0 (by omega) (by omega)
  rw [show ((0 : Nat) : Int) = 0 from rfl] at this
  rw [this, List.drop_zero]
  cases d.all okEd <;> simp
theorem p_l1Same (p q : List Int) (hp : p.length ≤ big) : spec_l1Same.f p q = some (decide (p = q)) :=
  eq_all p q hp (spec_l1Same.l1 p q) _ (by omega) fun _ _ _ => rfl
theorem p_Equal (p q : List Int) (hp : p.length ≤ big) : slices_Equal_int_int.f p q = some (decide (p = q)) :=
  eq_all p q hp (slices_Equal_int_int.l1 p q) _ (by omega) fun _ _ _ => rfl
theorem p_apply_l (d : List Ed) (hl : d.length ≤ 120) (hel : ∀ u ∈ d, u.2.length ≤ 60) : ∀ (k i : Nat) (out rest : List Int), i ≤ d.length → d.length - i < k → out.length ≤ 60 * i → rest.length ≤ 60 →
    ∃ o o', impl_ApplyDiff.l1 d k out rest i = some o ∧ spec_ApplyDiff.l1 d k rest out i = some o' ∧ ((∃ a b, o = .go (a, b) ∧ o' = .go (b, a) ∧ a.length ≤ 7200) ∨ (o = .ret ([], false) ∧ o' = .ret ([], false))) := by
  intro k
  induction k with
  | zero => intro i out rest _ h; omega
  | succ k ih =>
    intro i out rest hi hk ho hr
    rw [impl_ApplyDiff.l1, spec_ApplyDiff.l1]
    by_cases h : i < d.length
    · rw [if_pos (by simpa using h), if_pos (by simpa using h), rd?_at h]
      have hu := hel _ (List.getElem_mem h)
      generalize d[i] = u at hu
      obtain ⟨c, t⟩ := u
      simp only at hu
      simp only [Option.bind_some]
      have app : app? 17592186044416 out t = some (out ++ t) := app?_at (by omega)
      -- the step, both ways
      have fin : ∀ rest' : List Int, rest'.length ≤ 60 → ∃ o o', ((if (c != 2) = true then ((app? 17592186044416 out t).bind fun x871 => some (Lo.go (ρ := Lo (List Int × List Int) (List Int × Bool)) (x871, rest'))) else (some (Lo.go (out, rest')))).bind fun (o : Lo ((List (Int)) × (List (Int))) (Lo ((List (Int)) × (List (Int))) ((List (Int)) × Bool))) => match o with | .go (x805, x806) => (impl_ApplyDiff.l1 d k x805 x806 (IntKind.i64.wrap ((i : Int) + 1))) | .ret z => some z) = some o ∧
          ((if (c != 2) = true then ((app? 17592186044416 out t).bind fun x870 => some (Lo.go (ρ := Lo (List Int × List Int) (List Int × Bool)) (rest', x870))) else (some (Lo.go (rest', out)))).bind fun (o : Lo ((List (Int)) × (List (Int))) (Lo ((List (Int)) × (List (Int))) ((List (Int)) × Bool))) => match o with | .go (x804, x805) => (spec_ApplyDiff.l1 d k x804 x805 (IntKind.i64.wrap ((i : Int) + 1))) | .ret z => some z) = some o' ∧ ((∃ a b, o = .go (a, b) ∧ o' = .go (b, a) ∧ a.length ≤ 7200) ∨ (o = .ret ([], false) ∧ o' = .ret ([], false))) := by
        intro rest' hr'
        rw [app, wrapN i (by omega)]
        simp only [Option.bind_some]
        split
        · exact ih (i + 1) _ _ h (by omega) (by simp; omega) hr'
        · exact ih (i + 1) _ _ h (by omega) (by omega) hr'
      by_cases h3 : (c != 3) = true
      · rw [if_pos h3, if_pos h3]
        by_cases hlen : rest.length < t.length
        · rw [if_pos (by simpa using hlen), if_pos (by simpa using hlen)]
          exact ⟨_, _, rfl, rfl, .inr ⟨rfl, rfl⟩⟩
        · rw [if_neg (by simpa using hlen), if_neg (by simpa using hlen)]
          have e1 : cut? rest 0 (t.length : Int) = some (rest.take t.length) := by
            have := cut?_at (xs := rest) (a := 0) (b := t.length) (by omega) (by omega)
            rw [show ((0 : Nat) : Int) = 0 from rfl] at this
            simpa using this
          have e2 : cut? rest (t.length : Int) (rest.length : Int) = some (rest.drop t.length) := by
            have := cut?_at (xs := rest) (a := t.length) (b := rest.length) (by omega) (by omega)
            simpa using this
          rw [e1, e2]
          simp only [Option.bind_some]
          have hb : (rest.take t.length).length ≤ big := by simp [big]; omega
          rw [p_Equal _ _ hb, p_l1Same _ _ hb]
          simp only [Option.bind_some]
          by_cases hs : rest.take t.length = t
          · rw [if_neg (by simp [hs])]
            simp only [Option.bind_some]
            exact fin _ (by simp; omega)
          · rw [if_pos (by simp [hs])]
            exact ⟨_, _, rfl, rfl, .inr ⟨rfl, rfl⟩⟩
      · rw [if_neg h3, if_neg h3]
        simp only [Option.bind_some]
        exact fin _ hr
    · rw [if_neg (by simpa using h), if_neg (by simpa using h)]
      exact ⟨_, _, rfl, rfl, .inl ⟨_, _, rfl, rfl, by omega⟩⟩
theorem p_ApplyDiff (a : List Int) (d : List Ed) (ha : a.length ≤ big) (hd : okLen d) : ∃ r : List Int × Bool, impl_ApplyDiff.f a d = some r ∧ spec_ApplyDiff.f a d = some r ∧ r.1.length ≤ 7200 := by
  unfold impl_ApplyDiff.f spec_ApplyDiff.f
  rw [p_areEdits d hd, p_l15Edits d hd, p_areShort [a] (by simp [big]) (by simpa using ha), p_l15List a ha]
  simp only [Option.bind_some, List.all_cons, List.all_nil, Bool.and_true]
  cases h1 : okShort a with
  | false => exact ⟨_, rfl, rfl, by simp⟩
  | true =>
    simp only [Bool.not_true, Bool.false_eq_true, if_false]
    cases h : (decide ((d.length : Int) ≤ 120) && d.all okEd) with
    | false => exact ⟨_, rfl, rfl, by simp⟩
    | true =>
      simp only [Bool.not_true, Bool.false_eq_true, if_false, Option.bind_some]
      simp only [Bool.and_eq_true, decide_eq_true_eq, List.all_eq_true] at h
      obtain ⟨hl, hok⟩ := h
      have hel : ∀ u ∈ d, u.2.length ≤ 60 := fun u hu => by
        have := hok u hu
        simp only [okEd, okShort, Bool.and_eq_true, decide_eq_true_eq] at this
        omega
      simp only [okShort, Bool.and_eq_true, decide_eq_true_eq] at h1
      obtain ⟨o, o', f1, f2, f3⟩ := p_apply_l d (by omega) hel (((d.length : Int) - 0).toNat + 2) 0 [] a (by omega) (by omega) (by simp) (by omega)
      rw [show ((0 : Nat) : Int) = 0 from rfl] at f1 f2
      rw [f1, f2]
      simp only [Option.bind_some]
      rcases f3 with ⟨x, y, rfl, rfl, hx⟩ | ⟨rfl, rfl⟩
      · simp only []
        by_cases c1 : (y.length : Int) > 0
        · rw [if_pos (by simpa using c1)]
          exact ⟨_, rfl, rfl, by simp⟩
        · rw [if_neg (by simpa using c1)]
          simp only [Option.bind_some]
          split
          · exact ⟨_, rfl, rfl, by simp⟩
          · exact ⟨_, rfl, rfl, hx⟩
      · exact ⟨_, rfl, rfl, by simp⟩
theorem law_ApplyDiff (a : List Int) (d : List Ed) (_ : allW (inK .i64) a) (hd : allW (fun a => inK .i64 a.1 ∧ allW (inK .i64) a.2) d) : laws_FnExactApplyDiff.f a d = some true := by
  unfold laws_FnExactApplyDiff.f
  by_cases h1 : (a.length : Int) > 1048576
  · rw [if_pos (by simpa using h1)]
  rw [if_neg (by simpa using h1)]
  obtain ⟨u, e, hu⟩ := p_szEditS d hd.1 (fun u hu => (hd.2 u hu).2.1) 1048576 (by decide) (by decide)
  rw [e]
  simp only [Option.bind_some]
  by_cases h0 : u < 0
  · rw [if_pos (by simpa using h0)]
  rw [if_neg (by simpa using h0)]
  rcases hu with hu | ⟨_, hl⟩
  · exact absurd hu h0
  obtain ⟨hok, hl2⟩ := wEd_ok (d := d) (by omega)
  have ha : a.length ≤ big := by unfold big; omega
  obtain ⟨r, e1, e2, e3⟩ := p_ApplyDiff a d ha hok
  have hr : r.1.length ≤ big := by unfold big; omega
  have w0 := wEd_pos d
  have g1 : gEd d (1 + a.length) := ⟨by omega, by omega, hok⟩
  have m1 := p_markIntS a 1 (by omega) (by omega) ha
  have m3 := p_markIntS r.1 1 (by omega) (by omega) hr
  have m4 := p_heldIntS r.1.length 1 (by omega) (by omega) hr
  have n1 : ¬ ((mAll mEd d (1 + a.length)).1 < 0) := by rw [mEd_ge]; omega
  have n2 : ¬ (1 + (r.1.length : Int) < 0) := by omega
  simp [p_toIntS a ha, p_toEditS d hok (by omega), e1, e2, p_eqIntS a a ha, p_eqIntS r.1 r.1 hr, p_eqEditS d d hok, m1, p_markEditS d _ g1, m3, m4, n1, n2]
end Go.Proofs.Ytopecknfnhocpaa
