/- Plain laws of the printed functions. Conditions as each lemma says. -/
import Derived.Test.YtopecknfnhocpaaPB
import Derived.Test.YtopecknfnhocpaaWPutBuf2
set_option linter.unusedVariables false
set_option linter.unusedSimpArgs false
namespace Go.Proofs.Ytopecknfnhocpaa
open Go Go.Proofs.GL
theorem p_l1In (a b c : Int) : spec_l1In.f a b c = some (decide (b ≤ a) && decide (a ≤ c)) := by
  unfold spec_l1In.f
  by_cases h : b ≤ a
  · rw [if_pos (by simpa using h)]; simp [h]
  · rw [if_neg (by simpa using h)]; simp [h]
theorem p_inRange (a b c : Int) : impl_inRange.f a b c = some (decide (b ≤ a) && decide (a ≤ c)) := by
  unfold impl_inRange.f
  by_cases h : b ≤ a
  · rw [if_pos (by simpa using h)]; simp [h]
  · rw [if_neg (by simpa using h)]; simp [h]
def okRune (r : Int) : Bool := decide (0 ≤ r) && decide (r ≤ 1114111) && !(decide (55296 ≤ r) && decide (r ≤ 57343))
theorem p_specRune (r : Int) : spec_GoodRune.f r = some (okRune r) := by
  unfold spec_GoodRune.f okRune
  simp only [p_l1In, Option.bind_some]
  cases (decide (0 ≤ r) && decide (r ≤ 1114111)) <;> rfl
theorem p_implRune (r : Int) : impl_GoodRune.f r = some (okRune r) := by
  unfold impl_GoodRune.f okRune
  simp only [p_inRange, Option.bind_some]
  cases (decide (0 ≤ r) && decide (r ≤ 1114111)) <;> rfl
theorem p_allRunes (p : List Int) (hp : p.length ≤ big) : spec_l1AllRunes.f p = some (p.all okRune && decide (p.length ≤ 1000)) := by
  unfold spec_l1AllRunes.f
  have := all_loop p hp (fun u => !okRune u) false (spec_l1AllRunes.l1 p) (fun k i => by rw [spec_l1AllRunes.l1]; simp only [p_specRune, Option.bind_some]) (((p.length : Int) - 0).toNat + 2) 0 (by omega) (by omega)
  rw [show ((0 : Nat) : Int) = 0 from rfl] at this
  rw [this, List.drop_zero]
  have e : p.any (fun u => !okRune u) = !p.all okRune := by rw [List.all_eq_not_any_not]; simp
  rw [e]
  cases h : p.all okRune <;> simp
  omega
theorem p_areRunes (p : List Int) (n : Int) (hp : p.length ≤ big) : impl_areRunes.f p n = some (decide ((p.length : Int) ≤ n) && p.all okRune) := by
  unfold impl_areRunes.f slices_ContainsFunc_int_int_impl_areRunes_1.f slices_IndexFunc_int_int_impl_areRunes_1.f
  by_cases h : (p.length : Int) ≤ n
  · rw [if_pos (by simpa using h)]
    have := scan_loop p hp (fun u => !okRune u) (fun i _ => i) (slices_IndexFunc_int_int_impl_areRunes_1.l1 p) (fun k i => by rw [slices_IndexFunc_int_int_impl_areRunes_1.l1]; simp only [impl_areRunes_1.f, p_implRune, Option.bind_some]) (((p.length : Int) - 0).toNat + 2) 0 (by omega) (by omega)
    rw [show ((0 : Nat) : Int) = 0 from rfl] at this
    rw [this, List.drop_zero]
    have e : p.all okRune = !(p.any fun u => !okRune u) := List.all_eq_not_any_not
    rw [e]
    cases hf : p.findIdx? (fun u => !okRune u) with
    | none =>
      have : p.any (fun u => !okRune u) = false := by
        rw [List.findIdx?_eq_none_iff] at hf
        simpa using hf
      rw [this]; simp [h]
    | some j =>
      obtain ⟨hj, h1, h2⟩ := List.findIdx?_eq_some_iff_getElem.1 hf
      have : p.any (fun u => !okRune u) = true := List.any_eq_true.2 ⟨_, List.getElem_mem hj, h1⟩
      rw [this]
      simp [hj]
  · rw [if_neg (by simpa using h)]
    simp [h]
theorem p_l1All (p : List Int) (a b : Int) (hp : p.length ≤ big) : spec_l1All.f p a b = some (p.all fun u => decide (a ≤ u) && decide (u ≤ b)) := by
  unfold spec_l1All.f
  have := all_loop p hp (fun u => !(decide (a ≤ u) && decide (u ≤ b))) false (spec_l1All.l1 p a b) (fun k i => by rw [spec_l1All.l1]; simp only [p_l1In, Option.bind_some]) (((p.length : Int) - 0).toNat + 2) 0 (by omega) (by omega)
  rw [show ((0 : Nat) : Int) = 0 from rfl] at this
  rw [this, List.drop_zero]
  have e : p.any (fun u => !(decide (a ≤ u) && decide (u ≤ b))) = !p.all fun u => decide (a ≤ u) && decide (u ≤ b) := by rw [List.all_eq_not_any_not]; simp
  rw [e]
  cases h : p.all fun u => decide (a ≤ u) && decide (u ≤ b) <;> simp
def okLong (u : Int) : Bool := decide (1 ≤ u) && decide (u ≤ 1000)
theorem p_longs (p : List Int) (hp : p.length ≤ big) : slices_ContainsFunc_int_int_impl_GoodBuf_1.f p = some (!p.all okLong) := by
  unfold slices_ContainsFunc_int_int_impl_GoodBuf_1.f slices_IndexFunc_int_int_impl_GoodBuf_1.f
  have e1 : ∀ u, impl_GoodBuf_1.f u = some (!okLong u) := fun u => by
    unfold impl_GoodBuf_1.f okLong
    simp only [p_inRange, Option.bind_some]
  have := scan_loop p hp (fun u => !okLong u) (fun i _ => i) (slices_IndexFunc_int_int_impl_GoodBuf_1.l1 p) (fun k i => by rw [slices_IndexFunc_int_int_impl_GoodBuf_1.l1]; simp only [e1, Option.bind_some]) (((p.length : Int) - 0).toNat + 2) 0 (by omega) (by omega)
  rw [show ((0 : Nat) : Int) = 0 from rfl] at this
  rw [this, List.drop_zero]
  have e : p.all okLong = !(p.any fun u => !okLong u) := List.all_eq_not_any_not
  rw [e, Bool.not_not]
  cases hf : p.findIdx? (fun u => !okLong u) with
  | none =>
    have : p.any (fun u => !okLong u) = false := by
      rw [List.findIdx?_eq_none_iff] at hf
      simpa using hf
    rw [this]; simp
  | some j =>
    obtain ⟨hj, h1, h2⟩ := List.findIdx?_eq_some_iff_getElem.1 hf
    have : p.any (fun u => !okLong u) = true := List.any_eq_true.2 ⟨_, List.getElem_mem hj, h1⟩
    rw [this]
    simp [hj]
def okBuf (m : Int) (rs ls : List Int) (g : Int) : Bool := (decide (1 ≤ m) && decide (m ≤ 60)) && decide ((rs.length : Int) ≤ m) && rs.all okRune && ((ls.length : Int) == (rs.length : Int)) && ls.all okLong && (decide (0 ≤ g) && decide (g ≤ 1000000))
theorem p_implBuf (m : Int) (rs ls : List Int) (g : Int) (hr : rs.length ≤ big) (hl : ls.length ≤ big) : impl_GoodBuf.f m rs ls g = some (okBuf m rs ls g) := by
  unfold impl_GoodBuf.f okBuf
  simp only [p_inRange, Option.bind_some, p_areRunes rs m hr, p_longs ls hl]
  generalize (decide (1 ≤ m) && decide (m ≤ 60)) = b1
  generalize decide ((rs.length : Int) ≤ m) = b2
  generalize rs.all okRune = b3
  generalize ((ls.length : Int) == (rs.length : Int)) = b4
  generalize ls.all okLong = b5
  generalize (decide (0 ≤ g) && decide (g ≤ 1000000)) = b6
  cases b1 <;> cases b2 <;> cases b3 <;> cases b4 <;> cases b5 <;> cases b6 <;> rfl
theorem p_specBuf (m : Int) (rs ls : List Int) (g : Int) (hr : rs.length ≤ big) (hl : ls.length ≤ big) : spec_GoodBuf.f m rs ls g = some (okBuf m rs ls g) := by
  unfold spec_GoodBuf.f okBuf
  simp only [p_l1In, Option.bind_some, p_allRunes rs hr, p_l1All ls 1 1000 hl]
  have e : (ls.all fun u => decide (1 ≤ u) && decide (u ≤ 1000)) = ls.all okLong := rfl
  rw [e]
  by_cases h1 : (rs.length : Int) ≤ m ∧ m ≤ 60
  · have h2 : rs.length ≤ 1000 := by omega
    simp only [h1, h2, decide_true, Bool.and_true]
    generalize decide (1 ≤ m) = b1
    generalize rs.all okRune = b3
    generalize ((ls.length : Int) == (rs.length : Int)) = b4
    generalize ls.all okLong = b5
    generalize (decide (0 ≤ g) && decide (g ≤ 1000000)) = b6
    cases b1 <;> cases b3 <;> cases b4 <;> cases b5 <;> cases b6 <;> rfl
  · by_cases h2 : m ≤ 60
    · have h3 : ¬ (rs.length : Int) ≤ m := fun h => h1 ⟨h, h2⟩
      simp only [h2, h3, decide_true, decide_false]
      cases decide (1 ≤ m) <;> simp
    · simp [h2]
theorem p_eqIntS (p q : List Int) (hp : p.length ≤ big) : laws_eqIntS.f p q = some (decide (p = q)) :=
  eq_all p q hp (laws_eqIntS.l1 p q) _ (by omega) fun _ _ _ => rfl
theorem p_toIntS_l (p : List Int) (hp : p.length ≤ big) : ∀ (k i : Nat) (x : List Int), i ≤ p.length → p.length - i < k → x.length = p.length → x.take i = p.take i → laws_toIntS.l1 p k x i = some p := by
  intro k
  induction k with
  | zero => intro i x _ h; omega
  | succ k ih =>
    intro i x hi hk hl ht
    rw [laws_toIntS.l1]
    by_cases h : i < p.length
    · rw [if_pos (by simpa using h), rd?_at h]
      simp only [Option.bind_some]
      rw [rd?_at (by omega : i < x.length)]
      simp only [Option.bind_some]
      rw [st?_at p[i] (by omega : i < x.length)]
      simp only [Option.bind_some]
      rw [wrapN i (by unfold big at hp; omega)]
      refine ih (i + 1) _ h (by omega) (by simpa using hl) ?_
      rw [List.take_add_one, List.take_add_one, List.take_set_of_le (Nat.le_refl i), ht]
      simp [h, hl]
    · rw [if_neg (by simpa using h)]
      obtain rfl : i = p.length := by omega
      rw [List.take_length, ← hl, List.take_length] at ht
      rw [ht]
theorem p_toIntS (p : List Int) (hp : p.length ≤ big) : laws_toIntS.f p = some p := by
  unfold laws_toIntS.f
  rw [mk?_at (by unfold big at hp; omega)]
  simp only [Option.bind_some]
  have := p_toIntS_l p hp (((p.length : Int) - 0).toNat + 2) 0 (List.replicate p.length 0) (by omega) (by omega) (by simp) (by simp)
  rw [show ((0 : Nat) : Int) = 0 from rfl] at this
  rw [this]
  rfl
theorem p_szIntS (p : List Int) (n : Int) (h0 : 0 ≤ n) (h1 : n ≤ 1048576) (hp : p.length ≤ maxN) : laws_szIntS.f p n = some (if (p.length : Int) ≤ n then n - p.length else -1) := by
  unfold laws_szIntS.f
  unfold maxN at hp
  rw [wrapS (by omega) (by omega)]
  by_cases h : (p.length : Int) ≤ n
  · rw [if_neg (by simp; omega), if_pos h]
  · rw [if_pos (by simp; omega), if_neg h]
def marks (k : Int) (n : Nat) : List Int := (List.range n).map fun i : Nat => k + i
theorem marks_len (k : Int) (n : Nat) : (marks k n).length = n := by simp [marks]
theorem marks_get (k : Int) (n i : Nat) (h : i < n) : (marks k n)[i]? = some (k + i) := by simp [marks, h]
theorem p_markIntS_l (p : List Int) (k0 : Int) (h0 : 0 ≤ k0) (h1 : k0 ≤ 1000000000000) (hp : p.length ≤ big) : ∀ (k i : Nat) (x : List Int), i ≤ p.length → p.length - i < k → x.length = p.length → x.take i = (marks k0 p.length).take i → laws_markIntS.l1 p k x (k0 + i) i = some (k0 + p.length, marks k0 p.length) := by
  intro k
  induction k with
  | zero => intro i x _ h; omega
  | succ k ih =>
    intro i x hi hk hl ht
    rw [laws_markIntS.l1]
    by_cases h : i < p.length
    · rw [if_pos (by simpa using h), rd?_at (by omega : i < x.length)]
      simp only [Option.bind_some]
      rw [st?_at _ (by omega : i < x.length)]
      simp only [Option.bind_some]
      unfold big at hp
      rw [wrapN i (by omega), wrapS (by omega) (by omega), show k0 + (i : Int) + 1 = k0 + ((i + 1 : Nat) : Int) by omega]
      refine ih (i + 1) _ h (by omega) (by simpa using hl) ?_
      rw [List.take_add_one, List.take_add_one, List.take_set_of_le (Nat.le_refl i), ht, marks_get _ _ _ h]
      simp [h, hl]
    · rw [if_neg (by simpa using h)]
      obtain rfl : i = p.length := by omega
      rw [List.take_of_length_le (l := x) (by omega), List.take_of_length_le (l := marks k0 p.length) (by rw [marks_len]; omega)] at ht
      rw [ht]
theorem p_markIntS (p : List Int) (k0 : Int) (h0 : 0 ≤ k0) (h1 : k0 ≤ 1000000000000) (hp : p.length ≤ big) : laws_markIntS.f p k0 = some (k0 + p.length, marks k0 p.length) := by
  unfold laws_markIntS.f
  have := p_markIntS_l p k0 h0 h1 hp (((p.length : Int) - 0).toNat + 2) 0 p (by omega) (by omega) rfl (by simp)
  rw [show ((0 : Nat) : Int) = 0 from rfl, Int.add_zero] at this
  rw [this]
  rfl
theorem p_heldIntS_l (n : Nat) (k0 : Int) (h0 : 0 ≤ k0) (h1 : k0 ≤ 1000000000000) (hp : n ≤ big) : ∀ (k i : Nat), i ≤ n → n - i < k → laws_heldIntS.l1 (marks k0 n) k (k0 + i) i = some (.go (k0 + n)) := by
  intro k
  induction k with
  | zero => intro i _ h; omega
  | succ k ih =>
    intro i hi hk
    rw [laws_heldIntS.l1, marks_len]
    by_cases h : i < n
    · have hm := rd?_at (xs := marks k0 n) (i := i) (by rw [marks_len]; exact h)
      have hg : (marks k0 n)[i]'(by rw [marks_len]; exact h) = k0 + i := by simp [marks]
      rw [if_pos (by simpa using h), hm, hg]
      simp only [Option.bind_some]
      unfold big at hp
      rw [if_neg (by simp), wrapN i (by omega), wrapS (by omega) (by omega), show k0 + (i : Int) + 1 = k0 + ((i + 1 : Nat) : Int) by omega]
      exact ih (i + 1) h (by omega)
    · rw [if_neg (by simpa using h)]
      obtain rfl : i = n := by omega
      rfl
theorem p_heldIntS (n : Nat) (k0 : Int) (h0 : 0 ≤ k0) (h1 : k0 ≤ 1000000000000) (hp : n ≤ big) : laws_heldIntS.f (marks k0 n) k0 = some (k0 + n) := by
  unfold laws_heldIntS.f
  have := p_heldIntS_l n k0 h0 h1 hp ((((marks k0 n).length : Int) - 0).toNat + 2) 0 (by omega) (by rw [marks_len]; omega)
  rw [show ((0 : Nat) : Int) = 0 from rfl, Int.add_zero] at this
  rw [this]
  rfl
theorem p_szBuf (m : Int) (rs ls : List Int) (g : Int) (n : Int) (h0 : 0 ≤ n) (h1 : n ≤ 1048576) (hr : rs.length ≤ maxN) (hl : ls.length ≤ maxN) : ∃ u, laws_szBuf.f m rs ls g n = some u ∧ (u < 0 ∨ 0 ≤ u ∧ u + (rs.length + ls.length) ≤ n) := by
  unfold laws_szBuf.f
  rw [p_szIntS rs n h0 h1 hr]
  simp only [Option.bind_some]
  by_cases h : (rs.length : Int) ≤ n
  · rw [if_pos h, if_neg (by simp; omega), p_szIntS ls _ (by omega) (by omega) hl]
    simp only [Option.bind_some]
    by_cases h2 : (ls.length : Int) ≤ n - rs.length
    · rw [if_pos h2, if_neg (by simp; omega)]; exact ⟨_, rfl, .inr ⟨by omega, by omega⟩⟩
    · rw [if_neg h2, if_pos (by decide)]; exact ⟨_, rfl, .inl (by decide)⟩
  · rw [if_neg h, if_pos (by decide)]; exact ⟨_, rfl, .inl (by decide)⟩
theorem p_toBuf (m : Int) (rs ls : List Int) (g : Int) (hr : rs.length ≤ big) (hl : ls.length ≤ big) : laws_toBuf.f m rs ls g = some (m, rs, ls, g) := by
  unfold laws_toBuf.f
  rw [p_toIntS rs hr, p_toIntS ls hl]
  rfl
theorem p_eqBuf (m : Int) (rs ls : List Int) (g : Int) (hr : rs.length ≤ big) (hl : ls.length ≤ big) : laws_eqBuf.f m rs ls g m rs ls g = some true := by
  unfold laws_eqBuf.f
  rw [p_eqIntS rs rs hr, p_eqIntS ls ls hl]
  simp
theorem p_markBuf (m : Int) (rs ls : List Int) (g : Int) (c : Int) (h0 : 0 ≤ c) (h1 : c + rs.length ≤ 1000000000000) (hr : rs.length ≤ big) (hl : ls.length ≤ big) : laws_markBuf.f m rs ls g c = some (c + rs.length + ls.length, marks c rs.length, marks (c + rs.length) ls.length) := by
  unfold laws_markBuf.f
  rw [p_markIntS rs c h0 (by omega) hr]
  simp only [Option.bind_some]
  rw [p_markIntS ls _ (by omega) h1 hl]
  rfl
theorem p_heldBuf (m : Int) (n k : Nat) (g : Int) (c : Int) (h0 : 0 ≤ c) (h1 : c + n ≤ 1000000000000) (hn : n ≤ big) (hk : k ≤ big) : laws_heldBuf.f m (marks c n) (marks (c + n) k) g c = some (c + n + k) := by
  unfold laws_heldBuf.f
  rw [p_heldIntS n c h0 (by omega) hn]
  simp only [Option.bind_some]
  rw [if_neg (by simp; omega), p_heldIntS k _ (by omega) h1 hk]
  simp only [Option.bind_some]
  rw [if_neg (by simp; omega)]
theorem p_own (x : List Int) (hx : x.length ≤ big) : spec_l1Own.f x = some x := by
  unfold spec_l1Own.f
  unfold big at hx
  rw [app?_at (by simpa using hx)]
  rfl
theorem p_clone (x : List Int) (hx : x.length ≤ big) : slices_Clone_int_int.f x = some x := by
  unfold slices_Clone_int_int.f
  unfold big at hx
  rw [app?_at (by simpa using hx)]
  rfl
def addAll (s : Int) (xs : List Int) : Int := xs.foldl (fun s u => IntKind.i64.wrap (s + u)) s
theorem p_bytes (x : List Int) (hx : x.length ≤ big) (g : Int) : impl_Buf_bytes.l1 x (((x.length : Int) - 0).toNat + 2) g 0 = some (addAll g x) := by
  have := run_loop x hx (fun s u K => K (IntKind.i64.wrap (s + u))) (fun s => some s) (impl_Buf_bytes.l1 x) (fun _ _ _ => rfl) (((x.length : Int) - 0).toNat + 2) 0 g (by omega) (by omega)
  rw [show ((0 : Nat) : Int) = 0 from rfl] at this
  rw [this, List.drop_zero, runS_fold (fun s u => IntKind.i64.wrap (s + u))]
  rfl
theorem p_dropSum (x : List Int) (hx : x.length ≤ big) (g : Int) : spec_l10Drop.l1 x (((x.length : Int) - 0).toNat + 2) 0 g = some (addAll g x) := by
  have := run_loop x hx (fun s u K => K (IntKind.i64.wrap (s + u))) (fun s => some s) (fun k s i => spec_l10Drop.l1 x k i s) (fun _ _ _ => rfl) (((x.length : Int) - 0).toNat + 2) 0 g (by omega) (by omega)
  rw [show ((0 : Nat) : Int) = 0 from rfl] at this
  rw [this, List.drop_zero, runS_fold (fun s u => IntKind.i64.wrap (s + u))]
  rfl
theorem cut0 {x : List Int} {n : Nat} (h : n ≤ x.length) : cut? x 0 (n : Int) = some (x.take n) := by
  have := cut?_at (xs := x) (a := 0) (b := n) (by omega) h
  rw [show ((0 : Nat) : Int) = 0 from rfl] at this
  simpa using this
theorem cutE {x : List Int} {n : Nat} (h : n ≤ x.length) : cut? x (n : Int) (x.length : Int) = some (x.drop n) := by
  have := cut?_at (xs := x) (a := n) (b := x.length) h (by omega)
  simpa using this
theorem p_take (m : Int) (rs ls : List Int) (g : Int) (n : Nat) (hn : n ≤ rs.length) (hl : n ≤ ls.length) (h1 : rs.length ≤ big) (h2 : ls.length ≤ big) : impl_Buf_take.f m rs ls g n = some (rs.take n, rs.drop n, ls.drop n, addAll g (ls.take n)) := by
  unfold impl_Buf_take.f impl_Buf_bytes.f
  rw [cut0 hn, cut0 hl, cutE hn, cutE hl]
  simp only [Option.bind_some]
  rw [p_clone _ (by simp; omega), p_bytes _ (by simp; omega), p_clone _ (by simp; omega), p_clone _ (by simp; omega)]
  rfl
theorem p_drop (m : Int) (rs ls : List Int) (g : Int) (n : Nat) (hn : n ≤ rs.length) (hl : n ≤ ls.length) (h1 : rs.length ≤ big) (h2 : ls.length ≤ big) : spec_l10Drop.f m rs ls g n = some (m, rs.drop n, ls.drop n, addAll g (ls.take n), rs.take n) := by
  unfold spec_l10Drop.f
  rw [cut0 hn, cut0 hl, cutE hn, cutE hl]
  simp only [Option.bind_some]
  rw [p_own _ (by simp; omega), p_own _ (by simp; omega), p_own _ (by simp; omega)]
  simp only [Option.bind_some]
  rw [p_dropSum _ (by simp; omega)]
  rfl
theorem p_grow (n : Nat) (hn : n ≤ big) : slices_Grow_int_int_nil.f (n : Int) = some [] := by
  unfold slices_Grow_int_int_nil.f
  unfold big at hn
  have e0 : IntKind.i64.wrap (0 - 0) = 0 := by decide
  have e1 : IntKind.i64.wrap ((n : Int) - 0) = n := by rw [Int.sub_zero]; exact wrapS (by omega) (by omega)
  rw [if_neg (by simp), e0, e1]
  by_cases h : 0 < n
  · rw [if_pos (by simpa using h), mk?_at (by omega)]
    have c1 : cut? ([] : List Int) 0 0 = some [] := cut0 (x := []) (n := 0) (by simp)
    have c2 : cut? (List.replicate n (0 : Int)) 0 0 = some [] := by simpa using cut0 (x := List.replicate n (0 : Int)) (n := 0) (by simp)
    rw [c1]
    simp only [Option.bind_some]
    rw [c2]
    rfl
  · rw [if_neg (by simpa using h)]
    rfl
theorem p_concat (a b : List Int) (h : a.length + b.length ≤ big) : slices_Concat_int_int.f [a, b] = some (a ++ b) := by
  have hh : a.length + b.length ≤ big := h
  unfold big at h
  have l1 : slices_Concat_int_int.l1 [a, b] 4 0 0 = some (((a.length + b.length : Nat)) : Int) := by
    rw [slices_Concat_int_int.l1]
    have w1 : IntKind.i64.wrap (0 + (a.length : Int)) = a.length := by rw [Int.zero_add]; exact wrapS (by omega) (by omega)
    have w2 : IntKind.i64.wrap ((a.length : Int) + (b.length : Int)) = ((a.length + b.length : Nat) : Int) := by rw [wrapS (by omega) (by omega)]; omega
    have i1 : IntKind.i64.wrap (0 + 1) = 1 := by decide
    have i2 : IntKind.i64.wrap (1 + 1) = 2 := by decide
    have r0 : rd? [a, b] 0 = some a := rd?_at (xs := [a, b]) (i := 0) (by simp)
    have r1 : rd? [a, b] 1 = some b := rd?_at (xs := [a, b]) (i := 1) (by simp)
    rw [if_pos (by simp), r0]
    simp only [Option.bind_some]
    rw [w1, if_neg (by simp), i1, slices_Concat_int_int.l1, if_pos (by simp), r1]
    simp only [Option.bind_some]
    rw [w2, if_neg (by simp; omega), i2, slices_Concat_int_int.l1, if_neg (by simp)]
  have l2 : slices_Concat_int_int.l2 [a, b] 4 [] 0 = some (a ++ b) := by
    have i1 : IntKind.i64.wrap (0 + 1) = 1 := by decide
    have i2 : IntKind.i64.wrap (1 + 1) = 2 := by decide
    have r0 : rd? [a, b] 0 = some a := rd?_at (xs := [a, b]) (i := 0) (by simp)
    have r1 : rd? [a, b] 1 = some b := rd?_at (xs := [a, b]) (i := 1) (by simp)
    rw [slices_Concat_int_int.l2, if_pos (by simp), r0]
    simp only [Option.bind_some]
    rw [app?_at (by simp; omega)]
    simp only [Option.bind_some, List.nil_append]
    rw [i1, slices_Concat_int_int.l2, if_pos (by simp), r1]
    simp only [Option.bind_some]
    rw [app?_at (by omega)]
    simp only [Option.bind_some]
    rw [i2, slices_Concat_int_int.l2, if_neg (by simp)]
  unfold slices_Concat_int_int.f
  show (slices_Concat_int_int.l1 [a, b] 4 0 0).bind _ = _
  rw [l1]
  simp only [Option.bind_some]
  rw [p_grow _ hh]
  simp only [Option.bind_some]
  show (slices_Concat_int_int.l2 [a, b] 4 [] 0).bind _ = _
  rw [l2]
  rfl
theorem p_most (a b : Int) : spec_l1Most.f a b = some (max a b) := by
  unfold spec_l1Most.f
  by_cases h : a > b
  · rw [if_pos (by simpa using h), Int.max_eq_left (by omega)]
  · rw [if_neg (by simpa using h), Int.max_eq_right (by omega)]
def over (m : Int) (xs : List Int) : Nat := (max 0 ((xs.length : Int) - m)).toNat
theorem p_bufPut (m : Int) (rs ls : List Int) (g : Int) (p q : List Int) (h0 : 0 ≤ m) (hm : m ≤ 1000) (h1 : rs.length + p.length ≤ big) (h2 : rs.length = ls.length) (h3 : p.length = q.length) :
    impl_Buf_put.f m rs ls g p q = some ((rs ++ p).take (over m (rs ++ p)), okBuf m ((rs ++ p).drop (over m (rs ++ p))) ((ls ++ q).drop (over m (rs ++ p))) (addAll g ((ls ++ q).take (over m (rs ++ p)))), (rs ++ p).drop (over m (rs ++ p)), (ls ++ q).drop (over m (rs ++ p)), addAll g ((ls ++ q).take (over m (rs ++ p)))) ∧
    spec_l10Put.f m rs ls g p q = some (m, (rs ++ p).drop (over m (rs ++ p)), (ls ++ q).drop (over m (rs ++ p)), addAll g ((ls ++ q).take (over m (rs ++ p))), (rs ++ p).take (over m (rs ++ p))) := by
  have hb : rs.length + p.length ≤ 1099511627776 ∨ True := .inr trivial
  have hw : IntKind.i64.wrap (((rs ++ p).length : Int) - m) = ((rs ++ p).length : Int) - m := by
    unfold big at h1
    exact wrapS (by simp; omega) (by simp; omega)
  have hk : max 0 (((rs ++ p).length : Int) - m) = ((over m (rs ++ p) : Nat) : Int) := by unfold over; omega
  have hk1 : over m (rs ++ p) ≤ (rs ++ p).length := by unfold over; omega
  have hk2 : over m (rs ++ p) ≤ (ls ++ q).length := by rw [List.length_append, ← h2, ← h3, ← List.length_append]; exact hk1
  have b1 : (rs ++ p).length ≤ big := by simpa using h1
  have b2 : (ls ++ q).length ≤ big := by simp; omega
  constructor
  · unfold impl_Buf_put.f
    rw [p_concat rs p h1, p_concat ls q (by omega)]
    simp only [Option.bind_some]
    rw [hw, hk, p_take m _ _ g _ hk1 hk2 b1 b2]
    simp only [Option.bind_some]
    rw [p_implBuf _ _ _ _ (by rw [List.length_drop]; omega) (by rw [List.length_drop]; omega)]
    rfl
  · unfold spec_l10Put.f
    rw [p_own rs (by omega), p_own ls (by omega)]
    have a1 : app? 17592186044416 rs p = some (rs ++ p) := app?_at (by unfold big at h1; omega)
    have a2 : app? 17592186044416 ls q = some (ls ++ q) := app?_at (by unfold big at h1; omega)
    simp only [Option.bind_some, a1, a2, p_most]
    rw [hw, hk, p_drop m _ _ g _ hk1 hk2 b1 b2]
    rfl
theorem p_longs2 (p : List Int) (hp : p.length ≤ big) : slices_ContainsFunc_int_int_impl_PutBuf_1.f p = some (!p.all okLong) := by
  unfold slices_ContainsFunc_int_int_impl_PutBuf_1.f slices_IndexFunc_int_int_impl_PutBuf_1.f
  have e1 : ∀ u, impl_PutBuf_1.f u = some (!okLong u) := fun u => by
    unfold impl_PutBuf_1.f okLong
    simp only [p_inRange, Option.bind_some]
  have := scan_loop p hp (fun u => !okLong u) (fun i _ => i) (slices_IndexFunc_int_int_impl_PutBuf_1.l1 p) (fun k i => by rw [slices_IndexFunc_int_int_impl_PutBuf_1.l1]; simp only [e1, Option.bind_some]) (((p.length : Int) - 0).toNat + 2) 0 (by omega) (by omega)
  rw [show ((0 : Nat) : Int) = 0 from rfl] at this
  rw [this, List.drop_zero]
  have e : p.all okLong = !(p.any fun u => !okLong u) := List.all_eq_not_any_not
  rw [e, Bool.not_not]
  cases hf : p.findIdx? (fun u => !okLong u) with
  | none =>
    have : p.any (fun u => !okLong u) = false := by
      rw [List.findIdx?_eq_none_iff] at hf
      simpa using hf
    rw [this]; simp
  | some j =>
    obtain ⟨hj, h1, h2⟩ := List.findIdx?_eq_some_iff_getElem.1 hf
    have : p.any (fun u => !okLong u) = true := List.any_eq_true.2 ⟨_, List.getElem_mem hj, h1⟩
    rw [this]
    simp [hj]
theorem p_PutBuf (m : Int) (rs ls : List Int) (g : Int) (p q : List Int) (hr : rs.length ≤ big) (hl : ls.length ≤ big) (hp : p.length ≤ big) (hq : q.length ≤ big) : ∃ r : Int × List Int × List Int × Int × List Int × Bool, impl_PutBuf.f m rs ls g p q = some r ∧ spec_PutBuf.f m rs ls g p q = some r ∧ r.2.1.length ≤ 2000 ∧ r.2.2.1.length ≤ 2000 ∧ r.2.2.2.2.1.length ≤ 2000 := by
  unfold impl_PutBuf.f spec_PutBuf.f
  have e : (q.all fun u => decide (1 ≤ u) && decide (u ≤ 1000)) = q.all okLong := rfl
  simp only [p_implBuf m rs ls g hr hl, p_specBuf m rs ls g hr hl, Option.bind_some, p_allRunes p hp, p_l1All q 1 1000 hq, p_longs2 q hq, e]
  cases hs : okBuf m rs ls g with
  | false => exact ⟨_, rfl, rfl, by simp, by simp, by simp⟩
  | true =>
    simp only [Bool.not_true, Bool.false_eq_true, if_false]
    by_cases h1 : p.length = q.length
    · by_cases h2 : p.length ≤ 1000
      · cases h3 : q.all okLong with
        | false =>
          have n1 : ¬ (p.length : Int) > 1000 := by omega
          have n2 : ((p.length : Int) != (q.length : Int)) = false := by simp [h1]
          have n3 : ((q.length : Int) != (p.length : Int)) = false := by simp [h1]
          simp only [n1, n2, n3, decide_false, Bool.false_eq_true, if_false, Bool.not_false, Option.bind_some, if_true]
          refine ⟨(0, [], [], 0, [], false), rfl, ?_, by simp, by simp, by simp⟩
          split <;> rfl
        | true =>
          have n1 : ¬ (p.length : Int) > 1000 := by omega
          have n2 : ((p.length : Int) != (q.length : Int)) = false := by simp [h1]
          have n3 : ((q.length : Int) != (p.length : Int)) = false := by simp [h1]
          simp only [n1, n2, n3, decide_false, Bool.false_eq_true, if_false, Bool.not_true, Option.bind_some, if_true]
          simp only [okBuf, Bool.and_eq_true, decide_eq_true_eq, beq_iff_eq] at hs
          have hrs : rs.length ≤ 60 := by omega
          obtain ⟨g1, g2⟩ := p_bufPut m rs ls g p q (by omega) (by omega) (by unfold big; omega) (by omega) h1
          unfold impl_Buf_clone.f
          rw [p_clone rs hr, p_clone ls hl]
          simp only [Option.bind_some]
          rw [g1]
          simp only [Option.bind_some, p_areRunes p 1000 hp]
          have d2 : decide ((p.length : Int) ≤ 1000) = true := by simp; omega
          have d3 : decide (p.length ≤ 1000) = true := by simpa using h2
          rw [d2, d3, Bool.and_true, Bool.true_and]
          have L1 : ((rs ++ p).drop (over m (rs ++ p))).length ≤ 2000 := by simp; omega
          have L2 : ((ls ++ q).drop (over m (rs ++ p))).length ≤ 2000 := by simp; omega
          have L3 : ((rs ++ p).take (over m (rs ++ p))).length ≤ 2000 := by simp; omega
          cases h4 : p.all okRune with
          | false =>
            refine ⟨(0, [], [], 0, [], false), ?_, rfl, by simp, by simp, by simp⟩
            split <;> rfl
          | true =>
            simp only [Bool.not_true, Bool.false_eq_true, if_false, Option.bind_some]
            rw [g2]
            simp only [Option.bind_some]
            rw [p_specBuf _ _ _ _ (by unfold big; omega) (by unfold big; omega)]
            simp only [Option.bind_some]
            cases okBuf m ((rs ++ p).drop (over m (rs ++ p))) ((ls ++ q).drop (over m (rs ++ p))) (addAll g ((ls ++ q).take (over m (rs ++ p)))) with
            | false => exact ⟨_, rfl, rfl, by simp, by simp, by simp⟩
            | true => exact ⟨_, rfl, rfl, L1, L2, L3⟩
      · have n1 : (p.length : Int) > 1000 := by omega
        have n2 : ((p.length : Int) != (q.length : Int)) = false := by simp [h1]
        have d3 : decide (p.length ≤ 1000) = false := by simpa using h2
        refine ⟨(0, [], [], 0, [], false), ?_, ?_, by simp, by simp, by simp⟩
        · simp [n2, n1]
        · simp [d3]
    · have n2 : ((p.length : Int) != (q.length : Int)) = true := by simp; omega
      have n3 : ((q.length : Int) != (p.length : Int)) = true := by simp; omega
      refine ⟨(0, [], [], 0, [], false), ?_, ?_, by simp, by simp, by simp⟩
      · simp [n2]
      · rw [n3]
        split <;> rfl
theorem law_PutBuf (m : Int) (rs ls : List Int) (g : Int) (p q : List Int) (_ : inK .i64 m) (hr : allW (inK .i64) rs) (hl : allW (inK .i64) ls) (_ : inK .i64 g) (_ : allW (inK .i64) p) (_ : allW (inK .i64) q) : laws_FnExactPutBuf.f m rs ls g p q = some true := by
  unfold laws_FnExactPutBuf.f
  by_cases hp0 : (p.length : Int) > 1048576
  · rw [if_pos (by simpa using hp0)]
  rw [if_neg (by simpa using hp0)]
  by_cases hq0 : (q.length : Int) > 1048576
  · rw [if_pos (by simpa using hq0)]
  rw [if_neg (by simpa using hq0)]
  obtain ⟨u, e, hu⟩ := p_szBuf m rs ls g 1048576 (by decide) (by decide) hr.1 hl.1
  rw [e]
  simp only [Option.bind_some]
  by_cases h0 : u < 0
  · rw [if_pos (by simpa using h0)]
  rw [if_neg (by simpa using h0)]
  have hr' : rs.length ≤ big := by unfold big; omega
  have hl' : ls.length ≤ big := by unfold big; omega
  have hp' : p.length ≤ big := by unfold big; omega
  have hq' : q.length ≤ big := by unfold big; omega
  obtain ⟨r, e1, e2, b1, b2, b3⟩ := p_PutBuf m rs ls g p q hr' hl' hp' hq'
  have c1 : r.2.1.length ≤ big := by unfold big; omega
  have c2 : r.2.2.1.length ≤ big := by unfold big; omega
  have c3 : r.2.2.2.2.1.length ≤ big := by unfold big; omega
  have m1 := p_markBuf m rs ls g 1 (by omega) (by omega) hr' hl'
  have ma := p_markIntS p (1 + rs.length + ls.length) (by omega) (by omega) hp'
  have mb := p_markIntS q (1 + rs.length + ls.length + p.length) (by omega) (by omega) hq'
  have m2 := p_markBuf r.1 r.2.1 r.2.2.1 r.2.2.2.1 1 (by omega) (by omega) c1 c2
  have m3 := p_markIntS r.2.2.2.2.1 (1 + r.2.1.length + r.2.2.1.length) (by omega) (by omega) c3
  have m4 := p_heldBuf r.1 r.2.1.length r.2.2.1.length r.2.2.2.1 1 (by omega) (by omega) c1 c2
  have m5 := p_heldIntS r.2.2.2.2.1.length (1 + r.2.1.length + r.2.2.1.length) (by omega) (by omega) c3
  have n1 : ¬ (1 + (rs.length : Int) + (ls.length : Int) + (p.length : Int) + (q.length : Int) < 0) := by omega
  have n2 : ¬ (1 + (r.2.1.length : Int) + (r.2.2.1.length : Int) < 0) := by omega
  have n3 : ¬ (1 + (r.2.1.length : Int) + (r.2.2.1.length : Int) + (r.2.2.2.2.1.length : Int) < 0) := by omega
  simp [p_toBuf m rs ls g hr' hl', p_toIntS p hp', p_toIntS q hq', e1, e2, p_eqBuf m rs ls g hr' hl', p_eqIntS p p hp', p_eqIntS q q hq', p_eqBuf r.1 r.2.1 r.2.2.1 r.2.2.2.1 c1 c2, p_eqIntS r.2.2.2.2.1 r.2.2.2.2.1 c3, m1, ma, mb, m2, m3, m4, m5, n1, n2, n3]
end Go.Proofs.Ytopecknfnhocpaa
