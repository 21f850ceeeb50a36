/- Plain laws of the printed functions. Conditions as each lemma says. -/
import Derived.Test.YtopecknfnhocpaaPB
import Derived.Test.YtopecknfnhocpaaWTakeBuf1
set_option linter.unusedVariables false
set_option linter.unusedSimpArgs false
namespace Go.Proofs.Ytopecknfnhocpaa
open Go Go.Proofs.GL
theorem p_l1In (a b c : Int) : spec_l1In.f a b c = some (decide (b ≤ a) && decide (a ≤ c)) := by
  unfold spec_l1In.f
  by_cases h : b ≤ a
  · rw [if_pos (by simpa using h)]; simp [h]
  · rw [if_neg (by simpa using h)]; simp [h]
theorem p_inRange (a b c : Int) : impl_inRange.f a b c = some (decide (b ≤ a) && decide (a ≤ c)) := by
  unfold impl_inRange.f
  by_cases h : b ≤ a
  · rw [if_pos (by simpa using h)]; simp [h]
  · rw [if_neg (by simpa using h)]; simp [h]
def okRune (r : Int) : Bool := decide (0 ≤ r) && decide (r ≤ 1114111) && !(decide (55296 ≤ r) && decide (r ≤ 57343))
theorem p_specRune (r : Int) : spec_GoodRune.f r = some (okRune r) := by
  unfold spec_GoodRune.f okRune
  simp only [p_l1In, Option.bind_some]
  cases (decide (0 ≤ r) && decide (r ≤ 1114111)) <;> rfl
theorem p_implRune (r : Int) : impl_GoodRune.f r = some (okRune r) := by
  unfold impl_GoodRune.f okRune
  simp only [p_inRange, Option.bind_some]
  cases (decide (0 ≤ r) && decide (r ≤ 1114111)) <;> rfl
theorem p_allRunes (p : List Int) (hp : p.length ≤ big) : spec_l1AllRunes.f p = some (p.all okRune && decide (p.length ≤ 1000)) := by
  unfold spec_l1AllRunes.f
  have := all_loop p hp (fun u => !okRune u) false (spec_l1AllRunes.l1 p) (fun k i => by rw [spec_l1AllRunes.l1]; simp only [p_specRune, Option.bind_some]) (((p.length : Int) - 0).toNat + 2) 0 (by omega) (by omega)
  rw [show ((0 : Nat) : Int) = 0 from rfl] at this
  rw [this, List.drop_zero]
  have e : p.any (fun u => !okRune u) = !p.all okRune := by rw [List.all_eq_not_any_not]; simp
  rw [e]
  cases h : p.all okRune <;> simp
  omega
theorem p_areRunes (p : List Int) (n : Int) (hp : p.length ≤ big) : impl_areRunes.f p n = some (decide ((p.length : Int) ≤ n) && p.all okRune) := by
  unfold impl_areRunes.f slices_ContainsFunc_int_int_impl_areRunes_1.f slices_IndexFunc_int_int_impl_areRunes_1.f
  by_cases h : (p.length : Int) ≤ n
  · rw [if_pos (by simpa using h)]
    have := scan_loop p hp (fun u => !okRune u) (fun i _ => i) (slices_IndexFunc_int_int_impl_areRunes_1.l1 p) (fun k i => by rw [slices_IndexFunc_int_int_impl_areRunes_1.l1]; simp only [impl_areRunes_1.f, p_implRune, Option.bind_some]) (((p.length : Int) - 0).toNat + 2) 0 (by omega) (by omega)
    rw [show ((0 : Nat) : Int) = 0 from rfl] at this
    rw [this, List.drop_zero]
    have e : p.all okRune = !(p.any fun u => !okRune u) := List.all_eq_not_any_not
    rw [e]
    cases hf : p.findIdx? (fun u => !okRune u) with
    | none =>
      have : p.any (fun u => !okRune u) = false := by
        rw [List.findIdx?_eq_none_iff] at hf
        simpa using hf
      rw [this]; simp [h]
    | some j =>
      obtain ⟨hj, h1, h2⟩ := List.findIdx?_eq_some_iff_getElem.1 hf
      have : p.any (fun u => !okRune u) = true := List.any_eq_true.2 ⟨_, List.getElem_mem hj, h1⟩
      rw [this]
      simp [hj]
  · rw [if_neg (by simpa using h)]
    simp [h]
theorem p_l1All (p : List Int) (a b : Int) (hp : p.length ≤ big) : spec_l1All.f p a b = some (p.all fun u => decide (a ≤ u) && decide (u ≤ b)) := by
  unfold spec_l1All.f
  have := all_loop p hp (fun u => !(decide (a ≤ u) && decide (u ≤ b))) false (spec_l1All.l1 p a b) (fun k i => by rw [spec_l1All.l1]; simp only [p_l1In, Option.bind_some]) (((p.length : Int) - 0).toNat + 2) 0 (by omega) (by omega)
  rw [show ((0 : Nat) : Int) = 0 from rfl] at this
  rw [this, List.drop_zero]
  have e : p.any (fun u => !(decide (a ≤ u) && decide (u ≤ b))) = !p.all fun u => decide (a ≤ u) && decide (u ≤ b) := by rw [List.all_eq_not_any_not]; simp
  rw [e]
  cases h : p.all fun u => decide (a ≤ u) && decide (u ≤ b) <;> simp
def okLong (u : Int) : Bool := decide (1 ≤ u) && decide (u ≤ 1000)
theorem p_longs (p : List Int) (hp : p.length ≤ big) : slices_ContainsFunc_int_int_impl_GoodBuf_1.f p = some (!p.all okLong) := by
  unfold slices_ContainsFunc_int_int_impl_GoodBuf_1.f slices_IndexFunc_int_int_impl_GoodBuf_1.f
  have e1 : ∀ u, impl_GoodBuf_1.f u = some (!okLong u) := fun u => by
    unfold impl_GoodBuf_1.f okLong
    simp only [p_inRange, Option.bind_some]
  have := scan_loop p hp (fun u => !okLong u) (fun i _ => i) (slices_IndexFunc_int_int_impl_GoodBuf_1.l1 p) (fun k i => by rw [slices_IndexFunc_int_int_impl_GoodBuf_1.l1]; simp only [e1, Option.bind_some]) (((p.length : Int) - 0).toNat + 2) 0 (by omega) (by omega)
  rw [show ((0 : Nat) : Int) = 0 from rfl] at this
  rw [this, List.drop_zero]
  have e : p.all okLong = !(p.any fun u => !okLong u) := List.all_eq_not_any_not
  rw [e, Bool.not_not]
  cases hf : p.findIdx? (fun u => !okLong u) with
  | none =>
    have : p.any (fun u => !okLong u) = false := by
      rw [List.findIdx?_eq_none_iff] at hf
      simpa using hf
    rw [this]; simp
  | some j =>
    obtain ⟨hj, h1, h2⟩ := List.findIdx?_eq_some_iff_getElem.1 hf
    have : p.any (fun u => !okLong u) = true := List.any_eq_true.2 ⟨_, List.getElem_mem hj, h1⟩
    rw [this]
    simp [hj]
def okBuf (m : Int) (rs ls : List Int) (g : Int) : Bool := (decide (1 ≤ m) && decide (m ≤ 60)) && decide ((rs.length : Int) ≤ m) && rs.all okRune && ((ls.length : Int) == (rs.length : Int)) && ls.all okLong && (decide (0 ≤ g) && decide (g ≤ 1000000))
theorem p_implBuf (m : Int) (rs ls : List Int) (g : Int) (hr : rs.length ≤ big) (hl : ls.length ≤ big) : impl_GoodBuf.f m rs ls g = some (okBuf m rs ls g) := by
  unfold impl_GoodBuf.f okBuf
  simp only [p_inRange, Option.bind_some, p_areRunes rs m hr, p_longs ls hl]
  generalize (decide (1 ≤ m) && decide (m ≤ 60)) = b1
  generalize decide ((rs.length : Int) ≤ m) = b2
  generalize rs.all okRune = b3
  generalize ((ls.length : Int) == (rs.length : Int)) = b4
  generalize ls.all okLong = b5
  generalize (decide (0 ≤ g) && decide (g ≤ 1000000)) = b6
  cases b1 <;> cases b2 <;> cases b3 <;> cases b4 <;> cases b5 <;> cases b6 <;> rfl
theorem p_specBuf (m : Int) (rs ls : List Int) (g : Int) (hr : rs.length ≤ big) (hl : ls.length ≤ big) : spec_GoodBuf.f m rs ls g = some (okBuf m rs ls g) := by
  unfold spec_GoodBuf.f okBuf
  simp only [p_l1In, Option.bind_some, p_allRunes rs hr, p_l1All ls 1 1000 hl]
  have e : (ls.all fun u => decide (1 ≤ u) && decide (u ≤ 1000)) = ls.all okLong := rfl
  rw [e]
  by_cases h1 : (rs.length : Int) ≤ m ∧ m ≤ 60
  · have h2 : rs.length ≤ 1000 := by omega
    simp only [h1, h2, decide_true, Bool.and_true]
    generalize decide (1 ≤ m) = b1
    generalize rs.all okRune = b3
    generalize ((ls.length : Int) == (rs.length : Int)) = b4
    generalize ls.all okLong = b5
    generalize (decide (0 ≤ g) && decide (g ≤ 1000000)) = b6
    cases b1 <;> cases b3 <;> cases b4 <;> cases b5 <;> cases b6 <;> rfl
  · by_cases h2 : m ≤ 60
    · have h3 : ¬ (rs.length : Int) ≤ m := fun h => h1 ⟨h, h2⟩
      simp only [h2, h3, decide_true, decide_false]
      cases decide (1 ≤ m) <;> simp
    · simp [h2]
theorem p_eqIntS (p q : List Int) (hp : p.length ≤ big) : laws_eqIntS.f p q = some (decide (p = q)) :=
  eq_all p q hp (laws_eqIntS.l1 p q) _ (by omega) fun _ _ _ => rfl
theorem p_toIntS_l (p : List Int) (hp : p.length ≤ big) : ∀ (k i : Nat) (x : List Int), i ≤ p.length → p.length - i < k → x.length = p.length → x.take i = p.take i → laws_toIntS.l1 p k x i = some p := by
  intro k
  induction k with
  | zero => intro i x _ h; omega
  | succ k ih =>
    intro i x hi hk hl ht
    rw [laws_toIntS.l1]
    by_cases h : i < p.length
    · rw [if_pos (by simpa using h), rd?_at h]
      simp only [Option.bind_some]
      rw [rd?_at (by omega : i < x.length)]
      simp only [Option.bind_some]
      rw [st?_at p[i] (by omega : i < x.length)]
      simp only [Option.bind_some]
      rw [wrapN i (by unfold big at hp; omega)]
      refine ih (i + 1) _ h (by omega) (by simpa using hl) ?_
      rw [List.take_add_one, List.take_add_one, List.take_set_of_le (Nat.le_refl i), ht]
      simp [h, hl]
    · rw [if_neg (by simpa using h)]
      obtain rfl : i = p.length := by omega
      rw [List.take_length, ← hl, List.take_length] at ht
      rw [ht]
theorem p_toIntS (p : List Int) (hp : p.length ≤ big) : laws_toIntS.f p = some p := by
  unfold laws_toIntS.f
  rw [mk?_at (by unfold big at hp; omega)]
  simp only [Option.bind_some]
  have := p_toIntS_l p hp (((p.length : Int) - 0).toNat + 2) 0 (List.replicate p.length 0) (by omega) (by omega) (by simp) (by simp)
  rw [show ((0 : Nat) : Int) = 0 from rfl] at this
  rw [this]
  rfl
theorem p_szIntS (p : List Int) (n : Int) (h0 : 0 ≤ n) (h1 : n ≤ 1048576) (hp : p.length ≤ maxN) : laws_szIntS.f p n = some (if (p.length : Int) ≤ n then n - p.length else -1) := by
  unfold laws_szIntS.f
  unfold maxN at hp
  rw [wrapS (by omega) (by omega)]
  by_cases h : (p.length : Int) ≤ n
  · rw [if_neg (by simp; omega), if_pos h]
  · rw [if_pos (by simp; omega), if_neg h]
def marks (k : Int) (n : Nat) : List Int := (List.range n).map fun i : Nat => k + i
theorem marks_len (k : Int) (n : Nat) : (marks k n).length = n := by simp [marks]
theorem marks_get (k : Int) (n i : Nat) (h : i < n) : (marks k n)[i]? = some (k + i) := by simp [marks, h]
theorem p_markIntS_l (p : List Int) (k0 : Int) (h0 : 0 ≤ k0) (h1 : k0 ≤ 1000000000000) (hp : p.length ≤ big) : ∀ (k i : Nat) (x : List Int), i ≤ p.length → p.length - i < k → x.length = p.length → x.take i = (marks k0 p.length).take i → laws_markIntS.l1 p k x (k0 + i) i = some (k0 + p.length, marks k0 p.length) := by
  intro k
  induction k with
  | zero => intro i x _ h; omega
  | succ k ih =>
    intro i x hi hk hl ht
    rw [laws_markIntS.l1]
    by_cases h : i < p.length
    · rw [if_pos (by simpa using h), rd?_at (by omega : i < x.length)]
      simp only [Option.bind_some]
      rw [st?_at _ (by omega : i < x.length)]
      simp only [Option.bind_some]
      unfold big at hp
      rw [wrapN i (by omega), wrapS (by omega) (by omega), show k0 + (i : Int) + 1 = k0 + ((i + 1 : Nat) : Int) by omega]
      refine ih (i + 1) _ h (by omega) (by simpa using hl) ?_
      rw [List.take_add_one, List.take_add_one, List.take_set_of_le (Nat.le_refl i), ht, marks_get _ _ _ h]
      simp [h, hl]
    · rw [if_neg (by simpa using h)]
      obtain rfl : i = p.length := by omega
      rw [List.take_of_length_le (l := x) (by omega), List.take_of_length_le (l := marks k0 p.length) (by rw [marks_len]; omega)] at ht
      rw [ht]
theorem p_markIntS (p : List Int) (k0 : Int) (h0 : 0 ≤ k0) (h1 : k0 ≤ 1000000000000) (hp : p.length ≤ big) : laws_markIntS.f p k0 = some (k0 + p.length, marks k0 p.length) := by
  unfold laws_markIntS.f
  have := p_markIntS_l p k0 h0 h1 hp (((p.length : Int) - 0).toNat + 2) 0 p (by omega) (by omega) rfl (by simp)
  rw [show ((0 : Nat) : Int) = 0 from rfl, Int.add_zero] at this
  rw [this]
  rfl
theorem p_heldIntS_l (n : Nat) (k0 : Int) (h0 : 0 ≤ k0) (h1 : k0 ≤ 1000000000000) (hp : n ≤ big) : ∀ (k i : Nat), i ≤ n → n - i < k → laws_heldIntS.l1 (marks k0 n) k (k0 + i) i = some (.go (k0 + n)) := by
  intro k
  induction k with
  | zero => intro i _ h; omega
  | succ k ih =>
    intro i hi hk
    rw [laws_heldIntS.l1, marks_len]
    by_cases h : i < n
    · have hm := rd?_at (xs := marks k0 n) (i := i) (by rw [marks_len]; exact h)
      have hg : (marks k0 n)[i]'(by rw [marks_len]; exact h) = k0 + i := by simp [marks]
      rw [if_pos (by simpa using h), hm, hg]
      simp only [Option.bind_some]
      unfold big at hp
      rw [if_neg (by simp), wrapN i (by omega), wrapS (by omega) (by omega), show k0 + (i : Int) + 1 = k0 + ((i + 1 : Nat) : Int) by omega]
      exact ih (i + 1) h (by omega)
    · rw [if_neg (by simpa using h)]
      obtain rfl : i = n := by omega
      rfl
theorem p_heldIntS (n : Nat) (k0 : Int) (h0 : 0 ≤ k0) (h1 : k0 ≤ 1000000000000) (hp : n ≤ big) : laws_heldIntS.f (marks k0 n) k0 = some (k0 + n) := by
  unfold laws_heldIntS.f
  have := p_heldIntS_l n k0 h0 h1 hp ((((marks k0 n).length : Int) - 0).toNat + 2) 0 (by omega) (by rw [marks_len]; omega)
  rw [show ((0 : Nat) : Int) = 0 from rfl, Int.add_zero] at this
  rw [this]
  rfl
theorem p_szBuf (m : Int) (rs ls : List Int) (g : Int) (n : Int) (h0 : 0 ≤ n) (h1 : n ≤ 1048576) (hr : rs.length ≤ maxN) (hl : ls.length ≤ maxN) : ∃ u, laws_szBuf.f m rs ls g n = some u ∧ (u < 0 ∨ 0 ≤ u ∧ u + (rs.length + ls.length) ≤ n) := by
  unfold laws_szBuf.f
  rw [p_szIntS rs n h0 h1 hr]
  simp only [Option.bind_some]
  by_cases h : (rs.length : Int) ≤ n
  · rw [if_pos h, if_neg (by simp; omega), p_szIntS ls _ (by omega) (by omega) hl]
    simp only [Option.bind_some]
    by_cases h2 : (ls.length : Int) ≤ n - rs.length
    · rw [if_pos h2, if_neg (by simp; omega)]; exact ⟨_, rfl, .inr ⟨by omega, by omega⟩⟩
    · rw [if_neg h2, if_pos (by decide)]; exact ⟨_, rfl, .inl (by decide)⟩
  · rw [if_neg h, if_pos (by decide)]; exact ⟨_, rfl, .inl (by decide)⟩
theorem p_toBuf (m : Int) (rs ls : List Int) (g : Int) (hr : rs.length ≤ big) (hl : ls.length ≤ big) : laws_toBuf.f m rs ls g = some (m, rs, ls, g) := by
  unfold laws_toBuf.f
  rw [p_toIntS rs hr, p_toIntS ls hl]
  rfl
theorem p_eqBuf (m : Int) (rs ls : List Int) (g : Int) (hr : rs.length ≤ big) (hl : ls.length ≤ big) : laws_eqBuf.f m rs ls g m rs ls g = some true := by
  unfold laws_eqBuf.f
  rw [p_eqIntS rs rs hr, p_eqIntS ls ls hl]
  simp
theorem p_markBuf (m : Int) (rs ls : List Int) (g : Int) (c : Int) (h0 : 0 ≤ c) (h1 : c + rs.length ≤ 1000000000000) (hr : rs.length ≤ big) (hl : ls.length ≤ big) : laws_markBuf.f m rs ls g c = some (c + rs.length + ls.length, marks c rs.length, marks (c + rs.length) ls.length) := by
  unfold laws_markBuf.f
  rw [p_markIntS rs c h0 (by omega) hr]
  simp only [Option.bind_some]
  rw [p_markIntS ls _ (by omega) h1 hl]
  rfl
theorem p_heldBuf (m : Int) (n k : Nat) (g : Int) (c : Int) (h0 : 0 ≤ c) (h1 : c + n ≤ 1000000000000) (hn : n ≤ big) (hk : k ≤ big) : laws_heldBuf.f m (marks c n) (marks (c + n) k) g c = some (c + n + k) := by
  unfold laws_heldBuf.f
  rw [p_heldIntS n c h0 (by omega) hn]
  simp only [Option.bind_some]
  rw [if_neg (by simp; omega), p_heldIntS k _ (by omega) h1 hk]
  simp only [Option.bind_some]
  rw [if_neg (by simp; omega)]
theorem p_own (x : List Int) (hx : x.length ≤ big) : spec_l1Own.f x = some x := by
  unfold spec_l1Own.f
  unfold big at hx
  rw [app?_at (by simpa using hx)]
  rfl
theorem p_clone (x : List Int) (hx : x.length ≤ big) : slices_Clone_int_int.f x = some x := by
  unfold slices_Clone_int_int.f
  unfold big at hx
  rw [app?_at (by simpa using hx)]
  rfl
def addAll (s : Int) (xs : List Int) : Int := xs.foldl (fun s u => IntKind.i64.wrap (s + u)) s
theorem p_bytes (x : List Int) (hx : x.length ≤ big) (g : Int) : impl_Buf_bytes.l1 x (((x.length : Int) - 0).toNat + 2) g 0 = some (addAll g x) := by
  have := run_loop x hx (fun s u K => K (IntKind.i64.wrap (s + u))) (fun s => some s) (impl_Buf_bytes.l1 x) (fun _ _ _ => rfl) (((x.length : Int) - 0).toNat + 2) 0 g (by omega) (by omega)
  rw [show ((0 : Nat) : Int) = 0 from rfl] at this
  rw [this, List.drop_zero, runS_fold (fun s u => IntKind.i64.wrap (s + u))]
  rfl
theorem p_dropSum (x : List Int) (hx : x.length ≤ big) (g : Int) : spec_l10Drop.l1 x (((x.length : Int) - 0).toNat + 2) 0 g = some (addAll g x) := by
  have := run_loop x hx (fun s u K => K (IntKind.i64.wrap (s + u))) (fun s => some s) (fun k s i => spec_l10Drop.l1 x k i s) (fun _ _ _ => rfl) (((x.length : Int) - 0).toNat + 2) 0 g (by omega) (by omega)
  rw [show ((0 : Nat) : Int) = 0 from rfl] at this
  rw [this, List.drop_zero, runS_fold (fun s u => IntKind.i64.wrap (s + u))]
  rfl
theorem cut0 {x : List Int} {n : Nat} (h : n ≤ x.length) : cut? x 0 (n : Int) = some (x.take n) := by
  have := cut?_at (xs := x) (a := 0) (b := n) (by omega) h
  rw [show ((0 : Nat) : Int) = 0 from rfl] at this
  simpa using this
theorem cutE {x : List Int} {n : Nat} (h : n ≤ x.length) : cut? x (n : Int) (x.length : Int) = some (x.drop n) := by
  have := cut?_at (xs := x) (a := n) (b := x.length) h (by omega)
  simpa using this
theorem p_take (m : Int) (rs ls : List Int) (g : Int) (n : Nat) (hn : n ≤ rs.length) (hl : n ≤ ls.length) (h1 : rs.length ≤ big) (h2 : ls.length ≤ big) : impl_Buf_take.f m rs ls g n = some (rs.take n, rs.drop n, ls.drop n, addAll g (ls.take n)) := by
  unfold impl_Buf_take.f impl_Buf_bytes.f
  rw [cut0 hn, cut0 hl, cutE hn, cutE hl]
  simp only [Option.bind_some]
  rw [p_clone _ (by simp; omega), p_bytes _ (by simp; omega), p_clone _ (by simp; omega), p_clone _ (by simp; omega)]
  rfl
theorem p_drop (m : Int) (rs ls : List Int) (g : Int) (n : Nat) (hn : n ≤ rs.length) (hl : n ≤ ls.length) (h1 : rs.length ≤ big) (h2 : ls.length ≤ big) : spec_l10Drop.f m rs ls g n = some (m, rs.drop n, ls.drop n, addAll g (ls.take n), rs.take n) := by
  unfold spec_l10Drop.f
  rw [cut0 hn, cut0 hl, cutE hn, cutE hl]
  simp only [Option.bind_some]
  rw [p_own _ (by simp; omega), p_own _ (by simp; omega), p_own _ (by simp; omega)]
  simp only [Option.bind_some]
  rw [p_dropSum _ (by simp; omega)]
  rfl
theorem p_TakeBuf (m : Int) (rs ls : List Int) (g n : Int) (hr : rs.length ≤ big) (hl : ls.length ≤ big) : ∃ r : Int × List Int × List Int × Int × List Int × Bool, impl_TakeBuf.f m rs ls g n = some r ∧ spec_TakeBuf.f m rs ls g n = some r ∧ r.2.1.length ≤ 1000 ∧ r.2.2.1.length ≤ 1000 ∧ r.2.2.2.2.1.length ≤ 1000 := by
  unfold impl_TakeBuf.f spec_TakeBuf.f
  simp only [p_implBuf m rs ls g hr hl, p_specBuf m rs ls g hr hl, Option.bind_some, p_inRange, p_l1In]
  cases hs : okBuf m rs ls g with
  | false => exact ⟨_, rfl, rfl, by simp, by simp, by simp⟩
  | true =>
    simp only [Bool.not_true, Bool.false_eq_true, if_false]
    cases hn : (decide (0 ≤ n) && decide (n ≤ (rs.length : Int))) with
    | false => exact ⟨_, rfl, rfl, by simp, by simp, by simp⟩
    | true =>
      simp only [Bool.not_true, Bool.false_eq_true, if_false, Option.bind_some]
      simp only [okBuf, Bool.and_eq_true, decide_eq_true_eq, beq_iff_eq] at hs hn
      obtain ⟨k, rfl⟩ := Int.eq_ofNat_of_zero_le hn.1
      have hl2 : ls.length = rs.length := by omega
      have hk : k ≤ rs.length := by omega
      unfold impl_Buf_clone.f
      rw [p_clone rs hr, p_clone ls hl]
      simp only [Option.bind_some]
      rw [p_take m rs ls g k hk (by omega) hr hl, p_drop m rs ls g k hk (by omega) hr hl]
      simp only [Option.bind_some]
      rw [p_implBuf _ _ _ _ (by simp; omega) (by simp; omega), p_specBuf _ _ _ _ (by simp; omega) (by simp; omega)]
      simp only [Option.bind_some]
      split
      · exact ⟨_, rfl, rfl, by simp, by simp, by simp⟩
      · exact ⟨_, rfl, rfl, by simp; omega, by simp; omega, by simp; omega⟩
theorem law_TakeBuf (m : Int) (rs ls : List Int) (g n : Int) (_ : inK .i64 m) (hr : allW (inK .i64) rs) (hl : allW (inK .i64) ls) (_ : inK .i64 g) (_ : inK .i64 n) : laws_FnExactTakeBuf.f m rs ls g n = some true := by
  unfold laws_FnExactTakeBuf.f
  obtain ⟨u, e, hu⟩ := p_szBuf m rs ls g 1048576 (by decide) (by decide) hr.1 hl.1
  rw [e]
  simp only [Option.bind_some]
  by_cases h0 : u < 0
  · rw [if_pos (by simpa using h0)]
  rw [if_neg (by simpa using h0)]
  have hr' : rs.length ≤ big := by unfold big; omega
  have hl' : ls.length ≤ big := by unfold big; omega
  obtain ⟨r, e1, e2, b1, b2, b3⟩ := p_TakeBuf m rs ls g n hr' hl'
  have c1 : r.2.1.length ≤ big := by unfold big; omega
  have c2 : r.2.2.1.length ≤ big := by unfold big; omega
  have c3 : r.2.2.2.2.1.length ≤ big := by unfold big; omega
  have m1 := p_markBuf m rs ls g 1 (by omega) (by omega) hr' hl'
  have m2 := p_markBuf r.1 r.2.1 r.2.2.1 r.2.2.2.1 1 (by omega) (by omega) c1 c2
  have m3 := p_markIntS r.2.2.2.2.1 (1 + r.2.1.length + r.2.2.1.length) (by omega) (by omega) c3
  have m4 := p_heldBuf r.1 r.2.1.length r.2.2.1.length r.2.2.2.1 1 (by omega) (by omega) c1 c2
  have m5 := p_heldIntS r.2.2.2.2.1.length (1 + r.2.1.length + r.2.2.1.length) (by omega) (by omega) c3
  have n1 : ¬ (1 + (rs.length : Int) + (ls.length : Int) < 0) := by omega
  have n2 : ¬ (1 + (r.2.1.length : Int) + (r.2.2.1.length : Int) < 0) := by omega
  have n3 : ¬ (1 + (r.2.1.length : Int) + (r.2.2.1.length : Int) + (r.2.2.2.2.1.length : Int) < 0) := by omega
  simp [p_toBuf m rs ls g hr' hl', e1, e2, p_eqBuf m rs ls g hr' hl', p_eqBuf r.1 r.2.1 r.2.2.1 r.2.2.2.1 c1 c2, p_eqIntS r.2.2.2.2.1 r.2.2.2.2.1 c3, m1, m2, m3, m4, m5, n1, n2, n3]
end Go.Proofs.Ytopecknfnhocpaa
