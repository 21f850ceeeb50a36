/- Plain laws of the printed functions. Conditions as each lemma says. -/
import Derived.Test.YtihocjbngajjkaaPB
import Derived.Test.YtihocjbngajjkaaWShowsAt1
set_option linter.unusedVariables false
set_option linter.unusedSimpArgs false
namespace Go.Proofs.Ytihocjbngajjkaa
open Go Go.Proofs.GL
def okRune (r : Int) : Bool := decide (0 ≤ r) && decide (r ≤ 1114111) && !(decide (55296 ≤ r) && decide (r ≤ 57343))
theorem p_l1In (a b c : Int) : spec_l1In.f a b c = some (decide (b ≤ a) && decide (a ≤ c)) := by
  unfold spec_l1In.f
  by_cases h : b ≤ a
  · rw [if_pos (by simpa using h)]; simp [h]
  · rw [if_neg (by simpa using h)]; simp [h]
theorem p_inRange (a b c : Int) : impl_inRange.f a b c = some (decide (b ≤ a) && decide (a ≤ c)) := by
  unfold impl_inRange.f
  by_cases h : b ≤ a
  · rw [if_pos (by simpa using h)]; simp [h]
  · rw [if_neg (by simpa using h)]; simp [h]
theorem p_specRune (r : Int) : spec_GoodRune.f r = some (okRune r) := by
  unfold spec_GoodRune.f okRune
  simp only [p_l1In, Option.bind_some]
  cases (decide (0 ≤ r) && decide (r ≤ 1114111)) <;> rfl
theorem p_implRune (r : Int) : impl_GoodRune.f r = some (okRune r) := by
  unfold impl_GoodRune.f okRune
  simp only [p_inRange, Option.bind_some]
  cases (decide (0 ≤ r) && decide (r ≤ 1114111)) <;> rfl
theorem p_allRunes (p : List Int) (hp : p.length ≤ big) : spec_l1AllRunes.f p = some (p.all okRune && decide (p.length ≤ 1000)) := by
  unfold spec_l1AllRunes.f
  have := all_loop p hp (fun u => !okRune u) false (spec_l1AllRunes.l1 p) (fun k i => by rw [spec_l1AllRunes.l1]; simp only [p_specRune, Option.bind_some]) (((p.length : Int) - 0).toNat + 2) 0 (by omega) (by omega)
  rw [show ((0 : Nat) : Int) = 0 from rfl] at this
  rw [this, List.drop_zero]
  have e : p.any (fun u => !okRune u) = !p.all okRune := by rw [List.all_eq_not_any_not]; simp
  rw [e]
  cases h : p.all okRune <;> simp
  omega
theorem p_l1All (p : List Int) (a b : Int) (hp : p.length ≤ big) : spec_l1All.f p a b = some (p.all fun u => decide (a ≤ u) && decide (u ≤ b)) := by
  unfold spec_l1All.f
  have := all_loop p hp (fun u => !(decide (a ≤ u) && decide (u ≤ b))) false (spec_l1All.l1 p a b) (fun k i => by rw [spec_l1All.l1]; simp only [p_l1In, Option.bind_some]) (((p.length : Int) - 0).toNat + 2) 0 (by omega) (by omega)
  rw [show ((0 : Nat) : Int) = 0 from rfl] at this
  rw [this, List.drop_zero]
  have e : p.any (fun u => !(decide (a ≤ u) && decide (u ≤ b))) = !p.all fun u => decide (a ≤ u) && decide (u ≤ b) := by rw [List.all_eq_not_any_not]; simp
  rw [e]
  cases h : p.all fun u => decide (a ≤ u) && decide (u ≤ b) <;> simp
def okCell (r : Int) : Bool := okRune r && decide (32 ≤ r)
theorem p_goodCells (p : List Int) (hp : p.length ≤ big) : slices_ContainsFunc_int_int_impl_GoodScreen_1.f p = some (!p.all okCell) := by
  unfold slices_ContainsFunc_int_int_impl_GoodScreen_1.f slices_IndexFunc_int_int_impl_GoodScreen_1.f
  have e1 : ∀ u, impl_GoodScreen_1.f u = some (!okCell u) := fun u => by
    unfold impl_GoodScreen_1.f okCell
    simp only [p_implRune, Option.bind_some]
    by_cases h : u < 32
    · rw [if_pos (by simpa using h)]; simp; exact .inr h
    · rw [if_neg (by simpa using h)]
      have : decide (32 ≤ u) = true := by simp; omega
      simp [this]
  have := scan_loop p hp (fun u => !okCell u) (fun i _ => i) (slices_IndexFunc_int_int_impl_GoodScreen_1.l1 p) (fun k i => by rw [slices_IndexFunc_int_int_impl_GoodScreen_1.l1]; simp only [e1, Option.bind_some]) (((p.length : Int) - 0).toNat + 2) 0 (by omega) (by omega)
  rw [show ((0 : Nat) : Int) = 0 from rfl] at this
  rw [this, List.drop_zero]
  have e : p.all okCell = !(p.any fun u => !okCell u) := List.all_eq_not_any_not
  rw [e, Bool.not_not]
  cases hf : p.findIdx? (fun u => !okCell u) with
  | none =>
    have : p.any (fun u => !okCell u) = false := by
      rw [List.findIdx?_eq_none_iff] at hf
      simpa using hf
    rw [this]; simp
  | some j =>
    obtain ⟨hj, h1, h2⟩ := List.findIdx?_eq_some_iff_getElem.1 hf
    have : p.any (fun u => !okCell u) = true := List.any_eq_true.2 ⟨_, List.getElem_mem hj, h1⟩
    rw [this]
    simp [hj]
/-- A good screen. -/
def okScreen (w h : Int) (cs : List Int) (x y : Int) : Bool := decide (1 ≤ w) && decide (w ≤ 20) && (decide (1 ≤ h) && decide (h ≤ 8)) && (decide (0 ≤ x) && decide (x ≤ w)) && (decide (0 ≤ y) && decide (y < h)) && decide ((cs.length : Int) = w * h) && cs.all okCell
theorem mul_le160 {w h : Int} (h1 : 1 ≤ w) (h2 : w ≤ 20) (h3 : 1 ≤ h) (h4 : h ≤ 8) : 1 ≤ w * h ∧ w * h ≤ 160 := by
  have a := Int.mul_le_mul h2 h4 (by omega) (by omega)
  have b := Int.mul_le_mul h1 h3 (by omega) (by omega)
  omega
theorem p_specScreen (w h : Int) (cs : List Int) (x y : Int) (hp : cs.length ≤ big) : spec_GoodScreen.f w h cs x y = some (okScreen w h cs x y) := by
  unfold spec_GoodScreen.f okScreen
  simp only [p_l1In, Option.bind_some, p_allRunes cs hp, p_l1All cs _ _ hp]
  by_cases h1 : 1 ≤ w ∧ w ≤ 20
  · by_cases h2 : 1 ≤ h ∧ h ≤ 8
    · obtain ⟨m1, m2⟩ := mul_le160 h1.1 h1.2 h2.1 h2.2
      rw [wrapS (n := h - 1) (by omega) (by omega), wrapS (n := w * h) (by omega) (by omega)]
      by_cases h3 : 0 ≤ x ∧ x ≤ w
      · by_cases h4 : 0 ≤ y ∧ y < h
        · by_cases h5 : (cs.length : Int) = w * h
          · have h6 : cs.length ≤ 1000 := by omega
            have h7 : y ≤ h - 1 := by omega
            have e : (cs.all okRune && cs.all fun u => decide (32 ≤ u) && decide (u ≤ 1114111)) = cs.all okCell := by
              rw [Bool.eq_iff_iff]
              simp only [Bool.and_eq_true, List.all_eq_true, okCell, okRune, decide_eq_true_eq, Bool.not_eq_true', Bool.and_eq_false_iff, decide_eq_false_iff_not]
              constructor
              · rintro ⟨a, b⟩ u hu
                exact ⟨a u hu, (b u hu).1⟩
              · intro a
                exact ⟨fun u hu => (a u hu).1, fun u hu => ⟨(a u hu).2, (a u hu).1.1.2⟩⟩
            rw [← e]
            generalize cs.all okRune = a1
            generalize (cs.all fun u => decide (32 ≤ u) && decide (u ≤ 1114111)) = a2
            simp [h1, h2, h3, h4, h5, h6, h7]
            cases a1 <;> simp
          · have h7 : ¬ (h - 1 < y) := by omega
            simp [h1, h2, h3, h4, h5, h7]
        · have h7 : ¬ (0 ≤ y ∧ y ≤ h - 1) := by omega
          have e1 : (decide (0 ≤ y) && decide (y ≤ h - 1)) = false := by simpa using h7
          have e2 : (decide (0 ≤ y) && decide (y < h)) = false := by simpa using h4
          simp [h1, h2, h3, e1, e2]
      · have e1 : (decide (0 ≤ x) && decide (x ≤ w)) = false := by simpa using h3
        simp [h1, h2, e1]
    · have e1 : (decide (1 ≤ h) && decide (h ≤ 8)) = false := by simpa using h2
      simp [h1, e1]
  · have e1 : (decide (1 ≤ w) && decide (w ≤ 20)) = false := by simpa using h1
    simp [e1]
theorem p_implScreen (w h : Int) (cs : List Int) (x y : Int) (hp : cs.length ≤ big) : impl_GoodScreen.f w h cs x y = some (okScreen w h cs x y) := by
  unfold impl_GoodScreen.f okScreen impl_isPlace.f
  simp only [p_inRange, Option.bind_some, p_goodCells cs hp]
  by_cases h1 : 1 ≤ w ∧ w ≤ 20
  · by_cases h2 : 1 ≤ h ∧ h ≤ 8
    · obtain ⟨m1, m2⟩ := mul_le160 h1.1 h1.2 h2.1 h2.2
      rw [wrapS (n := h - 1) (by omega) (by omega), wrapS (n := w * h) (by omega) (by omega)]
      by_cases h3 : 0 ≤ x ∧ x ≤ w
      · by_cases h4 : 0 ≤ y ∧ y < h
        · have h7 : y ≤ h - 1 := by omega
          by_cases h5 : (cs.length : Int) = w * h
          · simp [h1, h2, h3, h4, h5, h7]
          · simp [h1, h2, h3, h4, h5]
        · have h7 : ¬ (0 ≤ y ∧ y ≤ h - 1) := by omega
          have e1 : (decide (0 ≤ y) && decide (y ≤ h - 1)) = false := by simpa using h7
          have e2 : (decide (0 ≤ y) && decide (y < h)) = false := by simpa using h4
          simp [h1, h2, h3, e1, e2]
      · have e1 : (decide (0 ≤ x) && decide (x ≤ w)) = false := by simpa using h3
        simp [h1, h2, e1]
    · have e1 : (decide (1 ≤ h) && decide (h ≤ 8)) = false := by simpa using h2
      simp [h1, e1]
  · have e1 : (decide (1 ≤ w) && decide (w ≤ 20)) = false := by simpa using h1
    simp [e1]
theorem p_toIntS_l (p : List Int) (hp : p.length ≤ big) : ∀ (k i : Nat) (x : List Int), i ≤ p.length → p.length - i < k → x.length = p.length → x.take i = p.take i → laws_toIntS.l1 p k x i = some p := by
  intro k
  induction k with
  | zero => intro i x _ h; omega
  | succ k ih =>
    intro i x hi hk hl ht
    rw [laws_toIntS.l1]
    by_cases h : i < p.length
    · rw [if_pos (by simpa using h), rd?_at h]
      simp only [Option.bind_some]
      rw [rd?_at (by omega : i < x.length)]
      simp only [Option.bind_some]
      rw [st?_at p[i] (by omega : i < x.length)]
      simp only [Option.bind_some]
      rw [wrapN i (by unfold big at hp; omega)]
      refine ih (i + 1) _ h (by omega) (by simpa using hl) ?_
      rw [List.take_add_one, List.take_add_one, List.take_set_of_le (Nat.le_refl i), ht]
      simp [h, hl]
    · rw [if_neg (by simpa using h)]
      obtain rfl : i = p.length := by omega
      rw [List.take_length, ← hl, List.take_length] at ht
      rw [ht]
theorem p_toIntS (p : List Int) (hp : p.length ≤ big) : laws_toIntS.f p = some p := by
  unfold laws_toIntS.f
  rw [mk?_at (by unfold big at hp; omega)]
  simp only [Option.bind_some]
  have := p_toIntS_l p hp (((p.length : Int) - 0).toNat + 2) 0 (List.replicate p.length 0) (by omega) (by omega) (by simp) (by simp)
  rw [show ((0 : Nat) : Int) = 0 from rfl] at this
  rw [this]
  rfl
theorem p_eqIntS (p q : List Int) (hp : p.length ≤ big) : laws_eqIntS.f p q = some (decide (p = q)) :=
  eq_all p q hp (laws_eqIntS.l1 p q) _ (by omega) fun _ _ _ => rfl
theorem p_szIntS (p : List Int) (n : Int) (h0 : 0 ≤ n) (h1 : n ≤ 1048576) (hp : p.length ≤ maxN) : laws_szIntS.f p n = some (if (p.length : Int) ≤ n then n - p.length else -1) := by
  unfold laws_szIntS.f
  unfold maxN at hp
  rw [wrapS (by omega) (by omega)]
  by_cases h : (p.length : Int) ≤ n
  · rw [if_neg (by simp; omega), if_pos h]
  · rw [if_pos (by simp; omega), if_neg h]
theorem p_szScreen (w h : Int) (cs : List Int) (x y : Int) (n : Int) (h0 : 0 ≤ n) (h1 : n ≤ 1048576) (hp : cs.length ≤ maxN) : ∃ u, laws_szScreen.f w h cs x y n = some u ∧ (u < 0 ∨ (cs.length : Int) ≤ n) := by
  unfold laws_szScreen.f
  rw [p_szIntS cs n h0 h1 hp]
  simp only [Option.bind_some]
  by_cases h : (cs.length : Int) ≤ n
  · rw [if_pos h, if_neg (by simp; omega)]; exact ⟨_, rfl, .inr h⟩
  · rw [if_neg h, if_pos (by decide)]; exact ⟨_, rfl, .inl (by decide)⟩
theorem p_toScreen (w h : Int) (cs : List Int) (x y : Int) (hp : cs.length ≤ big) : laws_toScreen.f w h cs x y = some (w, h, cs, x, y) := by
  unfold laws_toScreen.f
  rw [p_toIntS cs hp]
  rfl
theorem p_eqScreen (w h : Int) (cs : List Int) (x y : Int) (hp : cs.length ≤ big) : laws_eqScreen.f w h cs x y w h cs x y = some true := by
  unfold laws_eqScreen.f
  rw [p_eqIntS cs cs hp]
  simp
theorem p_l1Same (p q : List Int) (hp : p.length ≤ big) : spec_l1Same.f p q = some (decide (p = q)) :=
  eq_all p q hp (spec_l1Same.l1 p q) _ (by omega) fun _ _ _ => rfl
theorem p_Equal (p q : List Int) (hp : p.length ≤ big) : slices_Equal_int_int.f p q = some (decide (p = q)) :=
  eq_all p q hp (slices_Equal_int_int.l1 p q) _ (by omega) fun _ _ _ => rfl
theorem p_areRunes (p : List Int) (n : Int) (hp : p.length ≤ big) : impl_areRunes.f p n = some (decide ((p.length : Int) ≤ n) && p.all okRune) := by
  unfold impl_areRunes.f slices_ContainsFunc_int_int_impl_areRunes_1.f slices_IndexFunc_int_int_impl_areRunes_1.f
  by_cases h : (p.length : Int) ≤ n
  · rw [if_pos (by simpa using h)]
    have := scan_loop p hp (fun u => !okRune u) (fun i _ => i) (slices_IndexFunc_int_int_impl_areRunes_1.l1 p) (fun k i => by rw [slices_IndexFunc_int_int_impl_areRunes_1.l1]; simp only [impl_areRunes_1.f, p_implRune, Option.bind_some]) (((p.length : Int) - 0).toNat + 2) 0 (by omega) (by omega)
    rw [show ((0 : Nat) : Int) = 0 from rfl] at this
    rw [this, List.drop_zero]
    have e : p.all okRune = !(p.any fun u => !okRune u) := List.all_eq_not_any_not
    rw [e]
    cases hf : p.findIdx? (fun u => !okRune u) with
    | none =>
      have : p.any (fun u => !okRune u) = false := by
        rw [List.findIdx?_eq_none_iff] at hf
        simpa using hf
      rw [this]; simp [h]
    | some j =>
      obtain ⟨hj, h1, h2⟩ := List.findIdx?_eq_some_iff_getElem.1 hf
      have : p.any (fun u => !okRune u) = true := List.any_eq_true.2 ⟨_, List.getElem_mem hj, h1⟩
      rw [this]
      simp [hj]
  · rw [if_neg (by simpa using h)]
    simp [h]
theorem mul_row {w h : Int} {y : Nat} (h1 : 1 ≤ w) (h2 : w ≤ 20) (h4 : h ≤ 8) (hy : (y : Int) < h) : ∃ a b : Nat, (a : Int) = y * w ∧ (b : Int) = (y + 1) * w ∧ (b : Int) ≤ w * h ∧ b = a + w.toNat ∧ (a : Int) ≤ 160 ∧ (b : Int) ≤ 160 := by
  obtain ⟨n, rfl⟩ := Int.eq_ofNat_of_zero_le (show 0 ≤ w by omega)
  obtain ⟨m, rfl⟩ := Int.eq_ofNat_of_zero_le (show 0 ≤ h by omega)
  have hym : y + 1 ≤ m := by omega
  have e1 : (y + 1) * n ≤ m * n := Nat.mul_le_mul_right _ hym
  have e2 : m * n ≤ 8 * 20 := Nat.mul_le_mul (by omega) (by omega)
  refine ⟨y * n, (y + 1) * n, by simp, by simp, ?_, by rw [Nat.succ_mul]; simp, ?_, by omega⟩
  · rw [Int.mul_comm]; exact_mod_cast e1
  · have : y * n ≤ (y + 1) * n := Nat.mul_le_mul_right _ (by omega)
    omega
theorem p_row (w h : Int) (cs : List Int) (x y0 : Int) (y : Nat) (h1 : 1 ≤ w) (h2 : w ≤ 20) (h4 : h ≤ 8) (hy : (y : Int) < h) (hc : (cs.length : Int) = w * h) : ∃ row : List Int, (row.length : Int) = w ∧ cut? cs (IntKind.i64.wrap ((y : Int) * w)) (IntKind.i64.wrap ((IntKind.i64.wrap ((y : Int) + 1)) * w)) = some row := by
  obtain ⟨a, b, e1, e2, e3, e4, e5, e6⟩ := mul_row h1 h2 h4 hy
  rw [wrapS (n := (y : Int) + 1) (by omega) (by omega), ← e1, ← e2, wrapS (by omega) (by omega), wrapS (by omega) (by omega), cut?_at (by omega) (by omega)]
  exact ⟨_, by simp; omega, rfl⟩
theorem p_shows2 (w : Int) (q : List Int) (y : Int) (row : List Int) (hr : (row.length : Int) = w) (hw : w ≤ 20) (hq : q.length ≤ 20) : ∀ (k i : Nat), (i : Int) ≤ w + 1 → w - q.length - i + 1 < k → 0 < k → ∃ o, impl_ShowsAt.l2 w q y row k i = some o ∧ spec_ShowsAt.l2 w q y row k i = some o := by
  intro k
  induction k with
  | zero => intro i _ _ h; omega
  | succ k ih =>
    intro i hi hk _
    rw [impl_ShowsAt.l2, spec_ShowsAt.l2]
    rw [wrapS (n := (i : Int) + q.length) (by omega) (by omega)]
    by_cases h : (i : Int) + q.length ≤ w
    · rw [if_pos (by simpa using h), if_pos (by simpa using h)]
      have e : ((i : Int) + q.length) = ((i + q.length : Nat) : Int) := by omega
      rw [e, cut?_at (by omega) (by omega)]
      simp only [Option.bind_some]
      have hb : (List.drop i (List.take (i + q.length) row)).length ≤ big := by simp; unfold big; omega
      rw [p_Equal _ _ hb, p_l1Same _ _ hb]
      simp only [Option.bind_some]
      split
      · exact ⟨_, rfl, rfl⟩
      · rw [wrapN i (by omega)]
        exact ih (i + 1) (by omega) (by omega) (by omega)
    · rw [if_neg (by simpa using h), if_neg (by simpa using h)]
      exact ⟨_, rfl, rfl⟩
theorem p_shows1 (w h : Int) (cs q : List Int) (x y : Int) (h1 : 1 ≤ w) (h2 : w ≤ 20) (h4 : h ≤ 8) (hc : (cs.length : Int) = w * h) (hq : q.length ≤ 20) : ∀ (k i : Nat), h - i < k → 0 < k → ∃ o, impl_ShowsAt.l1 w h cs x y q k i = some o ∧ spec_ShowsAt.l1 w h cs q k i = some o := by
  intro k
  induction k with
  | zero => intro i _ h; omega
  | succ k ih =>
    intro i hk _
    rw [impl_ShowsAt.l1, spec_ShowsAt.l1]
    by_cases hi : (i : Int) < h
    · rw [if_pos (by simpa using hi), if_pos (by simpa using hi)]
      obtain ⟨row, hr, e⟩ := p_row w h cs x y i h1 h2 h4 hi hc
      unfold impl_Screen_row.f
      rw [e]
      simp only [Option.bind_some]
      obtain ⟨o, e1, e2⟩ := p_shows2 w q i row hr h2 hq (((w) - (IntKind.i64.wrap (0 + (q.length : Int)))).toNat + 2) 0 (by omega) (by rw [wrapS (by omega) (by omega)]; omega) (by omega)
      rw [show ((0 : Nat) : Int) = 0 from rfl] at e1 e2
      rw [e1, e2]
      simp only [Option.bind_some]
      cases o with
      | go z =>
        simp only [Option.bind_some]
        rw [wrapN i (by omega)]
        exact ih (i + 1) (by omega) (by omega)
      | ret o2 =>
        cases o2 with
        | go z =>
          simp only [Option.bind_some]
          rw [wrapN i (by omega)]
          exact ih (i + 1) (by omega) (by omega)
        | ret o3 => exact ⟨_, rfl, rfl⟩
    · rw [if_neg (by simpa using hi), if_neg (by simpa using hi)]
      exact ⟨_, rfl, rfl⟩
theorem p_ShowsAt (w h : Int) (cs : List Int) (x y : Int) (q : List Int) (hp : cs.length ≤ big) (hq : q.length ≤ big) : ∃ r, impl_ShowsAt.f w h cs x y q = some r ∧ spec_ShowsAt.f w h cs x y q = some r := by
  unfold impl_ShowsAt.f spec_ShowsAt.f
  simp only [p_implScreen w h cs x y hp, p_specScreen w h cs x y hp, Option.bind_some, p_allRunes q hq, p_areRunes q _ hq, p_l1In]
  cases hs : okScreen w h cs x y with
  | false => exact ⟨_, rfl, rfl⟩
  | true =>
    simp only [Bool.not_true, Bool.false_eq_true, if_false]
    by_cases h0 : q.length = 0
    · simp [h0]
    by_cases h20 : q.length ≤ 20
    · cases hr : q.all okRune with
      | false => simp [h0]
      | true =>
        have a1 : (q.length : Int) ≤ 20 := by omega
        have a2 : q.length ≤ 1000 := by omega
        have a3 : 1 ≤ (q.length : Int) := by omega
        simp only [okScreen, Bool.and_eq_true, decide_eq_true_eq] at hs
        obtain ⟨o, e1, e2⟩ := p_shows1 w h cs q x y hs.1.1.1.1.1.1 hs.1.1.1.1.1.2 hs.1.1.1.1.2.2 hs.1.2 h20 (((h) - (0)).toNat + 2) 0 (by omega) (by omega)
        rw [show ((0 : Nat) : Int) = 0 from rfl] at e1 e2
        have b1 : ((q.length : Int) == 0) = false := by rw [beq_eq_false_iff_ne]; omega
        simp only [a1, a2, a3, b1, decide_true, Bool.and_true, Bool.true_and, Bool.not_true, Bool.false_eq_true, if_false, Option.bind_some, e1, e2]
        cases o with
        | go z => exact ⟨_, rfl, rfl⟩
        | ret z => exact ⟨_, rfl, rfl⟩
    · have a1 : ¬ (q.length : Int) ≤ 20 := by omega
      have b1 : ((q.length : Int) == 0) = false := by rw [beq_eq_false_iff_ne]; omega
      cases hr : q.all okRune <;> by_cases a2 : q.length ≤ 1000 <;> simp [a1, a2, b1, h20]
theorem law_ShowsAt (w h : Int) (cs : List Int) (x y : Int) (q : List Int) (_ : inK .i64 w) (_ : inK .i64 h) (hc : allW (inK .i64) cs) (_ : inK .i64 x) (_ : inK .i64 y) (_ : allW (inK .i64) q) : laws_FnExactShowsAt.f w h cs x y q = some true := by
  unfold laws_FnExactShowsAt.f
  by_cases hq : (q.length : Int) > 1048576
  · rw [if_pos (by simpa using hq)]
  rw [if_neg (by simpa using hq)]
  obtain ⟨u, e, hu⟩ := p_szScreen w h cs x y 1048576 (by decide) (by decide) hc.1
  rw [e]
  simp only [Option.bind_some]
  by_cases h0 : u < 0
  · rw [if_pos (by simpa using h0)]
  rw [if_neg (by simpa using h0)]
  have hp : cs.length ≤ big := by unfold big; omega
  have hq' : q.length ≤ big := by unfold big; omega
  obtain ⟨r, e1, e2⟩ := p_ShowsAt w h cs x y q hp hq'
  simp [p_toScreen w h cs x y hp, p_toIntS q hq', e1, e2, p_eqScreen w h cs x y hp, p_eqIntS q q hq']
end Go.Proofs.Ytihocjbngajjkaa
