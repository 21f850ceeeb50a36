/- Plain laws of the printed functions. Conditions as each lemma says. -/
import Derived.Test.YtkieinlcpkpcjaaPB
import Derived.Test.YtkieinlcpkpcjaaWLShown2
set_option linter.unusedVariables false
set_option linter.unusedSimpArgs false
namespace Go.Proofs.Ytkieinlcpkpcjaa
open Go Go.Proofs.GL
theorem p_l1In (a b c : Int) : spec_l1In.f a b c = some (decide (b ≤ a) && decide (a ≤ c)) := by
  unfold spec_l1In.f
  by_cases h : b ≤ a
  · rw [if_pos (by simpa using h)]; simp [h]
  · rw [if_neg (by simpa using h)]; simp [h]
theorem p_inRange (a b c : Int) : impl_inRange.f a b c = some (decide (b ≤ a) && decide (a ≤ c)) := by
  unfold impl_inRange.f
  by_cases h : b ≤ a
  · rw [if_pos (by simpa using h)]; simp [h]
  · rw [if_neg (by simpa using h)]; simp [h]
def okRune (r : Int) : Bool := decide (0 ≤ r) && decide (r ≤ 1114111) && !(decide (55296 ≤ r) && decide (r ≤ 57343))
theorem p_specRune (r : Int) : spec_GoodRune.f r = some (okRune r) := by
  unfold spec_GoodRune.f okRune
  simp only [p_l1In, Option.bind_some]
  cases (decide (0 ≤ r) && decide (r ≤ 1114111)) <;> rfl
theorem p_implRune (r : Int) : impl_GoodRune.f r = some (okRune r) := by
  unfold impl_GoodRune.f okRune
  simp only [p_inRange, Option.bind_some]
  cases (decide (0 ≤ r) && decide (r ≤ 1114111)) <;> rfl
theorem p_allRunes (p : List Int) (hp : p.length ≤ big) : spec_l1AllRunes.f p = some (p.all okRune && decide (p.length ≤ 1000)) := by
  unfold spec_l1AllRunes.f
  have := all_loop p hp (fun u => !okRune u) false (spec_l1AllRunes.l1 p) (fun k i => by rw [spec_l1AllRunes.l1]; simp only [p_specRune, Option.bind_some]) (((p.length : Int) - 0).toNat + 2) 0 (by omega) (by omega)
  rw [show ((0 : Nat) : Int) = 0 from rfl] at this
  rw [this, List.drop_zero]
  have e : p.any (fun u => !okRune u) = !p.all okRune := by rw [List.all_eq_not_any_not]; simp
  rw [e]
  cases h : p.all okRune <;> simp
  omega
theorem mul_le160 {w h : Int} (h1 : 1 ≤ w) (h2 : w ≤ 20) (h3 : 1 ≤ h) (h4 : h ≤ 8) : 1 ≤ w * h ∧ w * h ≤ 160 := by
  have a := Int.mul_le_mul h2 h4 (by omega) (by omega)
  have b := Int.mul_le_mul h1 h3 (by omega) (by omega)
  omega
theorem p_l1All (p : List Int) (a b : Int) (hp : p.length ≤ big) : spec_l1All.f p a b = some (p.all fun u => decide (a ≤ u) && decide (u ≤ b)) := by
  unfold spec_l1All.f
  have := all_loop p hp (fun u => !(decide (a ≤ u) && decide (u ≤ b))) false (spec_l1All.l1 p a b) (fun k i => by rw [spec_l1All.l1]; simp only [p_l1In, Option.bind_some]) (((p.length : Int) - 0).toNat + 2) 0 (by omega) (by omega)
  rw [show ((0 : Nat) : Int) = 0 from rfl] at this
  rw [this, List.drop_zero]
  have e : p.any (fun u => !(decide (a ≤ u) && decide (u ≤ b))) = !p.all fun u => decide (a ≤ u) && decide (u ≤ b) := by rw [List.all_eq_not_any_not]; simp
  rw [e]
  cases h : p.all fun u => decide (a ≤ u) && decide (u ≤ b) <;> simp
def okCell (r : Int) : Bool := okRune r && decide (32 ≤ r)
theorem p_goodCells (p : List Int) (hp : p.length ≤ big) : slices_ContainsFunc_int_int_impl_GoodScreen_1.f p = some (!p.all okCell) := by
  unfold slices_ContainsFunc_int_int_impl_GoodScreen_1.f slices_IndexFunc_int_int_impl_GoodScreen_1.f
  have e1 : ∀ u, impl_GoodScreen_1.f u = some (!okCell u) := fun u => by
    unfold impl_GoodScreen_1.f okCell
    simp only [p_implRune, Option.bind_some]
    by_cases h : u < 32
    · rw [if_pos (by simpa using h)]; simp; exact .inr h
    · rw [if_neg (by simpa using h)]
      have : decide (32 ≤ u) = true := by simp; omega
      simp [this]
  have := scan_loop p hp (fun u => !okCell u) (fun i _ => i) (slices_IndexFunc_int_int_impl_GoodScreen_1.l1 p) (fun k i => by rw [slices_IndexFunc_int_int_impl_GoodScreen_1.l1]; simp only [e1, Option.bind_some]) (((p.length : Int) - 0).toNat + 2) 0 (by omega) (by omega)
  rw [show ((0 : Nat) : Int) = 0 from rfl] at this
  rw [this, List.drop_zero]
  have e : p.all okCell = !(p.any fun u => !okCell u) := List.all_eq_not_any_not
  rw [e, Bool.not_not]
  cases hf : p.findIdx? (fun u => !okCell u) with
  | none =>
    have : p.any (fun u => !okCell u) = false := by
      rw [List.findIdx?_eq_none_iff] at hf
      simpa using hf
    rw [this]; simp
  | some j =>
    obtain ⟨hj, h1, h2⟩ := List.findIdx?_eq_some_iff_getElem.1 hf
    have : p.any (fun u => !okCell u) = true := List.any_eq_true.2 ⟨_, List.getElem_mem hj, h1⟩
    rw [this]
    simp [hj]
/-- A good screen. -/
def okScreen (w h : Int) (cs : List Int) (x y : Int) : Bool := decide (1 ≤ w) && decide (w ≤ 20) && (decide (1 ≤ h) && decide (h ≤ 8)) && (decide (0 ≤ x) && decide (x ≤ w)) && (decide (0 ≤ y) && decide (y < h)) && decide ((cs.length : Int) = w * h) && cs.all okCell
theorem p_specScreen (w h : Int) (cs : List Int) (x y : Int) (hp : cs.length ≤ big) : spec_GoodScreen.f w h cs x y = some (okScreen w h cs x y) := by
  unfold spec_GoodScreen.f okScreen
  simp only [p_l1In, Option.bind_some, p_allRunes cs hp, p_l1All cs _ _ hp]
  by_cases h1 : 1 ≤ w ∧ w ≤ 20
  · by_cases h2 : 1 ≤ h ∧ h ≤ 8
    · obtain ⟨m1, m2⟩ := mul_le160 h1.1 h1.2 h2.1 h2.2
      rw [wrapS (n := h - 1) (by omega) (by omega), wrapS (n := w * h) (by omega) (by omega)]
      by_cases h3 : 0 ≤ x ∧ x ≤ w
      · by_cases h4 : 0 ≤ y ∧ y < h
        · by_cases h5 : (cs.length : Int) = w * h
          · have h6 : cs.length ≤ 1000 := by omega
            have h7 : y ≤ h - 1 := by omega
            have e : (cs.all okRune && cs.all fun u => decide (32 ≤ u) && decide (u ≤ 1114111)) = cs.all okCell := by
              rw [Bool.eq_iff_iff]
              simp only [Bool.and_eq_true, List.all_eq_true, okCell, okRune, decide_eq_true_eq, Bool.not_eq_true', Bool.and_eq_false_iff, decide_eq_false_iff_not]
              constructor
              · rintro ⟨a, b⟩ u hu
                exact ⟨a u hu, (b u hu).1⟩
              · intro a
                exact ⟨fun u hu => (a u hu).1, fun u hu => ⟨(a u hu).2, (a u hu).1.1.2⟩⟩
            rw [← e]
            generalize cs.all okRune = a1
            generalize (cs.all fun u => decide (32 ≤ u) && decide (u ≤ 1114111)) = a2
            simp [h1, h2, h3, h4, h5, h6, h7]
            cases a1 <;> simp
          · have h7 : ¬ (h - 1 < y) := by omega
            simp [h1, h2, h3, h4, h5, h7]
        · have h7 : ¬ (0 ≤ y ∧ y ≤ h - 1) := by omega
          have e1 : (decide (0 ≤ y) && decide (y ≤ h - 1)) = false := by simpa using h7
          have e2 : (decide (0 ≤ y) && decide (y < h)) = false := by simpa using h4
          simp [h1, h2, h3, e1, e2]
      · have e1 : (decide (0 ≤ x) && decide (x ≤ w)) = false := by simpa using h3
        simp [h1, h2, e1]
    · have e1 : (decide (1 ≤ h) && decide (h ≤ 8)) = false := by simpa using h2
      simp [h1, e1]
  · have e1 : (decide (1 ≤ w) && decide (w ≤ 20)) = false := by simpa using h1
    simp [e1]
theorem p_implScreen (w h : Int) (cs : List Int) (x y : Int) (hp : cs.length ≤ big) : impl_GoodScreen.f w h cs x y = some (okScreen w h cs x y) := by
  unfold impl_GoodScreen.f okScreen impl_isPlace.f
  simp only [p_inRange, Option.bind_some, p_goodCells cs hp]
  by_cases h1 : 1 ≤ w ∧ w ≤ 20
  · by_cases h2 : 1 ≤ h ∧ h ≤ 8
    · obtain ⟨m1, m2⟩ := mul_le160 h1.1 h1.2 h2.1 h2.2
      rw [wrapS (n := h - 1) (by omega) (by omega), wrapS (n := w * h) (by omega) (by omega)]
      by_cases h3 : 0 ≤ x ∧ x ≤ w
      · by_cases h4 : 0 ≤ y ∧ y < h
        · have h7 : y ≤ h - 1 := by omega
          by_cases h5 : (cs.length : Int) = w * h
          · simp [h1, h2, h3, h4, h5, h7]
          · simp [h1, h2, h3, h4, h5]
        · have h7 : ¬ (0 ≤ y ∧ y ≤ h - 1) := by omega
          have e1 : (decide (0 ≤ y) && decide (y ≤ h - 1)) = false := by simpa using h7
          have e2 : (decide (0 ≤ y) && decide (y < h)) = false := by simpa using h4
          simp [h1, h2, h3, e1, e2]
      · have e1 : (decide (0 ≤ x) && decide (x ≤ w)) = false := by simpa using h3
        simp [h1, h2, e1]
    · have e1 : (decide (1 ≤ h) && decide (h ≤ 8)) = false := by simpa using h2
      simp [h1, e1]
  · have e1 : (decide (1 ≤ w) && decide (w ≤ 20)) = false := by simpa using h1
    simp [e1]
theorem p_l1Same (p q : List Int) (hp : p.length ≤ big) : spec_l1Same.f p q = some (decide (p = q)) :=
  eq_all p q hp (spec_l1Same.l1 p q) _ (by omega) fun _ _ _ => rfl
theorem p_Equal (p q : List Int) (hp : p.length ≤ big) : slices_Equal_int_int.f p q = some (decide (p = q)) :=
  eq_all p q hp (slices_Equal_int_int.l1 p q) _ (by omega) fun _ _ _ => rfl
theorem p_areRunes (p : List Int) (n : Int) (hp : p.length ≤ big) : impl_areRunes.f p n = some (decide ((p.length : Int) ≤ n) && p.all okRune) := by
  unfold impl_areRunes.f slices_ContainsFunc_int_int_impl_areRunes_1.f slices_IndexFunc_int_int_impl_areRunes_1.f
  by_cases h : (p.length : Int) ≤ n
  · rw [if_pos (by simpa using h)]
    have := scan_loop p hp (fun u => !okRune u) (fun i _ => i) (slices_IndexFunc_int_int_impl_areRunes_1.l1 p) (fun k i => by rw [slices_IndexFunc_int_int_impl_areRunes_1.l1]; simp only [impl_areRunes_1.f, p_implRune, Option.bind_some]) (((p.length : Int) - 0).toNat + 2) 0 (by omega) (by omega)
    rw [show ((0 : Nat) : Int) = 0 from rfl] at this
    rw [this, List.drop_zero]
    have e : p.all okRune = !(p.any fun u => !okRune u) := List.all_eq_not_any_not
    rw [e]
    cases hf : p.findIdx? (fun u => !okRune u) with
    | none =>
      have : p.any (fun u => !okRune u) = false := by
        rw [List.findIdx?_eq_none_iff] at hf
        simpa using hf
      rw [this]; simp [h]
    | some j =>
      obtain ⟨hj, h1, h2⟩ := List.findIdx?_eq_some_iff_getElem.1 hf
      have : p.any (fun u => !okRune u) = true := List.any_eq_true.2 ⟨_, List.getElem_mem hj, h1⟩
      rw [this]
      simp [hj]
  · rw [if_neg (by simpa using h)]
    simp [h]
theorem mul_row {w h : Int} {y : Nat} (h1 : 1 ≤ w) (h2 : w ≤ 20) (h4 : h ≤ 8) (hy : (y : Int) < h) : ∃ a b : Nat, (a : Int) = y * w ∧ (b : Int) = (y + 1) * w ∧ (b : Int) ≤ w * h ∧ b = a + w.toNat ∧ (a : Int) ≤ 160 ∧ (b : Int) ≤ 160 := by
  obtain ⟨n, rfl⟩ := Int.eq_ofNat_of_zero_le (show 0 ≤ w by omega)
  obtain ⟨m, rfl⟩ := Int.eq_ofNat_of_zero_le (show 0 ≤ h by omega)
  have hym : y + 1 ≤ m := by omega
  have e1 : (y + 1) * n ≤ m * n := Nat.mul_le_mul_right _ hym
  have e2 : m * n ≤ 8 * 20 := Nat.mul_le_mul (by omega) (by omega)
  refine ⟨y * n, (y + 1) * n, by simp, by simp, ?_, by rw [Nat.succ_mul]; simp, ?_, by omega⟩
  · rw [Int.mul_comm]; exact_mod_cast e1
  · have : y * n ≤ (y + 1) * n := Nat.mul_le_mul_right _ (by omega)
    omega
theorem p_row (w h : Int) (cs : List Int) (x y0 : Int) (y : Nat) (h1 : 1 ≤ w) (h2 : w ≤ 20) (h4 : h ≤ 8) (hy : (y : Int) < h) (hc : (cs.length : Int) = w * h) : ∃ row : List Int, (row.length : Int) = w ∧ cut? cs (IntKind.i64.wrap ((y : Int) * w)) (IntKind.i64.wrap ((IntKind.i64.wrap ((y : Int) + 1)) * w)) = some row := by
  obtain ⟨a, b, e1, e2, e3, e4, e5, e6⟩ := mul_row h1 h2 h4 hy
  rw [wrapS (n := (y : Int) + 1) (by omega) (by omega), ← e1, ← e2, wrapS (by omega) (by omega), wrapS (by omega) (by omega), cut?_at (by omega) (by omega)]
  exact ⟨_, by simp; omega, rfl⟩
theorem p_shows2 (w : Int) (q : List Int) (y : Int) (row : List Int) (hr : (row.length : Int) = w) (hw : w ≤ 20) (hq : q.length ≤ 20) : ∀ (k i : Nat), (i : Int) ≤ w + 1 → w - q.length - i + 1 < k → 0 < k → ∃ o, impl_ShowsAt.l2 w q y row k i = some o ∧ spec_ShowsAt.l2 w q y row k i = some o := by
  intro k
  induction k with
  | zero => intro i _ _ h; omega
  | succ k ih =>
    intro i hi hk _
    rw [impl_ShowsAt.l2, spec_ShowsAt.l2]
    rw [wrapS (n := (i : Int) + q.length) (by omega) (by omega)]
    by_cases h : (i : Int) + q.length ≤ w
    · rw [if_pos (by simpa using h), if_pos (by simpa using h)]
      have e : ((i : Int) + q.length) = ((i + q.length : Nat) : Int) := by omega
      rw [e, cut?_at (by omega) (by omega)]
      simp only [Option.bind_some]
      have hb : (List.drop i (List.take (i + q.length) row)).length ≤ big := by simp; unfold big; omega
      rw [p_Equal _ _ hb, p_l1Same _ _ hb]
      simp only [Option.bind_some]
      split
      · exact ⟨_, rfl, rfl⟩
      · rw [wrapN i (by omega)]
        exact ih (i + 1) (by omega) (by omega) (by omega)
    · rw [if_neg (by simpa using h), if_neg (by simpa using h)]
      exact ⟨_, rfl, rfl⟩
theorem p_shows1 (w h : Int) (cs q : List Int) (x y : Int) (h1 : 1 ≤ w) (h2 : w ≤ 20) (h4 : h ≤ 8) (hc : (cs.length : Int) = w * h) (hq : q.length ≤ 20) : ∀ (k i : Nat), h - i < k → 0 < k → ∃ o, impl_ShowsAt.l1 w h cs x y q k i = some o ∧ spec_ShowsAt.l1 w h cs q k i = some o := by
  intro k
  induction k with
  | zero => intro i _ h; omega
  | succ k ih =>
    intro i hk _
    rw [impl_ShowsAt.l1, spec_ShowsAt.l1]
    by_cases hi : (i : Int) < h
    · rw [if_pos (by simpa using hi), if_pos (by simpa using hi)]
      obtain ⟨row, hr, e⟩ := p_row w h cs x y i h1 h2 h4 hi hc
      unfold impl_Screen_row.f
      rw [e]
      simp only [Option.bind_some]
      obtain ⟨o, e1, e2⟩ := p_shows2 w q i row hr h2 hq (((w) - (IntKind.i64.wrap (0 + (q.length : Int)))).toNat + 2) 0 (by omega) (by rw [wrapS (by omega) (by omega)]; omega) (by omega)
      rw [show ((0 : Nat) : Int) = 0 from rfl] at e1 e2
      rw [e1, e2]
      simp only [Option.bind_some]
      cases o with
      | go z =>
        simp only [Option.bind_some]
        rw [wrapN i (by omega)]
        exact ih (i + 1) (by omega) (by omega)
      | ret o2 =>
        cases o2 with
        | go z =>
          simp only [Option.bind_some]
          rw [wrapN i (by omega)]
          exact ih (i + 1) (by omega) (by omega)
        | ret o3 => exact ⟨_, rfl, rfl⟩
    · rw [if_neg (by simpa using hi), if_neg (by simpa using hi)]
      exact ⟨_, rfl, rfl⟩
theorem p_ShowsAt (w h : Int) (cs : List Int) (x y : Int) (q : List Int) (hp : cs.length ≤ big) (hq : q.length ≤ big) : ∃ r, impl_ShowsAt.f w h cs x y q = some r ∧ spec_ShowsAt.f w h cs x y q = some r := by
  unfold impl_ShowsAt.f spec_ShowsAt.f
  simp only [p_implScreen w h cs x y hp, p_specScreen w h cs x y hp, Option.bind_some, p_allRunes q hq, p_areRunes q _ hq, p_l1In]
  cases hs : okScreen w h cs x y with
  | false => exact ⟨_, rfl, rfl⟩
  | true =>
    simp only [Bool.not_true, Bool.false_eq_true, if_false]
    by_cases h0 : q.length = 0
    · simp [h0]
    by_cases h20 : q.length ≤ 20
    · cases hr : q.all okRune with
      | false => simp [h0]
      | true =>
        have a1 : (q.length : Int) ≤ 20 := by omega
        have a2 : q.length ≤ 1000 := by omega
        have a3 : 1 ≤ (q.length : Int) := by omega
        simp only [okScreen, Bool.and_eq_true, decide_eq_true_eq] at hs
        obtain ⟨o, e1, e2⟩ := p_shows1 w h cs q x y hs.1.1.1.1.1.1 hs.1.1.1.1.1.2 hs.1.1.1.1.2.2 hs.1.2 h20 (((h) - (0)).toNat + 2) 0 (by omega) (by omega)
        rw [show ((0 : Nat) : Int) = 0 from rfl] at e1 e2
        have b1 : ((q.length : Int) == 0) = false := by rw [beq_eq_false_iff_ne]; omega
        simp only [a1, a2, a3, b1, decide_true, Bool.and_true, Bool.true_and, Bool.not_true, Bool.false_eq_true, if_false, Option.bind_some, e1, e2]
        cases o with
        | go z => exact ⟨_, rfl, rfl⟩
        | ret z => exact ⟨_, rfl, rfl⟩
    · have a1 : ¬ (q.length : Int) ≤ 20 := by omega
      have b1 : ((q.length : Int) == 0) = false := by rw [beq_eq_false_iff_ne]; omega
      cases hr : q.all okRune <;> by_cases a2 : q.length ≤ 1000 <;> simp [a1, a2, b1, h20]
/-- Whether a list stands at a place of a screen. -/
def at2 (W : Nat) (cs q : List Int) (y x : Nat) : Bool := decide ((cs.drop (y * W + x)).take q.length = q)
theorem row_at (cs : List Int) (m W y x : Nat) (hx : x + m ≤ W) : ((((cs.take (y * W + W)).drop (y * W)).take (x + m)).drop x) = (cs.drop (y * W + x)).take m := by
  apply List.ext_getElem?
  intro i
  simp only [List.getElem?_drop, List.getElem?_take]
  by_cases hi : i < m
  · rw [if_pos (by omega), if_pos (by omega), if_pos hi, show y * W + (x + i) = y * W + x + i by omega]
  · rw [if_neg (by omega), if_neg hi]
theorem p_found2 (W : Nat) (cs q row : List Int) (y : Nat) (hrow : row = (cs.take (y * W + W)).drop (y * W)) (hr : row.length = W) (hW : W ≤ 20) (hq : q.length ≤ 20) : ∀ (k i : Nat), (i : Int) ≤ W + 1 → (W : Int) - q.length - i + 1 < k → 0 < k → ∃ o, impl_ShowsAt.l2 W q y row k i = some o ∧ ((o = .go () ∧ ∀ x, i ≤ x → x + q.length ≤ W → at2 W cs q y x = false) ∨ ∃ x : Nat, o = .ret (.ret (.ret ((y : Int), (x : Int), true))) ∧ i ≤ x ∧ x + q.length ≤ W ∧ at2 W cs q y x = true ∧ ∀ x', i ≤ x' → x' < x → at2 W cs q y x' = false) := by
  intro k
  induction k with
  | zero => intro i _ _ h; omega
  | succ k ih =>
    intro i hi hk _
    rw [impl_ShowsAt.l2]
    rw [wrapS (n := (i : Int) + q.length) (by omega) (by omega)]
    by_cases h : (i : Int) + q.length ≤ W
    · rw [if_pos (by simpa using h)]
      have e : ((i : Int) + q.length) = ((i + q.length : Nat) : Int) := by omega
      rw [e, cut?_at (by omega) (by omega)]
      simp only [Option.bind_some]
      have hb : (List.drop i (List.take (i + q.length) row)).length ≤ big := by simp; unfold big; omega
      rw [p_Equal _ _ hb]
      simp only [Option.bind_some]
      have ea : decide (List.drop i (List.take (i + q.length) row) = q) = at2 W cs q y i := by
        unfold at2
        rw [hrow, row_at cs q.length W y i (by omega)]
      rw [ea]
      cases hc : at2 W cs q y i with
      | true =>
        simp only [if_true]
        exact ⟨_, rfl, .inr ⟨i, rfl, Nat.le_refl _, by omega, hc, fun x' h1 h2 => by omega⟩⟩
      | false =>
        simp only [Bool.false_eq_true, if_false]
        rw [wrapN i (by omega)]
        obtain ⟨o, e1, e2⟩ := ih (i + 1) (by omega) (by omega) (by omega)
        refine ⟨o, e1, ?_⟩
        rcases e2 with ⟨e2, e3⟩ | ⟨x, e2, e3, e4, e5, e6⟩
        · refine .inl ⟨e2, fun x h1 h2 => ?_⟩
          by_cases hx : x = i
          · rw [hx]; exact hc
          · exact e3 x (by omega) h2
        · refine .inr ⟨x, e2, by omega, e4, e5, fun x' h1 h2 => ?_⟩
          by_cases hx : x' = i
          · rw [hx]; exact hc
          · exact e6 x' (by omega) h2
    · rw [if_neg (by simpa using h)]
      exact ⟨_, rfl, .inl ⟨rfl, fun x h1 h2 => by omega⟩⟩
theorem p_rowN (w h : Int) (cs : List Int) (x y0 : Int) (y W : Nat) (hw : w = W) (h1 : 1 ≤ w) (h2 : w ≤ 20) (h4 : h ≤ 8) (hy : (y : Int) < h) (hc : (cs.length : Int) = w * h) : impl_Screen_row.f w h cs x y0 y = some ((cs.take (y * W + W)).drop (y * W)) ∧ ((cs.take (y * W + W)).drop (y * W)).length = W := by
  obtain ⟨a, b, e1, e2, e3, e4, e5, e6⟩ := mul_row h1 h2 h4 hy
  have ha : a = y * W := by rw [hw] at e1; exact_mod_cast e1
  have hb : b = y * W + W := by rw [e4, ha]; omega
  unfold impl_Screen_row.f
  rw [wrapS (n := (y : Int) + 1) (by omega) (by omega), ← e1, ← e2, wrapS (by omega) (by omega), wrapS (by omega) (by omega), cut?_at (by omega) (by omega)]
  subst ha hb
  exact ⟨rfl, by simp; omega⟩
theorem p_found1 (w h : Int) (cs q : List Int) (x0 y0 : Int) (W H : Nat) (hw : w = W) (hh : h = H) (h1 : 1 ≤ w) (h2 : w ≤ 20) (h4 : h ≤ 8) (hc : (cs.length : Int) = w * h) (hq : q.length ≤ 20) : ∀ (k i : Nat), h - i < k → 0 < k → ∃ o, impl_ShowsAt.l1 w h cs x0 y0 q k i = some o ∧ ((o = .go () ∧ ∀ y x : Nat, i ≤ y → y < H → x + q.length ≤ W → at2 W cs q y x = false) ∨ ∃ y x : Nat, o = .ret ((y : Int), (x : Int), true) ∧ i ≤ y ∧ y < H ∧ x + q.length ≤ W ∧ at2 W cs q y x = true ∧ ∀ y' x' : Nat, i ≤ y' → (y' < y ∨ y' = y ∧ x' < x) → x' + q.length ≤ W → at2 W cs q y' x' = false) := by
  intro k
  induction k with
  | zero => intro i _ h; omega
  | succ k ih =>
    intro i hk _
    rw [impl_ShowsAt.l1]
    by_cases hi : (i : Int) < h
    · rw [if_pos (by simpa using hi)]
      obtain ⟨e, hr⟩ := p_rowN w h cs x0 y0 i W hw h1 h2 h4 hi hc
      rw [e]
      simp only [Option.bind_some]
      obtain ⟨o, e1, e2⟩ := p_found2 W cs q _ i rfl hr (by omega) hq (((w) - (IntKind.i64.wrap (0 + (q.length : Int)))).toNat + 2) 0 (by omega) (by rw [wrapS (by omega) (by omega)]; omega) (by omega)
      rw [show ((0 : Nat) : Int) = 0 from rfl] at e1
      rw [← hw] at e1
      rw [e1]
      simp only [Option.bind_some]
      rcases e2 with ⟨rfl, e3⟩ | ⟨x, rfl, e3, e4, e5, e6⟩
      · simp only [Option.bind_some]
        rw [wrapN i (by omega)]
        obtain ⟨o, g1, g2⟩ := ih (i + 1) (by omega) (by omega)
        refine ⟨o, g1, ?_⟩
        rcases g2 with ⟨g2, g3⟩ | ⟨y, x, g2, g3, g4, g5, g6, g7⟩
        · refine .inl ⟨g2, fun y x a1 a2 a3 => ?_⟩
          by_cases hy : y = i
          · rw [hy]; exact e3 x (Nat.zero_le _) a3
          · exact g3 y x (by omega) a2 a3
        · refine .inr ⟨y, x, g2, by omega, g4, g5, g6, fun y' x' a1 a2 a3 => ?_⟩
          by_cases hy : y' = i
          · rw [hy]; exact e3 x' (Nat.zero_le _) a3
          · exact g7 y' x' (by omega) a2 a3
      · simp only [Option.bind_some]
        refine ⟨_, rfl, .inr ⟨i, x, rfl, Nat.le_refl _, by omega, e4, e5, fun y' x' a1 a2 a3 => ?_⟩⟩
        obtain rfl : y' = i := by omega
        exact e6 x' (Nat.zero_le _) (by omega)
    · rw [if_neg (by simpa using hi)]
      exact ⟨_, rfl, .inl ⟨rfl, fun y x a1 a2 _ => by omega⟩⟩
theorem p_ShowsF (w h : Int) (cs : List Int) (x y : Int) (q : List Int) (hp : cs.length ≤ big) (hq : q.length ≤ big) : ∃ r, impl_ShowsAt.f w h cs x y q = some r ∧ ((r = (0, 0, false) ∧ (okScreen w h cs x y = true → 1 ≤ q.length → q.length ≤ 20 → q.all okRune = true → ∀ Y X : Nat, (Y : Int) < h → X + q.length ≤ w.toNat → at2 w.toNat cs q Y X = false)) ∨ ∃ Y X : Nat, r = ((Y : Int), (X : Int), true) ∧ okScreen w h cs x y = true ∧ q.length ≤ 20 ∧ (Y : Int) < h ∧ X + q.length ≤ w.toNat ∧ at2 w.toNat cs q Y X = true ∧ ∀ Y' X' : Nat, (Y' < Y ∨ Y' = Y ∧ X' < X) → X' + q.length ≤ w.toNat → at2 w.toNat cs q Y' X' = false) := by
  unfold impl_ShowsAt.f
  simp only [p_implScreen w h cs x y hp, Option.bind_some, p_areRunes q _ hq]
  cases hs : okScreen w h cs x y with
  | false => exact ⟨_, rfl, .inl ⟨rfl, fun h => by cases h⟩⟩
  | true =>
    simp only [Bool.not_true, Bool.false_eq_true, if_false]
    by_cases h0 : q.length = 0
    · exact ⟨(0, 0, false), by simp [h0], .inl ⟨rfl, fun _ h => by omega⟩⟩
    by_cases h20 : q.length ≤ 20
    · cases hr : q.all okRune with
      | false => exact ⟨(0, 0, false), by simp [h0], .inl ⟨rfl, fun _ _ _ h => by cases h⟩⟩
      | true =>
        have a1 : (q.length : Int) ≤ 20 := by omega
        have hs' := hs
        simp only [okScreen, Bool.and_eq_true, decide_eq_true_eq] at hs
        obtain ⟨W, hW⟩ := Int.eq_ofNat_of_zero_le (show 0 ≤ w by omega)
        obtain ⟨H, hH⟩ := Int.eq_ofNat_of_zero_le (show 0 ≤ h by omega)
        obtain ⟨o, e1, e2⟩ := p_found1 w h cs q x y W H hW hH hs.1.1.1.1.1.1 hs.1.1.1.1.1.2 hs.1.1.1.1.2.2 hs.1.2 h20 (((h) - (0)).toNat + 2) 0 (by omega) (by omega)
        rw [show ((0 : Nat) : Int) = 0 from rfl] at e1
        have b1 : ((q.length : Int) == 0) = false := by rw [beq_eq_false_iff_ne]; omega
        have ew : w.toNat = W := by omega
        simp only [a1, b1, decide_true, Bool.and_true, Bool.true_and, Bool.not_true, Bool.false_eq_true, if_false, Option.bind_some, e1, ew]
        rcases e2 with ⟨rfl, e3⟩ | ⟨Y, X, rfl, e3, e4, e5, e6, e7⟩
        · exact ⟨_, rfl, .inl ⟨rfl, fun _ _ _ _ Y X a1 a2 => e3 Y X (Nat.zero_le _) (by omega) a2⟩⟩
        · exact ⟨_, rfl, .inr ⟨Y, X, rfl, trivial, h20, by omega, e5, e6, fun Y' X' a1 a2 => e7 Y' X' (Nat.zero_le _) a1 a2⟩⟩
    · have a1 : ¬ (q.length : Int) ≤ 20 := by omega
      have b1 : ((q.length : Int) == 0) = false := by rw [beq_eq_false_iff_ne]; omega
      exact ⟨(0, 0, false), by cases hr : q.all okRune <;> simp [a1, b1], .inl ⟨rfl, fun _ _ h => by omega⟩⟩
theorem p_repeat : ∀ n : Nat, n < 161 → slices_Repeat_int_int.f [32] (n : Int) = some (List.replicate n 32) := by decide +kernel
theorem p_own (x : List Int) (hx : x.length ≤ big) : spec_l1Own.f x = some x := by
  unfold spec_l1Own.f
  unfold big at hx
  rw [app?_at (by simpa using hx)]
  rfl
theorem p_clone (x : List Int) (hx : x.length ≤ big) : slices_Clone_int_int.f x = some x := by
  unfold slices_Clone_int_int.f
  unfold big at hx
  rw [app?_at (by simpa using hx)]
  rfl
theorem cut0 {x : List Int} {n : Nat} (h : n ≤ x.length) : cut? x 0 (n : Int) = some (x.take n) := by
  have := cut?_at (xs := x) (a := 0) (b := n) (by omega) h
  rw [show ((0 : Nat) : Int) = 0 from rfl] at this
  simpa using this
theorem cutE {x : List Int} {n : Nat} (h : n ≤ x.length) : cut? x (n : Int) (x.length : Int) = some (x.drop n) := by
  have := cut?_at (xs := x) (a := n) (b := x.length) h (by omega)
  simpa using this
theorem p_grow (n : Nat) (hn : n ≤ big) : slices_Grow_int_int_nil.f (n : Int) = some [] := by
  unfold slices_Grow_int_int_nil.f
  unfold big at hn
  have e0 : IntKind.i64.wrap (0 - 0) = 0 := by decide
  have e1 : IntKind.i64.wrap ((n : Int) - 0) = n := by rw [Int.sub_zero]; exact wrapS (by omega) (by omega)
  rw [if_neg (by simp), e0, e1]
  by_cases h : 0 < n
  · rw [if_pos (by simpa using h), mk?_at (by omega)]
    have c1 : cut? ([] : List Int) 0 0 = some [] := cut0 (x := []) (n := 0) (by simp)
    have c2 : cut? (List.replicate n (0 : Int)) 0 0 = some [] := by simpa using cut0 (x := List.replicate n (0 : Int)) (n := 0) (by simp)
    rw [c1]
    simp only [Option.bind_some]
    rw [c2]
    rfl
  · rw [if_neg (by simpa using h)]
    rfl
theorem p_concat (a b : List Int) (h : a.length + b.length ≤ big) : slices_Concat_int_int.f [a, b] = some (a ++ b) := by
  have hh : a.length + b.length ≤ big := h
  unfold big at h
  have l1 : slices_Concat_int_int.l1 [a, b] 4 0 0 = some (((a.length + b.length : Nat)) : Int) := by
    rw [slices_Concat_int_int.l1]
    have w1 : IntKind.i64.wrap (0 + (a.length : Int)) = a.length := by rw [Int.zero_add]; exact wrapS (by omega) (by omega)
    have w2 : IntKind.i64.wrap ((a.length : Int) + (b.length : Int)) = ((a.length + b.length : Nat) : Int) := by rw [wrapS (by omega) (by omega)]; omega
    have i1 : IntKind.i64.wrap (0 + 1) = 1 := by decide
    have i2 : IntKind.i64.wrap (1 + 1) = 2 := by decide
    have r0 : rd? [a, b] 0 = some a := rd?_at (xs := [a, b]) (i := 0) (by simp)
    have r1 : rd? [a, b] 1 = some b := rd?_at (xs := [a, b]) (i := 1) (by simp)
    rw [if_pos (by simp), r0]
    simp only [Option.bind_some]
    rw [w1, if_neg (by simp), i1, slices_Concat_int_int.l1, if_pos (by simp), r1]
    simp only [Option.bind_some]
    rw [w2, if_neg (by simp; omega), i2, slices_Concat_int_int.l1, if_neg (by simp)]
  have l2 : slices_Concat_int_int.l2 [a, b] 4 [] 0 = some (a ++ b) := by
    have i1 : IntKind.i64.wrap (0 + 1) = 1 := by decide
    have i2 : IntKind.i64.wrap (1 + 1) = 2 := by decide
    have r0 : rd? [a, b] 0 = some a := rd?_at (xs := [a, b]) (i := 0) (by simp)
    have r1 : rd? [a, b] 1 = some b := rd?_at (xs := [a, b]) (i := 1) (by simp)
    rw [slices_Concat_int_int.l2, if_pos (by simp), r0]
    simp only [Option.bind_some]
    rw [app?_at (by simp; omega)]
    simp only [Option.bind_some, List.nil_append]
    rw [i1, slices_Concat_int_int.l2, if_pos (by simp), r1]
    simp only [Option.bind_some]
    rw [app?_at (by omega)]
    simp only [Option.bind_some]
    rw [i2, slices_Concat_int_int.l2, if_neg (by simp)]
  unfold slices_Concat_int_int.f
  show (slices_Concat_int_int.l1 [a, b] 4 0 0).bind _ = _
  rw [l1]
  simp only [Option.bind_some]
  rw [p_grow _ hh]
  simp only [Option.bind_some]
  show (slices_Concat_int_int.l2 [a, b] 4 [] 0).bind _ = _
  rw [l2]
  rfl
theorem p_l16New_l2 (w h : Int) (n : Nat) (hn : w * h = n) (hb : n ≤ 1000) : ∀ (k i : Nat), i ≤ n → n - i < k → spec_l16New.l1 w h k i (List.replicate i 32) = some (List.replicate n 32) := by
  intro k
  induction k with
  | zero => intro i _ h; omega
  | succ k ih =>
    intro i hi hk
    rw [spec_l16New.l1, hn, wrapS (by omega) (by omega)]
    by_cases h1 : i < n
    · rw [if_pos (by simpa using h1), app?_at (by simp; omega)]
      simp only [Option.bind_some]
      rw [wrapN i (by omega), show List.replicate i (32 : Int) ++ [32] = List.replicate (i + 1) 32 by rw [List.replicate_succ']]
      exact ih (i + 1) h1 (by omega)
    · rw [if_neg (by simpa using h1)]
      obtain rfl : i = n := by omega
      rfl
theorem p_newScr (w h : Int) (n : Nat) (hn : w * h = n) (hb : n ≤ 160) : impl_newScreen.f w h = some (w, h, List.replicate n 32, 0, 0) ∧ spec_l16New.f w h = some (w, h, List.replicate n 32, 0, 0) := by
  have e1 := p_repeat n (by omega)
  have e2 := p_l16New_l2 w h n hn (by omega) (((n : Int) - 0).toNat + 2) 0 (by omega) (by omega)
  rw [show ((0 : Nat) : Int) = 0 from rfl, show List.replicate 0 (32 : Int) = [] from rfl] at e2
  constructor
  · unfold impl_newScreen.f
    rw [hn, wrapS (by omega) (by omega), e1]
    rfl
  · unfold spec_l16New.f
    rw [hn, wrapS (by omega) (by omega), e2]
    rfl
structure Inv (w h : Int) (cs : List Int) (x y : Int) : Prop where
  w0 : 1 ≤ w
  w1 : w ≤ 20
  h0 : 1 ≤ h
  h1 : h ≤ 8
  x0 : 0 ≤ x
  x1 : x ≤ w
  y0 : 0 ≤ y
  y1 : y < h
  c : (cs.length : Int) = w * h
  g : cs.all okCell = true
theorem Inv.len {w h : Int} {cs : List Int} {x y : Int} (I : Inv w h cs x y) : cs.length ≤ 160 := by
  obtain ⟨m1, m2⟩ := mul_le160 I.w0 I.w1 I.h0 I.h1
  have := I.c
  omega
theorem p_down_l (n : Nat) (hb : n ≤ 1000) (base : List Int) (hB : base.length ≤ 1000) : ∀ (k i : Nat), i ≤ n → n - i < k → spec_l16Down.l1 (n : Int) k i (base ++ List.replicate i 32) = some (base ++ List.replicate n 32) := by
  intro k
  induction k with
  | zero => intro i _ h; omega
  | succ k ih =>
    intro i hi hk
    rw [spec_l16Down.l1]
    by_cases h1 : i < n
    · rw [if_pos (by simpa using h1), app?_at (by simp; omega)]
      simp only [Option.bind_some]
      rw [wrapN i (by omega), List.append_assoc, show List.replicate i (32 : Int) ++ [32] = List.replicate (i + 1) 32 by rw [List.replicate_succ']]
      exact ih (i + 1) h1 (by omega)
    · rw [if_neg (by simpa using h1)]
      obtain rfl : i = n := by omega
      rfl
theorem all_blank (n : Nat) : (List.replicate n (32 : Int)).all okCell = true := List.all_eq_true.2 fun u hu => by
  rw [(List.mem_replicate.1 hu).2]; decide
theorem p_down {w h : Int} {cs : List Int} {x y : Int} (I : Inv w h cs x y) : ∃ cs' y', impl_Screen_down.f w h cs x y = some (cs', 0, y') ∧ spec_l16Down.f w h cs x y = some (w, h, cs', 0, y') ∧ Inv w h cs' 0 y' := by
  have hl := I.len
  obtain ⟨n, hn⟩ := Int.eq_ofNat_of_zero_le (show 0 ≤ w by have := I.w0; omega)
  have i1 := I.w0; have i2 := I.w1; have i3 := I.h0; have i4 := I.h1; have i5 := I.y0; have i6 := I.y1
  unfold impl_Screen_down.f spec_l16Down.f
  rw [wrapS (n := h - 1) (by omega) (by omega)]
  by_cases hy : y < h - 1
  · refine ⟨cs, y + 1, ?_, ?_, ⟨i1, i2, i3, i4, by omega, by omega, by omega, by omega, I.c, I.g⟩⟩
    · rw [if_pos (by simpa using hy), wrapS (by omega) (by omega)]
    · rw [if_pos (by simpa using hy), wrapS (by omega) (by omega)]
  · have hnc : n ≤ cs.length := by
      have h1 := I.c
      have : w * 1 ≤ w * h := Int.mul_le_mul_of_nonneg_left i3 (by omega)
      omega
    have e2 := p_down_l n (by omega) (cs.drop n) (by simp; omega) (((n : Int) - 0).toNat + 2) 0 (by omega) (by omega)
    rw [show ((0 : Nat) : Int) = 0 from rfl, show List.replicate 0 (32 : Int) = [] from rfl, List.append_nil] at e2
    refine ⟨cs.drop n ++ List.replicate n 32, y, ?_, ?_, ⟨i1, i2, i3, i4, by omega, by omega, by omega, by omega, ?_, ?_⟩⟩
    · rw [if_neg (by simpa using hy), hn, cutE hnc]
      simp only [Option.bind_some]
      rw [p_repeat n (by omega)]
      simp only [Option.bind_some]
      rw [p_concat _ _ (by unfold big; simp; omega)]
      rfl
    · rw [if_neg (by simpa using hy), hn, cutE hnc]
      simp only [Option.bind_some]
      rw [p_own _ (by unfold big; simp; omega)]
      simp only [Option.bind_some]
      rw [e2]
      rfl
    · have := I.c
      rw [List.length_append, List.length_drop, List.length_replicate]
      omega
    · rw [List.all_append, Bool.and_eq_true]
      exact ⟨List.all_eq_true.2 fun u hu => List.all_eq_true.1 I.g u (List.mem_of_mem_drop hu), all_blank n⟩
theorem p_quo4 (x : Int) (h0 : 0 ≤ x) (h1 : x ≤ 20) : quo? .i64 x 4 = some (x / 4) := by
  obtain ⟨n, rfl⟩ := Int.eq_ofNat_of_zero_le h0
  have : ∀ n : Nat, n < 21 → quo? .i64 (n : Int) 4 = some ((n : Int) / 4) := by decide +kernel
  exact this n (by omega)
theorem p_write {w h : Int} {cs : List Int} {x y : Int} (I : Inv w h cs x y) (hx : x < w) (r : Int) (hr : okCell r = true) : ∃ u cs', rd? cs (IntKind.i64.wrap (IntKind.i64.wrap (y * w) + x)) = some u ∧ st? cs (IntKind.i64.wrap (IntKind.i64.wrap (y * w) + x)) r = some cs' ∧ IntKind.i64.wrap (x + 1) = x + 1 ∧ Inv w h cs' (x + 1) y := by
  have hl := I.len
  have i1 := I.w0; have i2 := I.w1; have i3 := I.h0; have i4 := I.h1; have i5 := I.y0; have i6 := I.y1; have i7 := I.x0; have i8 := I.c
  have g1 : y * w ≤ (h - 1) * w := Int.mul_le_mul_of_nonneg_right (by omega) (by omega)
  have g2 : (h - 1) * w = w * h - w := by rw [Int.sub_mul, Int.one_mul, Int.mul_comm]
  have g3 : 0 ≤ y * w := Int.mul_nonneg i5 (by omega)
  rw [wrapS (n := y * w) (by omega) (by omega), wrapS (n := y * w + x) (by omega) (by omega), wrapS (n := x + 1) (by omega) (by omega)]
  obtain ⟨j, hj⟩ := Int.eq_ofNat_of_zero_le (show 0 ≤ y * w + x by omega)
  have hjl : j < cs.length := by omega
  rw [hj]
  refine ⟨_, _, rd?_at hjl, st?_at r hjl, rfl, ⟨i1, i2, i3, i4, by omega, by omega, i5, i6, by simpa using i8, List.all_eq_true.2 fun u hu => ?_⟩⟩
  rcases List.mem_or_eq_of_mem_set hu with hu | rfl
  · exact List.all_eq_true.1 I.g u hu
  · exact hr
theorem p_leastB (a b : Int) : spec_l1Least.f a b = some (min b a) := by
  unfold spec_l1Least.f
  by_cases h : a < b
  · rw [if_pos (by simpa using h), Int.min_eq_right (by omega)]
  · rw [if_neg (by simpa using h), Int.min_eq_left (by omega)]
theorem p_mostB (a b : Int) : spec_l1Most.f a b = some (max b a) := by
  unfold spec_l1Most.f
  by_cases h : a > b
  · rw [if_pos (by simpa using h), Int.max_eq_right (by omega)]
  · rw [if_neg (by simpa using h), Int.max_eq_left (by omega)]
theorem p_put {w h : Int} {cs : List Int} {x y : Int} (I : Inv w h cs x y) (r : Int) (hr : okRune r = true) : ∃ cs' x' y', impl_Screen_put.f w h cs x y r = some (w, h, cs', x', y') ∧ spec_l16Put.f w h cs x y r = some (w, h, cs', x', y') ∧ Inv w h cs' x' y' := by
  have hl := I.len
  have i1 := I.w0; have i2 := I.w1; have i3 := I.h0; have i4 := I.h1; have i5 := I.y0; have i6 := I.y1; have i7 := I.x0; have i8 := I.c; have i9 := I.x1; have i10 := I.g
  unfold impl_Screen_put.f spec_l16Put.f
  by_cases r8 : r = 8
  · subst r8
    refine ⟨cs, max (x - 1) 0, y, ?_, ?_, ⟨i1, i2, i3, i4, by omega, by omega, i5, i6, i8, i10⟩⟩
    · rw [if_pos (by decide), wrapS (by omega) (by omega)]
    · rw [if_pos (by decide), wrapS (by omega) (by omega), p_mostB]
      rfl
  have n8 : ¬ ((r == 8) = true) := by simpa using r8
  rw [if_neg n8, if_neg n8]
  by_cases r9 : r = 9
  · subst r9
    refine ⟨cs, min ((x / 4 + 1) * 4) w, y, ?_, ?_, ⟨i1, i2, i3, i4, by omega, by omega, i5, i6, i8, i10⟩⟩
    · rw [if_pos (by decide), p_quo4 x i7 (by omega)]
      simp only [Option.bind_some]
      rw [wrapS (n := x / 4 + 1) (by omega) (by omega), wrapS (by omega) (by omega)]
    · rw [if_pos (by decide), p_quo4 x i7 (by omega)]
      simp only [Option.bind_some]
      rw [wrapS (n := x / 4 * 4) (by omega) (by omega), wrapS (n := x / 4 * 4 + 4) (by omega) (by omega), p_leastB, show x / 4 * 4 + 4 = (x / 4 + 1) * 4 by omega]
      rfl
  have n9 : ¬ ((r == 9) = true) := by simpa using r9
  rw [if_neg n9, if_neg n9]
  by_cases r10 : r = 10
  · subst r10
    obtain ⟨cs', y', d1, d2, d3⟩ := p_down I
    refine ⟨cs', 0, y', ?_, ?_, d3⟩
    · rw [if_pos (by decide), d1]
      rfl
    · rw [if_pos (by decide), d2]
      rfl
  have n10 : ¬ ((r == 10) = true) := by simpa using r10
  rw [if_neg n10, if_neg n10]
  by_cases r12 : r = 12
  · subst r12
    obtain ⟨d1, d2⟩ := p_newScr w h cs.length i8.symm hl
    refine ⟨List.replicate cs.length 32, 0, 0, ?_, ?_, ⟨i1, i2, i3, i4, by omega, by omega, by omega, by omega, by simpa using i8, all_blank _⟩⟩
    · rw [if_pos (by decide), d1]
      rfl
    · rw [if_pos (by decide), d2]
      rfl
  have n12 : ¬ ((r == 12) = true) := by simpa using r12
  rw [if_neg n12, if_neg n12]
  by_cases r13 : r = 13
  · subst r13
    refine ⟨cs, 0, y, ?_, ?_, ⟨i1, i2, i3, i4, by omega, by omega, i5, i6, i8, i10⟩⟩
    · rw [if_pos (by decide)]
    · rw [if_pos (by decide)]
      rfl
  have n13 : ¬ ((r == 13) = true) := by simpa using r13
  rw [if_neg n13, if_neg n13]
  by_cases r32 : r ≥ 32
  · have p32 : decide (r ≥ 32) = true := by simpa using r32
    rw [if_pos p32, if_pos p32]
    have hc : okCell r = true := by unfold okCell; rw [hr]; simp; omega
    by_cases hx : x = w
    · obtain ⟨cs', y', d1, d2, d3⟩ := p_down I
      obtain ⟨u, cs2, w1, w2, w3, w4⟩ := p_write d3 (by omega) r hc
      have hl2 := d3.len
      refine ⟨cs2, 0 + 1, y', ?_, ?_, w4⟩
      · rw [if_pos (by simpa using hx), d1]
        simp only [Option.bind_some]
        rw [w1]
        simp only [Option.bind_some]
        rw [w2, w3]
        rfl
      · rw [if_pos (by simpa using hx), d2]
        simp only [Option.bind_some]
        rw [p_own cs' (by unfold big; omega)]
        simp only [Option.bind_some]
        rw [w1]
        simp only [Option.bind_some]
        rw [w2, w3]
        rfl
    · obtain ⟨u, cs2, w1, w2, w3, w4⟩ := p_write I (by omega) r hc
      refine ⟨cs2, x + 1, y, ?_, ?_, w4⟩
      · rw [if_neg (by simpa using hx)]
        simp only [Option.bind_some]
        rw [w1]
        simp only [Option.bind_some]
        rw [w2, w3]
        rfl
      · rw [if_neg (by simpa using hx)]
        simp only [Option.bind_some]
        rw [p_own cs (by unfold big; omega)]
        simp only [Option.bind_some]
        rw [w1]
        simp only [Option.bind_some]
        rw [w2, w3]
        rfl
  · have p32 : ¬ (decide (r ≥ 32) = true) := by simpa using r32
    rw [if_neg p32, if_neg p32]
    exact ⟨cs, x, y, rfl, rfl, I⟩
theorem okScreen_inv {w h : Int} {cs : List Int} {x y : Int} (hs : okScreen w h cs x y = true) : Inv w h cs x y := by
  simp only [okScreen, Bool.and_eq_true, decide_eq_true_eq] at hs
  exact ⟨by omega, by omega, by omega, by omega, by omega, by omega, by omega, by omega, by omega, hs.2⟩
def marks (k : Int) (n : Nat) : List Int := (List.range n).map fun i : Nat => k + i
theorem marks_len (k : Int) (n : Nat) : (marks k n).length = n := by simp [marks]
theorem marks_get (k : Int) (n i : Nat) (h : i < n) : (marks k n)[i]? = some (k + i) := by simp [marks, h]
theorem p_writeVis {w h : Int} {cs : List Int} {x y : Int} (I : Inv w h cs x y) (hx : x < w) (r : Int) (hr : okCell r = true) : ∃ (u : Int) (j : Nat), (j : Int) = y * w + x ∧ rd? cs (IntKind.i64.wrap (IntKind.i64.wrap (y * w) + x)) = some u ∧ st? cs (IntKind.i64.wrap (IntKind.i64.wrap (y * w) + x)) r = some (cs.set j r) ∧ IntKind.i64.wrap (x + 1) = x + 1 ∧ j < cs.length ∧ Inv w h (cs.set j r) (x + 1) y := by
  have hl := I.len
  have i1 := I.w0; have i2 := I.w1; have i3 := I.h0; have i4 := I.h1; have i5 := I.y0; have i6 := I.y1; have i7 := I.x0; have i8 := I.c
  have g1 : y * w ≤ (h - 1) * w := Int.mul_le_mul_of_nonneg_right (by omega) (by omega)
  have g2 : (h - 1) * w = w * h - w := by rw [Int.sub_mul, Int.one_mul, Int.mul_comm]
  have g3 : 0 ≤ y * w := Int.mul_nonneg i5 (by omega)
  rw [wrapS (n := y * w) (by omega) (by omega), wrapS (n := y * w + x) (by omega) (by omega), wrapS (n := x + 1) (by omega) (by omega)]
  obtain ⟨j, hj⟩ := Int.eq_ofNat_of_zero_le (show 0 ≤ y * w + x by omega)
  have hjl : j < cs.length := by omega
  rw [hj]
  refine ⟨_, j, rfl, rd?_at hjl, st?_at r hjl, rfl, hjl, ⟨i1, i2, i3, i4, by omega, by omega, i5, i6, by simpa using i8, List.all_eq_true.2 fun u hu => ?_⟩⟩
  rcases List.mem_or_eq_of_mem_set hu with hu | rfl
  · exact List.all_eq_true.1 I.g u hu
  · exact hr
theorem p_putVis {w h : Int} {cs : List Int} {x y : Int} (I : Inv w h cs x y) : ∃ cs' x' y', impl_Screen_put.f w h cs x y 12354 = some (w, h, cs', x', y') ∧ Inv w h cs' x' y' ∧ 1 ≤ x' ∧ ∃ j : Nat, (j : Int) = y' * w + x' - 1 ∧ cs'[j]? = some 12354 := by
  have i2 := I.w1; have i1 := I.w0; have i9 := I.x1; have i7 := I.x0
  unfold impl_Screen_put.f
  have hc : okCell 12354 = true := by decide
  simp only [show ((12354 : Int) == 8) = false by decide, show ((12354 : Int) == 9) = false by decide, show ((12354 : Int) == 10) = false by decide, show ((12354 : Int) == 12) = false by decide, show ((12354 : Int) == 13) = false by decide, show decide ((12354 : Int) ≥ 32) = true by decide, Bool.false_eq_true, if_false, if_true]
  by_cases hx : x = w
  · obtain ⟨cs', y', d1, d2, d3⟩ := p_down I
    obtain ⟨u, j, hj, w1, w2, w3, w5, w4⟩ := p_writeVis d3 (by omega) 12354 hc
    refine ⟨cs'.set j 12354, 0 + 1, y', ?_, w4, by omega, j, by omega, by simp [w5]⟩
    rw [if_pos (by simpa using hx), d1]
    simp only [Option.bind_some]
    rw [w1]
    simp only [Option.bind_some]
    rw [w2, w3]
    rfl
  · obtain ⟨u, j, hj, w1, w2, w3, w5, w4⟩ := p_writeVis I (by omega) 12354 hc
    refine ⟨cs.set j 12354, x + 1, y, ?_, w4, by omega, j, by omega, by simp [w5]⟩
    rw [if_neg (by simpa using hx)]
    simp only [Option.bind_some]
    rw [w1]
    simp only [Option.bind_some]
    rw [w2, w3]
    rfl
theorem p_PutVis (w h : Int) (cs : List Int) (x y : Int) (hc : cs.length ≤ big) : ∃ r : Int × Int × List Int × Int × Int × Bool, impl_PutRune.f w h cs x y 12354 = some r ∧ (r.2.2.2.2.2 = true → Inv r.1 r.2.1 r.2.2.1 r.2.2.2.1 r.2.2.2.2.1 ∧ 1 ≤ r.2.2.2.1 ∧ ∃ j : Nat, (j : Int) = r.2.2.2.2.1 * r.1 + r.2.2.2.1 - 1 ∧ r.2.2.1[j]? = some 12354) := by
  unfold impl_PutRune.f impl_PutRunes.f
  simp only [p_implScreen w h cs x y hc, Option.bind_some, p_areRunes [12354] 1000 (by unfold big; simp)]
  have e : (decide ((([12354] : List Int).length : Int) ≤ 1000) && [12354].all okRune) = true := by decide
  rw [e]
  cases hs : okScreen w h cs x y with
  | false => exact ⟨_, rfl, fun h => by cases h⟩
  | true =>
    simp only [Bool.not_true, Bool.false_eq_true, if_false, Option.bind_some]
    have I := okScreen_inv hs
    obtain ⟨cs', x', y', d1, d3, d4, d5⟩ := p_putVis I
    have k1 : impl_PutRunes.l1 [12354] 3 0 w h cs x y = some (w, h, cs', x', y') := by
      rw [impl_PutRunes.l1, if_pos (by simp), show rd? [12354] 0 = some (12354 : Int) from rd?_at (xs := [12354]) (i := 0) (by simp)]
      simp only [Option.bind_some]
      rw [d1]
      simp only [Option.bind_some]
      rw [show IntKind.i64.wrap (0 + 1) = 1 by decide, impl_PutRunes.l1, if_neg (by simp)]
    refine ⟨(w, h, cs', x', y', true), ?_, fun _ => ⟨d3, d4, d5⟩⟩
    rw [p_clone cs hc]
    simp only [Option.bind_some]
    show Option.bind (Option.bind (impl_PutRunes.l1 [12354] 3 0 w h cs x y) _) _ = _
    rw [k1]
    rfl
/-- A row without the blanks at its end. -/
def trim : Nat → List Int → List Int
  | 0, xs => xs
  | n + 1, xs => if xs.getLast? = some 32 then trim n xs.dropLast else xs
theorem p_trim_l (L : Nat → List Int → Option (List Int)) (hL : ∀ kf (x : List Int), L (kf + 1) x = (if (decide ((x.length : Int) > 0)) = true then ((rd? x (IntKind.i64.wrap ((x.length : Int) - 1))).bind fun u123 => some (u123 == 32)) else (some false)).bind fun (o : Bool) => match o with | x121 => (if x121 = true then ((cut? x 0 (IntKind.i64.wrap ((x.length : Int) - 1))).bind fun x126 => L kf x126) else (some x))) :
    ∀ (k : Nat) (x : List Int), x.length < k → x.length ≤ big → L k x = some (trim x.length x) := by
  intro k
  induction k with
  | zero => intro x h; omega
  | succ k ih =>
    intro x hk hx
    rw [hL]
    cases hn : x.length with
    | zero =>
      obtain rfl : x = [] := List.eq_nil_of_length_eq_zero hn
      rfl
    | succ n =>
      unfold big at hx
      rw [if_pos (by simp), wrapS (by omega) (by omega), show (((n + 1 : Nat) : Int) - 1) = ((n : Nat) : Int) by omega, rd?_at (by omega : n < x.length)]
      simp only [Option.bind_some]
      have hg : x.getLast? = some (x[n]'(by omega)) := by
        rw [List.getLast?_eq_getElem?, show x.length - 1 = n by omega, List.getElem?_eq_getElem (by omega)]
      unfold trim
      by_cases h32 : x[n]'(by omega) = 32
      · rw [if_pos (by simpa using h32), if_pos (by rw [hg, h32])]
        have := cut?_at (xs := x) (a := 0) (b := n) (by omega) (by omega)
        rw [show ((0 : Nat) : Int) = 0 from rfl] at this
        rw [this]
        simp only [Option.bind_some, List.drop_zero]
        have hd : x.take n = x.dropLast := by rw [List.dropLast_eq_take, hn]; rfl
        have hlen : x.dropLast.length = n := by simp [hn]
        rw [hd, ih _ (by omega) (by unfold big; omega), hlen]
      · rw [if_neg (by simpa using h32), if_neg (by rw [hg]; simpa using h32)]
theorem trim_len : ∀ (n : Nat) (x : List Int), (trim n x).length ≤ x.length
  | 0, x => Nat.le_refl _
  | n + 1, x => by
    unfold trim
    split
    · have := trim_len n x.dropLast
      simp at this
      omega
    · exact Nat.le_refl _
theorem p_RowOf (w h : Int) (cs : List Int) (x y p : Int) (hc : cs.length ≤ big) (hp : inK .i64 p) : ∃ r : List Int × Bool, impl_RowOf.f w h cs x y p = some r ∧ spec_RowOf.f w h cs x y p = some r ∧ r.1.length ≤ 1000 := by
  unfold impl_RowOf.f spec_RowOf.f impl_isPlace.f
  simp only [p_implScreen w h cs x y hc, p_specScreen w h cs x y hc, p_inRange, p_l1In, Option.bind_some]
  cases hs : okScreen w h cs x y with
  | false => exact ⟨_, rfl, rfl, by simp⟩
  | true =>
    simp only [Bool.not_true, Bool.false_eq_true, if_false]
    cases hy : (decide (0 ≤ p) && decide (p ≤ IntKind.i64.wrap (h - 1))) with
    | false => exact ⟨_, rfl, rfl, by simp⟩
    | true =>
      simp only [Bool.not_true, Bool.false_eq_true, if_false, Option.bind_some]
      simp only [okScreen, Bool.and_eq_true, decide_eq_true_eq] at hs hy
      rw [wrapS (by omega) (by omega)] at hy
      obtain ⟨n, rfl⟩ := Int.eq_ofNat_of_zero_le hy.1
      obtain ⟨row, hr, e⟩ := p_row w h cs x y n hs.1.1.1.1.1.1 hs.1.1.1.1.1.2 hs.1.1.1.1.2.2 (by omega) hs.1.2
      have hrl : row.length ≤ 20 := by omega
      unfold impl_Screen_rowOf.f spec_l16Row.f impl_Screen_row.f slices_Clone_int_int.f spec_l1Own.f
      rw [e]
      simp only [Option.bind_some]
      rw [app?_at (by simp; omega)]
      simp only [Option.bind_some, List.nil_append]
      have t1 := p_trim_l impl_Screen_rowOf.l1 (fun _ _ => rfl) ((((row.length : Int)) - (0)).toNat + 2) row (by omega) (by unfold big; omega)
      have t2 := p_trim_l spec_l16Row.l1 (fun _ _ => rfl) ((((row.length : Int)) - (0)).toNat + 2) row (by omega) (by unfold big; omega)
      rw [t1, t2]
      simp only [Option.bind_some]
      have hl := trim_len row.length row
      rw [app?_at (by simp; omega)]
      simp only [Option.bind_some, List.nil_append]
      exact ⟨_, rfl, rfl, by show (trim row.length row).length ≤ 1000; omega⟩
/-- The bytes of a rune. -/
def u8s (r : Int) : List Int := if r < 128 then [r] else if r < 2048 then [192 + r / 64, 128 + r % 64] else if r < 65536 then [224 + r / 4096, 128 + r / 64 % 64, 128 + r % 64] else [240 + r / 262144, 128 + r / 4096 % 64, 128 + r / 64 % 64, 128 + r % 64]
theorem u8s_len (r : Int) : (u8s r).length ≤ 4 := by
  unfold u8s
  split
  · simp
  · split
    · simp
    · split <;> simp
theorem bytes_text : ∀ (xs : List Int), (∀ u ∈ xs, 0 ≤ u ∧ u < 256) → bytesB (textB xs) = xs := by
  have key : ∀ (xs : List Int) (s : ByteArray), (∀ u ∈ xs, 0 ≤ u ∧ u < 256) → bytesB (xs.foldl (fun s n => s.push (UInt8.ofNat n.toNat)) s) = bytesB s ++ xs := by
    intro xs
    induction xs with
    | nil => intro s _; simp
    | cons x xs ih =>
      intro s h
      obtain ⟨h0, h1⟩ := h x (by simp)
      rw [List.foldl_cons, ih _ fun v hv => h v (List.mem_cons_of_mem _ hv)]
      have e : bytesB (s.push (UInt8.ofNat x.toNat)) = bytesB s ++ [x] := by
        unfold bytesB
        simp [ByteArray.push]
        omega
      rw [e, List.append_assoc]
      rfl
  intro xs h
  unfold textB
  rw [key xs _ h]
  rfl
theorem quo_pos {r n : Int} (h0 : 0 ≤ r) (h1 : r ≤ 2000000) (hn : 1 ≤ n) (hn2 : n ≤ 1000000) : quo? .i64 r n = some (r / n) := by
  unfold quo?
  have h2 : r / n ≤ r := Int.ediv_le_self _ h0
  have h3 : 0 ≤ r / n := Int.ediv_nonneg h0 (by omega)
  rw [if_neg (by omega), Int.tdiv_eq_ediv_of_nonneg h0, wrapS (by omega) (by omega)]
theorem rem_pos {r n : Int} (h0 : 0 ≤ r) (hn : 1 ≤ n) : rem? r n = some (r % n) := by
  unfold rem?
  rw [if_neg (by omega), Int.tmod_eq_emod_of_nonneg h0]
theorem w8 {n : Int} (h0 : 0 ≤ n) (h1 : n ≤ 255) : IntKind.u8.wrap n = n := by rw [IntKind.wrap_u8]; omega
theorem u8s_in {r : Int} (h0 : 0 ≤ r) (h1 : r ≤ 1114111) : ∀ u ∈ u8s r, 0 ≤ u ∧ u < 256 := by
  unfold u8s
  intro u hu
  split at hu
  · simp at hu; omega
  · split at hu
    · simp at hu; omega
    · split at hu
      · simp at hu; omega
      · simp at hu; omega
theorem p_l1Utf8 (r : Int) (h0 : 0 ≤ r) (h1 : r ≤ 1114111) : spec_l1Utf8.f r = some (textB (u8s r)) := by
  unfold spec_l1Utf8.f u8s
  simp only [quo_pos (r := r) h0 (by omega) (show (1 : Int) ≤ 64 by omega) (by omega), quo_pos (r := r) h0 (by omega) (show (1 : Int) ≤ 4096 by omega) (by omega), quo_pos (r := r) h0 (by omega) (show (1 : Int) ≤ 262144 by omega) (by omega), rem_pos (r := r) h0 (show (1 : Int) ≤ 64 by omega), rem_pos (r := r / 64) (n := 64) (by omega) (by omega), rem_pos (r := r / 4096) (n := 64) (by omega) (by omega), Option.bind_some]
  by_cases c1 : r < 128
  · rw [if_pos (by simpa using c1), if_pos c1, w8 (by omega) (by omega)]
  · rw [if_neg (by simpa using c1), if_neg c1]
    by_cases c2 : r < 2048
    · rw [if_pos (by simpa using c2), if_pos c2, wrapS (n := 192 + r / 64) (by omega) (by omega), wrapS (n := 128 + r % 64) (by omega) (by omega), w8 (n := 192 + r / 64) (by omega) (by omega), w8 (n := 128 + r % 64) (by omega) (by omega)]
    · rw [if_neg (by simpa using c2), if_neg c2]
      by_cases c3 : r < 65536
      · rw [if_pos (by simpa using c3), if_pos c3, wrapS (n := 224 + r / 4096) (by omega) (by omega), wrapS (n := 128 + r / 64 % 64) (by omega) (by omega), wrapS (n := 128 + r % 64) (by omega) (by omega), w8 (n := 224 + r / 4096) (by omega) (by omega), w8 (n := 128 + r / 64 % 64) (by omega) (by omega), w8 (n := 128 + r % 64) (by omega) (by omega)]
      · rw [if_neg (by simpa using c3), if_neg c3, wrapS (n := 240 + r / 262144) (by omega) (by omega), wrapS (n := 128 + r / 4096 % 64) (by omega) (by omega), wrapS (n := 128 + r / 64 % 64) (by omega) (by omega), wrapS (n := 128 + r % 64) (by omega) (by omega), w8 (n := 240 + r / 262144) (by omega) (by omega), w8 (n := 128 + r / 4096 % 64) (by omega) (by omega), w8 (n := 128 + r / 64 % 64) (by omega) (by omega), w8 (n := 128 + r % 64) (by omega) (by omega)]
theorem b_and63 (n : Int) (h0 : 0 ≤ n) (h1 : n < 256) : bits .and .u8 n 63 = n % 64 := by
  obtain ⟨k, rfl⟩ := Int.eq_ofNat_of_zero_le h0
  have : ∀ k : Nat, k < 256 → bits .and .u8 (k : Int) 63 = (k : Int) % 64 := by decide +kernel
  exact this k (by omega)
theorem b_or128 (n : Int) (h0 : 0 ≤ n) (h1 : n < 64) : bits .or .u8 128 n = 128 + n := by
  obtain ⟨k, rfl⟩ := Int.eq_ofNat_of_zero_le h0
  have : ∀ k : Nat, k < 64 → bits .or .u8 128 (k : Int) = 128 + (k : Int) := by decide +kernel
  exact this k (by omega)
theorem b_or192 (n : Int) (h0 : 0 ≤ n) (h1 : n < 32) : bits .or .u8 192 n = 192 + n := by
  obtain ⟨k, rfl⟩ := Int.eq_ofNat_of_zero_le h0
  have : ∀ k : Nat, k < 32 → bits .or .u8 192 (k : Int) = 192 + (k : Int) := by decide +kernel
  exact this k (by omega)
theorem b_or224 (n : Int) (h0 : 0 ≤ n) (h1 : n < 16) : bits .or .u8 224 n = 224 + n := by
  obtain ⟨k, rfl⟩ := Int.eq_ofNat_of_zero_le h0
  have : ∀ k : Nat, k < 16 → bits .or .u8 224 (k : Int) = 224 + (k : Int) := by decide +kernel
  exact this k (by omega)
theorem b_or240 (n : Int) (h0 : 0 ≤ n) (h1 : n < 8) : bits .or .u8 240 n = 240 + n := by
  obtain ⟨k, rfl⟩ := Int.eq_ofNat_of_zero_le h0
  have : ∀ k : Nat, k < 8 → bits .or .u8 240 (k : Int) = 240 + (k : Int) := by decide +kernel
  exact this k (by omega)
theorem b_cont (q : Int) : bits .or .u8 128 (bits .and .u8 (IntKind.u8.wrap q) 63) = 128 + q % 64 := by
  have e : IntKind.u8.wrap q = q % 256 := by rw [IntKind.wrap_u8]
  rw [e, b_and63 _ (by omega) (by omega), b_or128 _ (by omega) (by omega)]
  omega
theorem shr32 (r : Int) (k : Nat) (hk : k ≤ 20) : shrK? .i32 r (k : Int) = some (r / 2 ^ k) := by
  unfold shrK?
  have e : min ((k : Int)).toNat IntKind.i32.bits = k := by
    have : IntKind.i32.bits = 32 := rfl
    rw [this]
    omega
  rw [if_pos (by omega), e, Int.fdiv_eq_ediv_of_nonneg _ (by exact Int.pow_nonneg (by omega))]
theorem p_AppendRune (x : List Int) (r : Int) (hr : okRune r = true) (hx : x.length ≤ 1000000) : utf8_AppendRune.f x r = some (x ++ u8s r) := by
  simp only [okRune, Bool.and_eq_true, decide_eq_true_eq, Bool.not_eq_true', Bool.and_eq_false_iff, decide_eq_false_iff_not] at hr
  obtain ⟨⟨h0, h1⟩, h2⟩ := hr
  have u32 : IntKind.u32.wrap r = r := by rw [IntKind.wrap_u32]; omega
  have s6 : shrK? .i32 r 6 = some (r / 64) := shr32 r 6 (by omega)
  have s12 : shrK? .i32 r 12 = some (r / 4096) := shr32 r 12 (by omega)
  have s18 : shrK? .i32 r 18 = some (r / 262144) := shr32 r 18 (by omega)
  unfold utf8_AppendRune.f utf8_appendRuneNonASCII.f u8s
  simp only [u32, s6, s12, s18, Option.bind_some, b_cont]
  by_cases c1 : r < 128
  · rw [if_pos (by simp; omega), if_pos c1, app?_at (by simp; omega), w8 (by omega) (by omega)]
    rfl
  · rw [if_neg (by simp; omega), if_neg c1]
    by_cases c2 : r < 2048
    · rw [if_pos (by simp; omega), if_pos c2, app?_at (by simp; omega), w8 (n := r / 64) (by omega) (by omega), b_or192 _ (by omega) (by omega)]
      rfl
    · rw [if_neg (by simp; omega), if_neg c2]
      by_cases c3 : r < 65536
      · have d1 : (if decide (r < 55296) = true then some (decide (r < 55296)) else if decide (57343 < r) = true then some (decide (r ≤ 65535)) else some false) = some true := by
          by_cases c4 : r < 55296
          · simp [c4]
          · have c5 : 57343 < r := by omega
            have c6 : r ≤ 65535 := by omega
            simp [c4, c5, c6]
        rw [d1]
        simp only [Option.bind_some, if_true]
        rw [if_pos c3, app?_at (by simp; omega), w8 (n := r / 4096) (by omega) (by omega), b_or224 _ (by omega) (by omega)]
        rfl
      · have d1 : (if decide (r < 55296) = true then some (decide (r < 55296)) else if decide (57343 < r) = true then some (decide (r ≤ 65535)) else some false) = some false := by
          have c4 : ¬ r < 55296 := by omega
          have c5 : 57343 < r := by omega
          have c6 : ¬ r ≤ 65535 := by omega
          simp [c4, c5, c6]
        have d2 : (if decide (r > 65535) = true then some (decide (r ≤ 1114111)) else some false) = some true := by
          have c5 : r > 65535 := by omega
          simp [c5, h1]
        rw [d1]
        simp only [Option.bind_some, Bool.false_eq_true, if_false]
        rw [d2]
        simp only [Option.bind_some, if_true]
        rw [if_neg c3, app?_at (by simp; omega), w8 (n := r / 262144) (by omega) (by omega), b_or240 _ (by omega) (by omega)]
        rfl
def u8All (p : List Int) : List Int := p.flatMap u8s
theorem u8All_len (p : List Int) : (u8All p).length ≤ 4 * p.length := by
  induction p with
  | nil => simp [u8All]
  | cons x p ih =>
    have h1 := u8s_len x
    have e : u8All (x :: p) = u8s x ++ u8All p := rfl
    rw [e, List.length_append, List.length_cons]
    omega
theorem p_textLoop (p : List Int) (hp : p.length ≤ 2000) (ho : ∀ u ∈ p, okRune u = true) : ∀ (k i : Nat) (out : List Int), i ≤ p.length → p.length - i < k → out.length ≤ 4 * i →
    impl_textOf.l1 p k out i = some (out ++ u8All (p.drop i)) ∧ spec_l1TextOf.l1 p k out i = some (out ++ u8All (p.drop i)) := by
  intro k
  induction k with
  | zero => intro i out _ h; omega
  | succ k ih =>
    intro i out hi hk hl
    rw [impl_textOf.l1, spec_l1TextOf.l1]
    by_cases h : i < p.length
    · have hr := ho p[i] (List.getElem_mem h)
      have hr' := hr
      simp only [okRune, Bool.and_eq_true, decide_eq_true_eq] at hr'
      have h32 : IntKind.i32.wrap p[i] = p[i] := by rw [IntKind.wrap_i32]; omega
      have hu := u8s_len p[i]
      have hb := bytes_text (u8s p[i]) (u8s_in hr'.1.1 hr'.1.2)
      obtain ⟨e1, e2⟩ := ih (i + 1) (out ++ u8s p[i]) h (by omega) (by rw [List.length_append]; omega)
      have hd : u8All (p.drop i) = u8s p[i] ++ u8All (p.drop (i + 1)) := by rw [List.drop_eq_getElem_cons h]; rfl
      rw [hd, ← List.append_assoc]
      constructor
      · rw [if_pos (by simpa using h), rd?_at h]
        simp only [Option.bind_some]
        rw [h32, p_AppendRune out p[i] hr (by omega)]
        simp only [Option.bind_some]
        rw [wrapN i (by omega)]
        exact e1
      · rw [if_pos (by simpa using h), rd?_at h]
        simp only [Option.bind_some]
        rw [p_l1Utf8 _ hr'.1.1 hr'.1.2]
        simp only [Option.bind_some]
        rw [hb, app?_at (by omega)]
        simp only [Option.bind_some]
        rw [wrapN i (by omega)]
        exact e2
    · obtain rfl : i = p.length := by omega
      have hd : u8All (p.drop p.length) = [] := by rw [List.drop_length]; rfl
      rw [if_neg (by simp), if_neg (by simp), hd, List.append_nil]
      exact ⟨rfl, rfl⟩
theorem p_textOf (p : List Int) (hp : p.length ≤ 2000) (ho : ∀ u ∈ p, okRune u = true) : impl_textOf.f p = some (textB (u8All p)) ∧ spec_l1TextOf.f p = some (textB (u8All p)) := by
  obtain ⟨e1, e2⟩ := p_textLoop p hp ho (((p.length : Int) - 0).toNat + 2) 0 [] (by omega) (by omega) (by simp)
  rw [show ((0 : Nat) : Int) = 0 from rfl, List.drop_zero, List.nil_append] at e1 e2
  constructor
  · unfold impl_textOf.f
    rw [e1]
    rfl
  · unfold spec_l1TextOf.f
    rw [e2]
    rfl
theorem p_TextOf (p : List Int) (hp : p.length ≤ big) : ∃ r : ByteArray × Bool, impl_TextOf.f p = some r ∧ spec_TextOf.f p = some r := by
  unfold impl_TextOf.f spec_TextOf.f
  rw [p_areRunes p 1000 hp, p_allRunes p hp]
  have e : decide (p.length ≤ 1000) = decide ((p.length : Int) ≤ 1000) := by rw [Bool.eq_iff_iff]; simp; omega
  rw [e, Bool.and_comm]
  simp only [Option.bind_some]
  cases hs : (p.all okRune && decide ((p.length : Int) ≤ 1000)) with
  | false => exact ⟨(⟨#[]⟩, false), rfl, rfl⟩
  | true =>
    simp only [Bool.and_eq_true, List.all_eq_true, decide_eq_true_eq] at hs
    obtain ⟨e1, e2⟩ := p_textOf p (by omega) hs.1
    simp only [Bool.not_true, Bool.false_eq_true, if_false, e1, e2, Option.bind_some]
    split
    · exact ⟨(⟨#[]⟩, false), rfl, by simp⟩
    · exact ⟨_, rfl, by simp⟩
theorem p_rowOf (w h : Int) (cs : List Int) (x y : Int) (n : Nat) (hs : okScreen w h cs x y = true) (hn : (n : Int) < h) : ∃ row, impl_Screen_rowOf.f w h cs x y n = some row ∧ spec_l16Row.f w h cs x y n = some row ∧ row.length ≤ 20 := by
  simp only [okScreen, Bool.and_eq_true, decide_eq_true_eq] at hs
  obtain ⟨row, hr, e⟩ := p_row w h cs x y n hs.1.1.1.1.1.1 hs.1.1.1.1.1.2 hs.1.1.1.1.2.2 (by omega) hs.1.2
  have hrl : row.length ≤ 20 := by omega
  unfold impl_Screen_rowOf.f spec_l16Row.f impl_Screen_row.f slices_Clone_int_int.f spec_l1Own.f
  rw [e]
  simp only [Option.bind_some]
  rw [app?_at (by simp; omega)]
  simp only [Option.bind_some, List.nil_append]
  have t1 := p_trim_l impl_Screen_rowOf.l1 (fun _ _ => rfl) ((((row.length : Int)) - (0)).toNat + 2) row (by omega) (by unfold big; omega)
  have t2 := p_trim_l spec_l16Row.l1 (fun _ _ => rfl) ((((row.length : Int)) - (0)).toNat + 2) row (by omega) (by unfold big; omega)
  rw [t1, t2]
  simp only [Option.bind_some]
  have hl := trim_len row.length row
  rw [app?_at (by simp; omega)]
  simp only [Option.bind_some, List.nil_append]
  exact ⟨_, rfl, rfl, by omega⟩
theorem p_lines (w h : Int) (cs : List Int) (x y : Int) (m : Nat) (hm : h = m) (hs : okScreen w h cs x y = true) : ∀ (k i : Nat) (out : List Int), i ≤ m → m - i < k → out.length ≤ 21 * i → ∃ o, impl_ScreenText.l1 w h cs x y k out i = some o ∧ spec_ScreenText.l1 w h cs x y k out i = some o ∧ o.length ≤ 21 * m := by
  have hm8 : m ≤ 8 := by
    simp only [okScreen, Bool.and_eq_true, decide_eq_true_eq] at hs
    omega
  intro k
  induction k with
  | zero => intro i out _ h; omega
  | succ k ih =>
    intro i out hi hk hl
    rw [impl_ScreenText.l1, spec_ScreenText.l1]
    by_cases hlt : i < m
    · have c1 : decide ((i : Int) < h) = true := by rw [decide_eq_true_eq]; omega
      obtain ⟨row, e1, e2, e3⟩ := p_rowOf w h cs x y i hs (by omega)
      have a1 : app? 17592186044416 out row = some (out ++ row) := app?_at (by omega)
      have a2 : app? 17592186044416 (out ++ row) [10] = some (out ++ row ++ [10]) := app?_at (by simp; omega)
      simp only [c1, if_true, e1, e2, a1, a2, Option.bind_some, wrapN i (by omega)]
      exact ih (i + 1) _ hlt (by omega) (by simp; omega)
    · have c1 : decide ((i : Int) < h) = false := by rw [decide_eq_false_iff_not]; omega
      simp only [c1, Bool.false_eq_true, if_false]
      exact ⟨out, rfl, rfl, by have : i = m := by omega
                               rw [← this]; exact hl⟩
theorem p_ScreenText (w h : Int) (cs : List Int) (x y : Int) (hc : cs.length ≤ big) : ∃ r : ByteArray × Bool, impl_ScreenText.f w h cs x y = some r ∧ spec_ScreenText.f w h cs x y = some r := by
  unfold impl_ScreenText.f spec_ScreenText.f
  simp only [p_implScreen w h cs x y hc, p_specScreen w h cs x y hc, Option.bind_some]
  cases hs : okScreen w h cs x y with
  | false => exact ⟨(⟨#[]⟩, false), rfl, rfl⟩
  | true =>
    simp only [Bool.not_true, Bool.false_eq_true, if_false]
    have hs' := hs
    simp only [okScreen, Bool.and_eq_true, decide_eq_true_eq] at hs'
    obtain ⟨m, hm⟩ := Int.eq_ofNat_of_zero_le (show 0 ≤ h by omega)
    obtain ⟨o, e1, e2, e3⟩ := p_lines w h cs x y m hm hs ((h - 0).toNat + 2) 0 [] (by omega) (by omega) (by simp)
    rw [show ((0 : Nat) : Int) = 0 from rfl] at e1 e2
    rw [e1, e2]
    simp only [Option.bind_some]
    obtain ⟨r, g1, g2⟩ := p_TextOf o (by unfold big; omega)
    rw [g1, g2]
    exact ⟨_, rfl, rfl⟩
theorem wrapU (n : Int) : 0 ≤ IntKind.u64.wrap n ∧ IntKind.u64.wrap n < 18446744073709551616 := by rw [IntKind.wrap_u64]; omega
theorem p_next (code : List Int) (hc : allW (inK .u8) code) (a s : Int) (h0 : 0 ≤ a) (h1 : a ≤ 1000000000000000) : ∃ n s', spec_l1Cur_next.f code a s = some (n, a + 1, s') ∧ 0 ≤ n ∧ n ≤ 255 := by
  unfold spec_l1Cur_next.f
  have key : ∃ x : Int, (if (decide (a < (code.length : Int))) = true then ((rd? code a).bind fun u10 => some (IntKind.i64.wrap u10)) else (some 0)) = some x ∧ 0 ≤ x ∧ x ≤ 255 := by
    obtain ⟨k, rfl⟩ := Int.eq_ofNat_of_zero_le h0
    by_cases h : k < code.length
    · rw [if_pos (by simpa using h), rd?_at h]
      have hb : -0 ≤ code[k] ∧ code[k] ≤ 255 := by
        have := hc.2 _ (List.getElem_mem h)
        exact this
      simp only [Option.bind_some]
      rw [wrapS (by omega) (by omega)]
      exact ⟨_, rfl, by omega, by omega⟩
    · rw [if_neg (by simpa using h)]
      exact ⟨0, rfl, by omega, by omega⟩
  obtain ⟨x, e, x0, x1⟩ := key
  rw [e]
  simp only [Option.bind_some]
  rw [wrapS (n := a + 1) (by omega) (by omega)]
  generalize IntKind.u64.wrap (IntKind.u64.wrap (IntKind.u64.wrap (s * 6364136223846793005) + IntKind.u64.wrap x) + 1442695040888963407) = y
  by_cases h : a + 1 ≤ (code.length : Int)
  · rw [if_pos (by simpa using h)]
    exact ⟨x, y, rfl, x0, x1⟩
  · rw [if_neg (by simpa using h)]
    have hs : ∃ q, shrK? .u64 y 40 = some q := ⟨_, by unfold shrK?; rw [if_pos (by decide)]⟩
    obtain ⟨q, hq⟩ := hs
    rw [hq]
    simp only [Option.bind_some]
    have hb : 0 ≤ bits .and .u64 q 255 ∧ bits .and .u64 q 255 ≤ 255 := by
      unfold bits
      dsimp only
      have : (BitVec.ofInt IntKind.u64.bits q &&& BitVec.ofInt IntKind.u64.bits 255).toNat ≤ 255 := by
        rw [BitVec.toNat_and]
        exact Nat.le_trans Nat.and_le_right (by decide)
      rw [IntKind.wrap_u64]
      omega
    rw [wrapS (by omega) (by omega)]
    exact ⟨_, y, rfl, hb.1, hb.2⟩
theorem p_pick (code : List Int) (hc : allW (inK .u8) code) (a s n : Int) (h0 : 0 ≤ a) (h1 : a ≤ 1000000000000) : ∃ r a' s', spec_l1Cur_pick.f code a s n = some (r, a', s') ∧ 0 ≤ r ∧ (1 ≤ n → r < n) ∧ (n ≤ 1 → r = 0) ∧ r ≤ 65535 ∧ a ≤ a' ∧ a' ≤ a + 2 := by
  unfold spec_l1Cur_pick.f
  by_cases hn : n ≤ 1
  · rw [if_pos (by simpa using hn)]
    exact ⟨0, a, s, rfl, by omega, by omega, by omega, by omega, by omega, by omega⟩
  · rw [if_neg (by simpa using hn)]
    obtain ⟨x, s1, e1, x0, x1⟩ := p_next code hc a s h0 (by omega)
    rw [e1]
    simp only [Option.bind_some]
    have key : ∀ (v a' s' : Int), 0 ≤ v → v ≤ 65535 → a ≤ a' → a' ≤ a + 2 → ∃ r b' t', (rem? v n).bind (fun u20 => some (u20, a', s')) = some (r, b', t') ∧ 0 ≤ r ∧ (1 ≤ n → r < n) ∧ (n ≤ 1 → r = 0) ∧ r ≤ 65535 ∧ a ≤ b' ∧ b' ≤ a + 2 := by
      intro v a' s' v0 v1 b0 b1
      unfold rem?
      rw [if_neg (by omega)]
      have e := Int.tmod_eq_emod_of_nonneg (b := n) v0
      have hb := Int.emod_lt_of_pos v (show 0 < n by omega)
      have hb0 := Int.emod_nonneg v (show n ≠ 0 by omega)
      have hb1 : v % n ≤ v := by
        by_cases hvn : v < n
        · rw [Int.emod_eq_of_lt v0 hvn]; exact Int.le_refl _
        · omega
      rw [e]
      exact ⟨_, a', s', rfl, hb0, fun _ => hb, by omega, by omega, b0, b1⟩
    by_cases h2 : n > 200
    · rw [if_pos (by simpa using h2)]
      obtain ⟨y, s2, e2, y0, y1⟩ := p_next code hc (a + 1) s1 (by omega) (by omega)
      rw [e2]
      simp only [Option.bind_some]
      rw [wrapS (n := x * 256) (by omega) (by omega), wrapS (by omega) (by omega)]
      exact key (x * 256 + y) (a + 1 + 1) s2 (by omega) (by omega) (by omega) (by omega)
    · rw [if_neg (by simpa using h2)]
      exact key x (a + 1) s1 (by omega) (by omega) (by omega) (by omega)
theorem p_among (code : List Int) (hc : allW (inK .u8) code) (a s : Int) (l : List Int) (hl : l ≠ []) (h0 : 0 ≤ a) (h1 : a ≤ 1000000000000) : ∃ r a' s', spec_l1Cur_among.f code a s l = some (r, a', s') ∧ r ∈ l ∧ a ≤ a' ∧ a' ≤ a + 2 := by
  unfold spec_l1Cur_among.f
  have hp : 0 < l.length := List.length_pos_iff.2 hl
  obtain ⟨r, a', s', e, r0, r1, _, _, b0, b1⟩ := p_pick code hc a s (l.length : Int) h0 h1
  rw [e]
  simp only [Option.bind_some]
  obtain ⟨k, rfl⟩ := Int.eq_ofNat_of_zero_le r0
  have hk : k < l.length := by have := r1 (by omega); omega
  rw [rd?_at hk]
  exact ⟨_, a', s', rfl, List.getElem_mem hk, b0, b1⟩
theorem p_one (code : List Int) (hc : allW (inK .u8) code) (a s n : Int) (h0 : 0 ≤ a) (h1 : a ≤ 1000000000000) : ∃ (r : Bool) (a' s' : Int), spec_l1Cur_one.f code a s n = some (r, a', s') ∧ a ≤ a' ∧ a' ≤ a + 2 := by
  unfold spec_l1Cur_one.f
  obtain ⟨r, a', s', e, _, _, _, _, b0, b1⟩ := p_pick code hc a s n h0 h1
  rw [e]
  exact ⟨_, a', s', rfl, b0, b1⟩
theorem p_puts (p : List Int) (hp : p.length ≤ big) {w h : Int} : ∀ (k i : Nat) (cs : List Int) (x y : Int), p.all okRune = true → Inv w h cs x y → i ≤ p.length → p.length - i < k → ∃ cs' x' y', impl_PutRunes.l1 p k i w h cs x y = some (w, h, cs', x', y') ∧ spec_PutRunes.l1 p k i w h cs x y = some (w, h, cs', x', y') ∧ Inv w h cs' x' y' := by
  intro k
  induction k with
  | zero => intro i _ _ _ _ _ _ h; omega
  | succ k ih =>
    intro i cs x y hg I hi hk
    rw [impl_PutRunes.l1, spec_PutRunes.l1]
    by_cases h : i < p.length
    · obtain ⟨cs1, x1, y1, d1, d2, d3⟩ := p_put I p[i] (List.all_eq_true.1 hg _ (List.getElem_mem h))
      obtain ⟨cs2, x2, y2, e1, e2, e3⟩ := ih (i + 1) cs1 x1 y1 hg d3 h (by omega)
      refine ⟨cs2, x2, y2, ?_, ?_, e3⟩
      · rw [if_pos (by simpa using h), rd?_at h]
        simp only [Option.bind_some]
        rw [d1]
        simp only [Option.bind_some]
        rw [wrapN i (by unfold big at hp; omega)]
        exact e1
      · rw [if_pos (by simpa using h), rd?_at h]
        simp only [Option.bind_some]
        rw [d2]
        simp only [Option.bind_some]
        rw [wrapN i (by unfold big at hp; omega)]
        exact e2
    · refine ⟨cs, x, y, ?_, ?_, I⟩
      · rw [if_neg (by simpa using h)]
      · rw [if_neg (by simpa using h)]
theorem p_PutRunes (w h : Int) (cs : List Int) (x y : Int) (p : List Int) (hc : cs.length ≤ big) (hp : p.length ≤ big) : ∃ r : Int × Int × List Int × Int × Int × Bool, impl_PutRunes.f w h cs x y p = some r ∧ spec_PutRunes.f w h cs x y p = some r ∧ r.2.2.1.length ≤ 1000 := by
  unfold impl_PutRunes.f spec_PutRunes.f
  simp only [p_implScreen w h cs x y hc, p_specScreen w h cs x y hc, Option.bind_some, p_allRunes p hp, p_areRunes p 1000 hp]
  have e : decide (p.length ≤ 1000) = decide ((p.length : Int) ≤ 1000) := by rw [Bool.eq_iff_iff]; simp; omega
  rw [e, Bool.and_comm]
  cases hs : okScreen w h cs x y with
  | false => exact ⟨_, rfl, rfl, by simp⟩
  | true =>
    cases hl : (p.all okRune && decide ((p.length : Int) ≤ 1000)) with
    | false => exact ⟨_, rfl, rfl, by simp⟩
    | true =>
      simp only [Bool.not_true, Bool.false_eq_true, if_false, Option.bind_some]
      have I := okScreen_inv hs
      obtain ⟨cs', x', y', d1, d2, d3⟩ := p_puts p hp (((p.length : Int) - 0).toNat + 2) 0 cs x y (by rw [Bool.and_eq_true] at hl; exact hl.1) I (by omega) (by omega)
      rw [show ((0 : Nat) : Int) = 0 from rfl] at d1 d2
      have hl := d3.len
      refine ⟨(w, h, cs', x', y', true), ?_, ?_, by simp; omega⟩
      · rw [p_clone cs hc]
        simp only [Option.bind_some]
        rw [d1]
        rfl
      · rw [d2]
        simp only [Option.bind_some]
        rw [p_own cs' (by unfold big; omega)]
        rfl
theorem p_l16New_l (w h : Int) (n : Nat) (hn : w * h = n) (hb : n ≤ 1000) : ∀ (k i : Nat), i ≤ n → n - i < k → spec_l16New.l1 w h k i (List.replicate i 32) = some (List.replicate n 32) := by
  intro k
  induction k with
  | zero => intro i _ h; omega
  | succ k ih =>
    intro i hi hk
    rw [spec_l16New.l1, hn, wrapS (by omega) (by omega)]
    by_cases h1 : i < n
    · rw [if_pos (by simpa using h1), app?_at (by simp; omega)]
      simp only [Option.bind_some]
      rw [wrapN i (by omega), show List.replicate i (32 : Int) ++ [32] = List.replicate (i + 1) 32 by rw [List.replicate_succ']]
      exact ih (i + 1) h1 (by omega)
    · rw [if_neg (by simpa using h1)]
      obtain rfl : i = n := by omega
      rfl
/-- What one rune makes of a screen. -/
def stp (w h : Int) (s : List Int × Int × Int) (r : Int) : List Int × Int × Int := match impl_Screen_put.f w h s.1 s.2.1 s.2.2 r with
  | some o => o.2.2
  | none => s
theorem stp_put {w h : Int} {s : List Int × Int × Int} (I : Inv w h s.1 s.2.1 s.2.2) {r : Int} (hr : okRune r = true) : impl_Screen_put.f w h s.1 s.2.1 s.2.2 r = some (w, h, stp w h s r) ∧ spec_l16Put.f w h s.1 s.2.1 s.2.2 r = some (w, h, stp w h s r) ∧ Inv w h (stp w h s r).1 (stp w h s r).2.1 (stp w h s r).2.2 := by
  obtain ⟨cs', x', y', d1, d2, d3⟩ := p_put I r hr
  have e : stp w h s r = (cs', x', y') := by unfold stp; rw [d1]
  rw [e]
  exact ⟨d1, d2, d3⟩
theorem p_putsF (p : List Int) (hp : p.length ≤ big) (hg : p.all okRune = true) {w h : Int} : ∀ (k i : Nat) (s : List Int × Int × Int), Inv w h s.1 s.2.1 s.2.2 → i ≤ p.length → p.length - i < k →
    impl_PutRunes.l1 p k i w h s.1 s.2.1 s.2.2 = some (w, h, (p.drop i).foldl (stp w h) s) ∧ spec_PutRunes.l1 p k i w h s.1 s.2.1 s.2.2 = some (w, h, (p.drop i).foldl (stp w h) s) ∧ Inv w h ((p.drop i).foldl (stp w h) s).1 ((p.drop i).foldl (stp w h) s).2.1 ((p.drop i).foldl (stp w h) s).2.2 := by
  intro k
  induction k with
  | zero => intro i s _ _ h; omega
  | succ k ih =>
    intro i s I hi hk
    rw [impl_PutRunes.l1, spec_PutRunes.l1]
    by_cases h : i < p.length
    · obtain ⟨d1, d2, d3⟩ := stp_put I (List.all_eq_true.1 hg _ (List.getElem_mem h))
      have := ih (i + 1) (stp w _ s p[i]) d3 h (by omega)
      rw [List.drop_eq_getElem_cons h, List.foldl_cons]
      rw [if_pos (by simpa using h), if_pos (by simpa using h), rd?_at h]
      simp only [Option.bind_some, d1, d2]
      rw [wrapN i (by unfold big at hp; omega)]
      exact this
    · rw [if_neg (by simpa using h), if_neg (by simpa using h), List.drop_of_length_le (by omega)]
      exact ⟨rfl, rfl, I⟩
theorem inv_ok {w h : Int} {cs : List Int} {x y : Int} (I : Inv w h cs x y) : okScreen w h cs x y = true := by
  have := I.w0; have := I.w1; have := I.h0; have := I.h1; have := I.x0; have := I.x1; have := I.y0; have := I.y1; have := I.c
  simp only [okScreen, Bool.and_eq_true, decide_eq_true_eq]
  exact ⟨by omega, I.g⟩
theorem p_PutRunesF {w h : Int} {cs : List Int} {x y : Int} {p : List Int} (hs : okScreen w h cs x y = true) (hg : p.all okRune = true) (hl : p.length ≤ 1000) : ∃ t : List Int × Int × Int, t = p.foldl (stp w h) (cs, x, y) ∧ impl_PutRunes.f w h cs x y p = some (w, h, t.1, t.2.1, t.2.2, true) ∧ spec_PutRunes.f w h cs x y p = some (w, h, t.1, t.2.1, t.2.2, true) ∧ Inv w h t.1 t.2.1 t.2.2 := by
  have I := okScreen_inv hs
  have hc : cs.length ≤ big := by have := I.len; unfold big; omega
  have hp : p.length ≤ big := by unfold big; omega
  obtain ⟨d1, d2, d3⟩ := p_putsF p hp hg (((p.length : Int) - 0).toNat + 2) 0 (cs, x, y) I (by omega) (by omega)
  rw [show ((0 : Nat) : Int) = 0 from rfl] at d1 d2
  rw [List.drop_zero] at d1 d2 d3
  refine ⟨_, rfl, ?_, ?_, d3⟩
  · unfold impl_PutRunes.f
    simp only [p_implScreen w h cs x y hc, Option.bind_some, p_areRunes p 1000 hp, hs, hg]
    have e : decide ((p.length : Int) ≤ 1000) = true := by simp; omega
    simp only [e, Bool.and_self, Bool.not_true, Bool.false_eq_true, if_false, Option.bind_some]
    rw [p_clone cs hc]
    simp only [Option.bind_some]
    rw [d1]
    rfl
  · unfold spec_PutRunes.f
    simp only [p_specScreen w h cs x y hc, Option.bind_some, p_allRunes p hp, hs, hg]
    have e : decide (p.length ≤ 1000) = true := by simp; omega
    simp only [e, Bool.and_self, Bool.not_true, Bool.false_eq_true, if_false, Option.bind_some]
    rw [d2]
    simp only [Option.bind_some]
    rw [p_own _ (by have := d3.len; unfold big; omega)]
    rfl
theorem p_shown (code : List Int) (hc : allW (inK .u8) code) (a s : Int) (m : Nat) (hm : m ≤ 100) (h0 : 0 ≤ a) (h1 : a ≤ 10000000000) : ∃ (l : List Int) (a' s' : Int), spec_l1Cur_shown.f code a s (m : Int) = some (l, a', s') ∧ l.length ≤ 200 ∧ a ≤ a' ∧ a' ≤ a + 1000 := by
  unfold spec_l1Cur_shown.f
  rw [wrapN m (by omega)]
  obtain ⟨n, a1, s1, e1, n0, n1, _, _, x1, y1⟩ := p_pick code hc a s ((m + 1 : Nat) : Int) h0 (by omega)
  rw [e1]
  simp only [Option.bind_some]
  obtain ⟨n, rfl⟩ := Int.eq_ofNat_of_zero_le n0
  have hn : n ≤ 100 := by have := n1 (by omega); omega
  have key : ∀ (n f : Nat) (l : List Int) (a s : Int), n < f → 0 ≤ a → a + 2 * n ≤ 100000000000 → l.length + n ≤ 150 → ∃ (l' : List Int) (a' s' : Int), spec_l1Cur_shown.l1 code f l (n : Int) a s = some (l', a', s') ∧ l'.length ≤ 150 ∧ a ≤ a' ∧ a' ≤ a + 2 * n := by
    intro n
    induction n with
    | zero =>
      intro f l a s hf _ _ hl
      obtain ⟨f, rfl⟩ := Nat.exists_eq_succ_of_ne_zero (show f ≠ 0 by omega)
      rw [spec_l1Cur_shown.l1, if_neg (by simp)]
      exact ⟨l, a, s, rfl, by omega, by omega, by omega⟩
    | succ n ih =>
      intro f l a s hf ha ha2 hl
      obtain ⟨f, rfl⟩ := Nat.exists_eq_succ_of_ne_zero (show f ≠ 0 by omega)
      rw [spec_l1Cur_shown.l1, if_pos (by simp <;> omega)]
      obtain ⟨r, a1, s1, e1, _, x1, y1⟩ := p_among code hc a s [97, 98, 99, 32, 97, 98, 10, 13, 8, 9, 12354, 7] (by simp) ha (by omega)
      rw [e1]
      simp only [Option.bind_some]
      rw [app?_at (by simp; omega)]
      simp only [Option.bind_some]
      rw [wrapS (n := ((n + 1 : Nat) : Int) - 1) (by omega) (by omega), show ((n + 1 : Nat) : Int) - 1 = (n : Int) by omega]
      obtain ⟨l', a', s', e', g1, g2, g3⟩ := ih f (l ++ [r]) a1 s1 (by omega) (by omega) (by omega) (by simp; omega)
      exact ⟨l', a', s', e', g1, by omega, by omega⟩
  obtain ⟨l, a2, s2, e2, g1, x2, y2⟩ := key n (((n : Int) - 0).toNat + 2) [] a1 s1 (by omega) (by omega) (by omega) (by simp; omega)
  rw [e2]
  simp only [Option.bind_some]
  obtain ⟨b, a3, s3, e3, x3, y3⟩ := p_one code hc a2 s2 20 (by omega) (by omega)
  rw [e3]
  simp only [Option.bind_some]
  cases b with
  | true =>
    simp only [if_true]
    rw [app?_at (by simp; omega)]
    exact ⟨_, a3, s3, rfl, by simp; omega, by omega, by omega⟩
  | false => exact ⟨l, a3, s3, rfl, by omega, by omega, by omega⟩
theorem p_newOkS {w h : Int} (hw : 1 ≤ w ∧ w ≤ 20) (hh : 1 ≤ h ∧ h ≤ 8) : ∃ n : Nat, w * h = n ∧ 1 ≤ n ∧ n ≤ 160 ∧ spec_NewScreen.f w h = some (w, h, List.replicate n 32, 0, 0, true) := by
  obtain ⟨m1, m2⟩ := mul_le160 hw.1 hw.2 hh.1 hh.2
  obtain ⟨n, hn⟩ := Int.eq_ofNat_of_zero_le (show 0 ≤ w * h by omega)
  have hn1 : 1 ≤ n := by
    have : 1 * 1 ≤ w * h := Int.mul_le_mul hw.1 hh.1 (by omega) (by omega)
    omega
  obtain ⟨e1, e2⟩ := p_newScr w h n hn (by omega)
  refine ⟨n, hn, hn1, by omega, ?_⟩
  unfold spec_NewScreen.f
  simp [p_l1In, hw, hh, e2]
theorem p_screen (code : List Int) (hc : allW (inK .u8) code) (a s : Int) (h0 : 0 ≤ a) (h1 : a ≤ 1000000) : ∃ (w h : Int) (cs : List Int) (x y a' s' : Int), spec_l1Cur_screen.f code a s = some (w, h, cs, x, y, a', s') ∧ cs.length ≤ 1000 ∧ a ≤ a' ∧ a' ≤ a + 10000 := by
  unfold spec_l1Cur_screen.f
  obtain ⟨r1, a1, s1, e1, p1, q1, _, _, x1, y1⟩ := p_pick code hc a s 6 (by omega) (by omega)
  rw [e1]
  simp only [Option.bind_some]
  obtain ⟨r2, a2, s2, e2, p2, q2, _, _, x2, y2⟩ := p_pick code hc a1 s1 4 (by omega) (by omega)
  rw [e2]
  simp only [Option.bind_some]
  have q1 := q1 (by omega)
  have q2 := q2 (by omega)
  rw [wrapS (n := 1 + r1) (by omega) (by omega), wrapS (n := 1 + r2) (by omega) (by omega)]
  obtain ⟨n, hn, n1, n2, eN⟩ := p_newOkS (w := 1 + r1) (h := 1 + r2) (by omega) (by omega)
  rw [eN]
  simp only [Option.bind_some]
  obtain ⟨l, a3, s3, e3, l3, x3, y3⟩ := p_shown code hc a2 s2 12 (by omega) (by omega) (by omega)
  rw [show ((12 : Nat) : Int) = 12 from rfl] at e3
  rw [e3]
  simp only [Option.bind_some]
  have hok : okScreen (1 + r1) (1 + r2) (List.replicate n 32) 0 0 = true := by
    simp only [okScreen, Bool.and_eq_true, decide_eq_true_eq, List.length_replicate]
    exact ⟨by omega, all_blank n⟩
  have hP : ∃ r : Int × Int × List Int × Int × Int × Bool, spec_PutRunes.f (1 + r1) (1 + r2) (List.replicate n 32) 0 0 l = some r ∧ (r.2.2.2.2.2 = true → r.2.2.1.length ≤ 1000 ∧ 1 ≤ r.2.2.1.length ∧ 0 ≤ r.1 ∧ r.1 ≤ 1000) := by
    cases hl : (l.all okRune) with
    | true =>
      obtain ⟨t, _, _, e, I⟩ := p_PutRunesF (p := l) hok hl (by omega)
      refine ⟨_, e, fun _ => ?_⟩
      have i1 := I.len
      have i2 := I.c
      show t.1.length ≤ 1000 ∧ 1 ≤ t.1.length ∧ _
      refine ⟨by omega, by omega, by show 0 ≤ 1 + r1; omega, by show 1 + r1 ≤ 1000; omega⟩
    | false =>
      obtain ⟨r, _, e, _⟩ := p_PutRunes (1 + r1) (1 + r2) (List.replicate n 32) 0 0 l (by unfold big; simp; omega) (by unfold big; omega)
      refine ⟨r, e, fun hr => ?_⟩
      unfold spec_PutRunes.f at e
      rw [p_specScreen _ _ _ _ _ (by unfold big; simp; omega)] at e
      simp only [Option.bind_some, p_allRunes l (by unfold big; omega), hok, hl, Bool.false_and, Bool.not_true, Bool.false_eq_true, if_false, Bool.not_false, if_true, Option.some.injEq] at e
      rw [← e] at hr
      cases hr
  obtain ⟨r, eP, hP⟩ := hP
  rw [eP]
  simp only [Option.bind_some]
  have key : ∃ (w h : Int) (cs : List Int) (x y : Int), (if r.2.2.2.2.2 = true then some (a3, s3, r.1, r.2.1, r.2.2.1, r.2.2.2.1, r.2.2.2.2.1) else some (a3, s3, 1 + r1, 1 + r2, List.replicate n 32, 0, 0)) = some (a3, s3, w, h, cs, x, y) ∧ cs.length ≤ 1000 ∧ 1 ≤ cs.length ∧ 0 ≤ w ∧ w ≤ 1000 := by
    cases hr : r.2.2.2.2.2 with
    | true =>
      exact ⟨r.1, r.2.1, r.2.2.1, r.2.2.2.1, r.2.2.2.2.1, rfl, hP hr⟩
    | false => exact ⟨_, _, _, _, _, rfl, by simp; omega, by simp; omega, by omega, by omega⟩
  obtain ⟨w, h, cs, x, y, e4, c1, c2, w0, w1⟩ := key
  rw [e4]
  simp only [Option.bind_some]
  obtain ⟨v, a5, s5, e5, _, _, _, _, x5, y5⟩ := p_pick code hc a3 s3 40 (by omega) (by omega)
  rw [e5]
  simp only [Option.bind_some]
  by_cases v0 : (v == 0) = true
  · rw [if_pos v0]
    exact ⟨w, h, cs, _, y, a5, s5, rfl, c1, by omega, by omega⟩
  · rw [if_neg v0]
    by_cases v1 : (v == 1) = true
    · rw [if_pos v1]
      obtain ⟨u, a6, s6, e6, _, x6, y6⟩ := p_among code hc a5 s5 [7, 55296] (by simp) (by omega) (by omega)
      rw [e6]
      simp only [Option.bind_some]
      have k1 := rd?_at (xs := cs) (i := 0) (by omega)
      have k2 := st?_at (xs := cs) (i := 0) u (by omega)
      rw [show ((0 : Nat) : Int) = 0 from rfl] at k1 k2
      rw [k1]
      simp only [Option.bind_some]
      rw [k2]
      exact ⟨w, h, _, x, y, a6, s6, rfl, by simpa using c1, by omega, by omega⟩
    · rw [if_neg v1]
      exact ⟨w, h, cs, x, y, a5, s5, rfl, c1, by omega, by omega⟩
theorem p_small (code : List Int) (hc : allW (inK .u8) code) (a s : Int) (m : Nat) (hm : m ≤ 100) (h0 : 0 ≤ a) (h1 : a ≤ 10000000000) : ∃ (l : List Int) (a' s' : Int), spec_l1Cur_small.f code a s (m : Int) = some (l, a', s') ∧ l.length ≤ 100 ∧ a ≤ a' ∧ a' ≤ a + 1000 := by
  unfold spec_l1Cur_small.f
  rw [wrapN m (by omega)]
  obtain ⟨n, a1, s1, e1, n0, n1, _, _, x1, y1⟩ := p_pick code hc a s ((m + 1 : Nat) : Int) h0 (by omega)
  rw [e1]
  simp only [Option.bind_some]
  obtain ⟨n, rfl⟩ := Int.eq_ofNat_of_zero_le n0
  have hn : n ≤ 100 := by have := n1 (by omega); omega
  have key : ∀ (n f : Nat) (l : List Int) (a s : Int), n < f → 0 ≤ a → a + 2 * n ≤ 100000000000 → l.length + n ≤ 100 → ∃ (l' : List Int) (a' s' : Int), spec_l1Cur_small.l1 code f l (n : Int) a s = some (l', a', s') ∧ l'.length ≤ 100 ∧ a ≤ a' ∧ a' ≤ a + 2 * n := by
    intro n
    induction n with
    | zero =>
      intro f l a s hf _ _ hl
      obtain ⟨f, rfl⟩ := Nat.exists_eq_succ_of_ne_zero (show f ≠ 0 by omega)
      rw [spec_l1Cur_small.l1, if_neg (by simp)]
      exact ⟨l, a, s, rfl, by omega, by omega, by omega⟩
    | succ n ih =>
      intro f l a s hf ha ha2 hl
      obtain ⟨f, rfl⟩ := Nat.exists_eq_succ_of_ne_zero (show f ≠ 0 by omega)
      rw [spec_l1Cur_small.l1, if_pos (by simp <;> omega)]
      obtain ⟨r, a1, s1, e1, _, x1, y1⟩ := p_among code hc a s [97, 98, 97, 98, 99, 12354] (by simp) ha (by omega)
      rw [e1]
      simp only [Option.bind_some]
      rw [app?_at (by simp; omega)]
      simp only [Option.bind_some]
      rw [wrapS (n := ((n + 1 : Nat) : Int) - 1) (by omega) (by omega), show ((n + 1 : Nat) : Int) - 1 = (n : Int) by omega]
      obtain ⟨l', a', s', e', g1, g2, g3⟩ := ih f (l ++ [r]) a1 s1 (by omega) (by omega) (by omega) (by simp; omega)
      exact ⟨l', a', s', e', g1, by omega, by omega⟩
  obtain ⟨l, a2, s2, e2, g1, x2, y2⟩ := key n (((n : Int) - 0).toNat + 2) [] a1 s1 (by omega) (by omega) (by omega) (by simp; omega)
  rw [e2]
  simp only [Option.bind_some]
  exact ⟨l, a2, s2, rfl, by omega, by omega, by omega⟩
theorem p_sameInts (p q : List Int) (hp : p.length ≤ big) : laws_sameInts.f p q = some (decide (p = q)) :=
  eq_all p q hp (laws_sameInts.l1 p q) _ (by omega) fun _ _ _ => rfl
theorem p_big (p q : List Int) (hp : p.length ≤ maxN) : laws_big.f p q = some (decide ((p.length : Int) + q.length > 1048576)) := by
  unfold laws_big.f
  unfold maxN at hp
  by_cases h : (p.length : Int) > 1048576
  · rw [if_pos (by simpa using h)]
    simp; omega
  · rw [if_neg (by simpa using h), wrapS (by omega) (by omega)]
    congr 1
    rw [Bool.eq_iff_iff]
    simp; omega
theorem trim_last : ∀ (n : Nat) (x : List Int), x.length ≤ n → (trim n x).getLast? ≠ some 32
  | 0, x, h => by
    obtain rfl : x = [] := List.eq_nil_of_length_eq_zero (by omega)
    simp [trim]
  | n + 1, x, h => by
    unfold trim
    split
    · exact trim_last n x.dropLast (by simp; omega)
    · assumption
theorem p_RowLast (w h : Int) (cs : List Int) (x y p : Int) (hc : cs.length ≤ big) (hp : inK .i64 p) (r : List Int × Bool) (hr : impl_RowOf.f w h cs x y p = some r) : r.1.getLast? ≠ some 32 := by
  unfold impl_RowOf.f impl_isPlace.f at hr
  simp only [p_implScreen w h cs x y hc, p_inRange, Option.bind_some] at hr
  cases hs : okScreen w h cs x y with
  | false => rw [hs] at hr; obtain rfl := Option.some.inj hr; simp
  | true =>
    rw [hs] at hr
    simp only [Bool.not_true, Bool.false_eq_true, if_false, Option.bind_some] at hr
    cases hy : (decide (0 ≤ p) && decide (p ≤ IntKind.i64.wrap (h - 1))) with
    | false => rw [hy] at hr; obtain rfl := Option.some.inj hr; simp
    | true =>
      rw [hy] at hr
      simp only [Bool.not_true, Bool.false_eq_true, if_false, Option.bind_some] at hr
      simp only [okScreen, Bool.and_eq_true, decide_eq_true_eq] at hs hy
      rw [wrapS (by omega) (by omega)] at hy
      obtain ⟨n, rfl⟩ := Int.eq_ofNat_of_zero_le hy.1
      obtain ⟨row, hrw, e⟩ := p_row w h cs x y n hs.1.1.1.1.1.1 hs.1.1.1.1.1.2 hs.1.1.1.1.2.2 (by omega) hs.1.2
      have hrl : row.length ≤ 20 := by omega
      unfold impl_Screen_rowOf.f impl_Screen_row.f slices_Clone_int_int.f at hr
      rw [e] at hr
      simp only [Option.bind_some] at hr
      rw [app?_at (by simp; omega)] at hr
      simp only [Option.bind_some, List.nil_append] at hr
      have t1 := p_trim_l impl_Screen_rowOf.l1 (fun _ _ => rfl) ((((row.length : Int)) - (0)).toNat + 2) row (by omega) (by unfold big; omega)
      rw [t1] at hr
      simp only [Option.bind_some] at hr
      have hl := trim_len row.length row
      rw [app?_at (by simp; omega)] at hr
      simp only [Option.bind_some, List.nil_append] at hr
      obtain rfl := Option.some.inj hr
      exact trim_last row.length row (Nat.le_refl _)
theorem p_shownLoop (w h : Int) (cs : List Int) (x y : Int) (l : List Int) (Y X : Nat) (hs : okScreen w h cs x y = true) (hY : (Y : Int) < h) (hX : X + l.length ≤ w.toNat) (ha : at2 w.toNat cs l Y X = true) : ∀ (k i : Nat), i ≤ l.length → l.length - i < k → laws_FnShown.l1 (w, h, cs, x, y, l) ((Y : Int), (X : Int), true) k i = some (Lo.go ()) := by
  simp only [okScreen, Bool.and_eq_true, decide_eq_true_eq] at hs
  obtain ⟨W, hW⟩ := Int.eq_ofNat_of_zero_le (show 0 ≤ w by omega)
  obtain ⟨a, b, e1, e2, e3, e4, e5, e6⟩ := mul_row hs.1.1.1.1.1.1 hs.1.1.1.1.1.2 hs.1.1.1.1.2.2 hY
  have hc := hs.1.2
  have hWn : w.toNat = W := by omega
  have haW : a = Y * W := by rw [hW] at e1; exact_mod_cast e1
  rw [hWn] at ha hX
  unfold at2 at ha
  rw [decide_eq_true_eq, ← haW] at ha
  intro k
  induction k with
  | zero => intro i _ h; omega
  | succ k ih =>
    intro i hi hk
    rw [laws_FnShown.l1]
    dsimp only
    by_cases hlt : i < l.length
    · rw [if_pos (by simpa using hlt), rd?_at hlt]
      simp only [Option.bind_some]
      rw [← e1, wrapS (n := (a : Int)) (by omega) (by omega), wrapS (n := (a : Int) + X) (by omega) (by omega), wrapS (n := (a : Int) + X + i) (by omega) (by omega)]
      have hin : a + X + i < cs.length := by omega
      have hcell : cs[a + X + i] = l[i] := by
        have := congrArg (fun z => z[i]?) ha
        simp only [List.getElem?_take, List.getElem?_drop, if_pos hlt] at this
        rw [List.getElem?_eq_getElem hlt, List.getElem?_eq_getElem hin] at this
        exact Option.some.inj this
      have er := rd?_at hin
      rw [show ((a + X + i : Nat) : Int) = (a : Int) + X + i by omega] at er
      rw [er, hcell]
      simp only [Option.bind_some, bne_self_eq_false, Bool.false_eq_true, if_false]
      rw [wrapN i (by omega)]
      exact ih (i + 1) (by omega) (by omega)
    · rw [if_neg (by simpa using hlt)]
theorem law_Shown (p q : List Int) (hpb : allW (inK .u8) p) (hqb : allW (inK .u8) q) : laws_FnShown.f p q = some true := by
  unfold laws_FnShown.f
  rw [p_big p q hpb.1]
  simp only [Option.bind_some]
  by_cases hb : (p.length : Int) + q.length > 1048576
  · rw [if_pos (by simpa using hb)]
  rw [if_neg (by simpa using hb)]
  -- what is drawn
  have hD : ∃ (w h : Int) (cs : List Int) (x y : Int) (l : List Int), spec_DrawShowsAt.f p = some (w, h, cs, x, y, l) ∧ cs.length ≤ 1000 ∧ l.length ≤ 100 := by
    unfold spec_DrawShowsAt.f
    obtain ⟨w, h, cs, x, y, a1, s1, e1, c1, b1, b2⟩ := p_screen p hpb 0 0 (by omega) (by omega)
    rw [e1]
    simp only [Option.bind_some]
    obtain ⟨l, a2, s2, e2, l1, _, _⟩ := p_small p hpb a1 s1 3 (by omega) (by omega) (by omega)
    rw [show ((3 : Nat) : Int) = 3 from rfl] at e2
    rw [e2]
    exact ⟨w, h, cs, x, y, l, rfl, c1, l1⟩
  obtain ⟨w, h, cs, x, y, l, eD, c1, l1⟩ := hD
  have hD2 : ∃ (w h : Int) (cs : List Int) (x y k : Int), spec_DrawRowOf.f q = some (w, h, cs, x, y, k) ∧ cs.length ≤ 1000 ∧ inK .i64 k := by
    unfold spec_DrawRowOf.f
    obtain ⟨w, h, cs, x, y, a1, s1, e1, c1, b1, b2⟩ := p_screen q hqb 0 0 (by omega) (by omega)
    rw [e1]
    simp only [Option.bind_some]
    obtain ⟨r2, a2, s2, e2, p2, q2, _, _, x2, y2⟩ := p_pick q hqb a1 s1 (IntKind.i64.wrap (h + 1)) (by omega) (by omega)
    rw [e2]
    simp only [Option.bind_some]
    obtain ⟨r3, a3, s3, e3, p3, q3, _, _, x3, y3⟩ := p_pick q hqb a2 s2 20 (by omega) (by omega)
    rw [e3]
    simp only [Option.bind_some]
    have hq3 := q3 (by omega)
    obtain ⟨n, rfl⟩ := Int.eq_ofNat_of_zero_le p3
    have hq : ∀ n : Nat, n < 20 → (quo? .i64 (n : Int) 19).isSome = true := by decide +kernel
    obtain ⟨u, hu⟩ := Option.isSome_iff_exists.1 (hq n (by omega))
    rw [hu]
    refine ⟨w, h, cs, x, y, _, rfl, c1, ?_⟩
    rw [IntKind.wrap_i64]
    refine ⟨?_, ?_⟩
    · show -9223372036854775808 ≤ _
      omega
    · show _ ≤ 9223372036854775807
      omega
  obtain ⟨w2, h2, cs2, x2, y2, k2, eD2, c2, hk2⟩ := hD2
  have hD3 : ∃ (w h : Int) (cs : List Int) (x y : Int), spec_DrawScreenText.f q = some (w, h, cs, x, y) ∧ cs.length ≤ 1000 := by
    unfold spec_DrawScreenText.f spec_DrawGoodScreen.f
    obtain ⟨w, h, cs, x, y, a1, s1, e1, c1, b1, b2⟩ := p_screen q hqb 0 0 (by omega) (by omega)
    rw [e1]
    exact ⟨w, h, cs, x, y, rfl, c1⟩
  obtain ⟨w3, h3, cs3, x3, y3, eD3, c3⟩ := hD3
  -- the last part
  have last : ((impl_PutRune.f w3 h3 cs3 x3 y3 12354).bind fun u184 => if u184.2.2.2.2.2 = true then ((impl_ShowsAt.f u184.1 u184.2.1 u184.2.2.1 u184.2.2.2.1 u184.2.2.2.2.1 [12354]).bind fun u193 => if u193.2.2 = true then (if (decide (u193.1 < u184.2.2.2.2.1)) = true then (if (decide ((IntKind.i64.wrap ((IntKind.i64.wrap (u184.2.2.2.2.1 * u184.1)) + u184.2.2.2.1)) ≥ 1)) = true then (if (decide ((IntKind.i64.wrap ((IntKind.i64.wrap (u184.2.2.2.2.1 * u184.1)) + u184.2.2.2.1)) ≤ (u184.2.2.1.length : Int))) = true then ((rd? u184.2.2.1 (IntKind.i64.wrap ((IntKind.i64.wrap ((IntKind.i64.wrap (u184.2.2.2.2.1 * u184.1)) + u184.2.2.2.1)) - 1))).bind fun u199 => some (u199 == 12354)) else (some false)) else (some false)) else (if (u193.1 == u184.2.2.2.2.1) = true then (if (decide (u193.2.1 < u184.2.2.2.1)) = true then (if (decide ((IntKind.i64.wrap ((IntKind.i64.wrap (u184.2.2.2.2.1 * u184.1)) + u184.2.2.2.1)) ≥ 1)) = true then (if (decide ((IntKind.i64.wrap ((IntKind.i64.wrap (u184.2.2.2.2.1 * u184.1)) + u184.2.2.2.1)) ≤ (u184.2.2.1.length : Int))) = true then ((rd? u184.2.2.1 (IntKind.i64.wrap ((IntKind.i64.wrap ((IntKind.i64.wrap (u184.2.2.2.2.1 * u184.1)) + u184.2.2.2.1)) - 1))).bind fun u204 => some (u204 == 12354)) else (some false)) else (some false)) else (some false)) else (some false))) else (some false)) else (some true)) = some true := by
    obtain ⟨r, g1, g2⟩ := p_PutVis w3 h3 cs3 x3 y3 (by unfold big; omega)
    rw [g1]
    simp only [Option.bind_some]
    cases hr : r.2.2.2.2.2 with
    | false => simp
    | true =>
      obtain ⟨I, hx1, j, hj, hcell⟩ := g2 hr
      simp only [if_true]
      have hl := I.len
      have i1 := I.w0; have i2 := I.w1; have i3 := I.h0; have i4 := I.h1; have i5 := I.y0; have i6 := I.y1; have i7 := I.x0; have i8 := I.c; have i9 := I.x1
      have hjl : j < r.2.2.1.length := (List.getElem?_eq_some_iff.1 hcell).1
      obtain ⟨W, hW⟩ := Int.eq_ofNat_of_zero_le (show 0 ≤ r.1 by omega)
      obtain ⟨Y, hY⟩ := Int.eq_ofNat_of_zero_le i5
      obtain ⟨X, hX⟩ := Int.eq_ofNat_of_zero_le (show 0 ≤ r.2.2.2.1 - 1 by omega)
      have hWn : r.1.toNat = W := by omega
      have hjn : j = Y * W + X := by
        have : (j : Int) = ((Y * W + X : Nat) : Int) := by
          rw [hj, hY, hW]
          simp
          omega
        exact_mod_cast this
      have hat : at2 W r.2.2.1 [12354] Y X = true := by
        unfold at2
        rw [decide_eq_true_eq, ← hjn, List.drop_eq_getElem_cons hjl]
        have := (List.getElem?_eq_some_iff.1 hcell).2
        simp [this]
      obtain ⟨r2, f1, f2⟩ := p_ShowsF r.1 r.2.1 r.2.2.1 r.2.2.2.1 r.2.2.2.2.1 [12354] (by unfold big; omega) (by unfold big; simp)
      rw [f1]
      simp only [Option.bind_some]
      rw [hWn] at f2
      have ok := inv_ok I
      have chain : (if (decide ((IntKind.i64.wrap ((IntKind.i64.wrap (r.2.2.2.2.1 * r.1)) + r.2.2.2.1)) ≥ 1)) = true then (if (decide ((IntKind.i64.wrap ((IntKind.i64.wrap (r.2.2.2.2.1 * r.1)) + r.2.2.2.1)) ≤ (r.2.2.1.length : Int))) = true then ((rd? r.2.2.1 (IntKind.i64.wrap ((IntKind.i64.wrap ((IntKind.i64.wrap (r.2.2.2.2.1 * r.1)) + r.2.2.2.1)) - 1))).bind fun u199 => some (u199 == 12354)) else (some false)) else (some false)) = some true := by
        have ea : r.2.2.2.2.1 * r.1 = (j : Int) + 1 - r.2.2.2.1 := by omega
        rw [ea, wrapS (n := (j : Int) + 1 - r.2.2.2.1) (by omega) (by omega), wrapS (n := (j : Int) + 1 - r.2.2.2.1 + r.2.2.2.1) (by omega) (by omega), if_pos (by simp; omega), if_pos (by simp; omega), wrapS (by omega) (by omega), show (j : Int) + 1 - r.2.2.2.1 + r.2.2.2.1 - 1 = (j : Int) by omega, rd?_at hjl]
        have := (List.getElem?_eq_some_iff.1 hcell).2
        simp [this]
      rcases f2 with ⟨rfl, f3⟩ | ⟨Y0, X0, rfl, _, _, b1, b2, b3, b4⟩
      · have := f3 ok (by simp) (by simp) (by decide) Y X (by omega) (by simp; omega)
        rw [this] at hat
        cases hat
      · have hle : Y0 < Y ∨ Y0 = Y ∧ X0 ≤ X := by
          by_cases h1 : Y < Y0 ∨ Y = Y0 ∧ X < X0
          · have := b4 Y X h1 (by simp; omega)
            rw [this] at hat
            cases hat
          · omega
        simp only [if_true]
        rcases hle with hle | ⟨hle, hle2⟩
        · rw [if_pos (by rw [decide_eq_true_eq]; omega)]
          exact chain
        · rw [if_neg (by rw [decide_eq_true_eq]; omega), if_pos (by rw [beq_iff_eq]; omega), if_pos (by rw [decide_eq_true_eq]; omega)]
          exact chain
  rw [eD]
  simp only [Option.bind_some]
  obtain ⟨r, e1, e2⟩ := p_ShowsAt w h cs x y l (by unfold big; omega) (by unfold big; omega)
  obtain ⟨r', f1, f2⟩ := p_ShowsF w h cs x y l (by unfold big; omega) (by unfold big; omega)
  obtain rfl : r = r' := Option.some.inj (e1.symm.trans f1)
  rw [e1, e2]
  simp only [Option.bind_some, bne_self_eq_false, Bool.false_eq_true, if_false]
  have L : (if r.2.2 = true then (laws_FnShown.l1 (w, h, cs, x, y, l) r ((((l.length : Int)) - (0)).toNat + 2) 0) else (some (Lo.go ()))) = some (Lo.go ()) := by
    rcases f2 with ⟨rfl, f3⟩ | ⟨Y0, X0, rfl, b0, _, b1, b2, b3, b4⟩
    · rfl
    · rw [if_pos rfl]
      have := p_shownLoop w h cs x y l Y0 X0 b0 b1 b2 b3 (((l.length : Int) - 0).toNat + 2) 0 (by omega) (by omega)
      rw [show ((0 : Nat) : Int) = 0 from rfl] at this
      exact this
  rw [L]
  simp only [Option.bind_some]
  rw [eD2]
  simp only [Option.bind_some]
  obtain ⟨t, t1, t2, t3⟩ := p_RowOf w2 h2 cs2 x2 y2 k2 (by unfold big; omega) hk2
  have t4 := p_RowLast w2 h2 cs2 x2 y2 k2 (by unfold big; omega) hk2 t t1
  rw [t1, t2]
  simp only [Option.bind_some, bne_self_eq_false, Bool.false_eq_true, if_false, p_sameInts t.1 t.1 (by unfold big; omega), decide_true, Bool.not_true]
  have R : (if t.2 = true then (if (decide ((t.1.length : Int) > 0)) = true then ((rd? t.1 (IntKind.i64.wrap ((t.1.length : Int) - 1))).bind fun u154 => some (u154 == 32)) else (some false)) else (some false)) = some false := by
    cases ht : t.2 with
    | false => rfl
    | true =>
      simp only [if_true]
      by_cases hl : t.1.length = 0
      · rw [if_neg (by simp; exact List.eq_nil_of_length_eq_zero hl)]
      · rw [if_pos (by rw [decide_eq_true_eq]; omega), wrapS (by omega) (by omega), show (t.1.length : Int) - 1 = ((t.1.length - 1 : Nat) : Int) by omega, rd?_at (by omega)]
        rw [List.getLast?_eq_getElem?, List.getElem?_eq_getElem (by omega)] at t4
        simp only [Option.bind_some]
        congr 1
        rw [beq_eq_false_iff_ne]
        intro h
        exact t4 (by rw [h])
  rw [R]
  simp only [Option.bind_some, Bool.false_eq_true, if_false]
  rw [eD3]
  simp only [Option.bind_some]
  obtain ⟨v, v1, v2⟩ := p_ScreenText w3 h3 cs3 x3 y3 (by unfold big; omega)
  rw [v1, v2]
  simp only [Option.bind_some, bne_self_eq_false, Bool.false_eq_true, if_false, beq_self_eq_true, Bool.not_true]
  exact last
end Go.Proofs.Ytkieinlcpkpcjaa
