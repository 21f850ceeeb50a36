/- Plain laws of the printed functions. Conditions as each lemma says. -/
import Derived.Test.YtihocjbngajjkaaPB
import Derived.Test.YtihocjbngajjkaaWRowOf1
set_option linter.unusedVariables false
set_option linter.unusedSimpArgs false
namespace Go.Proofs.Ytihocjbngajjkaa
open Go Go.Proofs.GL
theorem p_l1In (a b c : Int) : spec_l1In.f a b c = some (decide (b ≤ a) && decide (a ≤ c)) := by
  unfold spec_l1In.f
  by_cases h : b ≤ a
  · rw [if_pos (by simpa using h)]; simp [h]
  · rw [if_neg (by simpa using h)]; simp [h]
theorem p_inRange (a b c : Int) : impl_inRange.f a b c = some (decide (b ≤ a) && decide (a ≤ c)) := by
  unfold impl_inRange.f
  by_cases h : b ≤ a
  · rw [if_pos (by simpa using h)]; simp [h]
  · rw [if_neg (by simpa using h)]; simp [h]
def okRune (r : Int) : Bool := decide (0 ≤ r) && decide (r ≤ 1114111) && !(decide (55296 ≤ r) && decide (r ≤ 57343))
theorem p_specRune (r : Int) : spec_GoodRune.f r = some (okRune r) := by
  unfold spec_GoodRune.f okRune
  simp only [p_l1In, Option.bind_some]
  cases (decide (0 ≤ r) && decide (r ≤ 1114111)) <;> rfl
theorem p_implRune (r : Int) : impl_GoodRune.f r = some (okRune r) := by
  unfold impl_GoodRune.f okRune
  simp only [p_inRange, Option.bind_some]
  cases (decide (0 ≤ r) && decide (r ≤ 1114111)) <;> rfl
theorem p_allRunes (p : List Int) (hp : p.length ≤ big) : spec_l1AllRunes.f p = some (p.all okRune && decide (p.length ≤ 1000)) := by
  unfold spec_l1AllRunes.f
  have := all_loop p hp (fun u => !okRune u) false (spec_l1AllRunes.l1 p) (fun k i => by rw [spec_l1AllRunes.l1]; simp only [p_specRune, Option.bind_some]) (((p.length : Int) - 0).toNat + 2) 0 (by omega) (by omega)
  rw [show ((0 : Nat) : Int) = 0 from rfl] at this
  rw [this, List.drop_zero]
  have e : p.any (fun u => !okRune u) = !p.all okRune := by rw [List.all_eq_not_any_not]; simp
  rw [e]
  cases h : p.all okRune <;> simp
  omega
theorem mul_le160 {w h : Int} (h1 : 1 ≤ w) (h2 : w ≤ 20) (h3 : 1 ≤ h) (h4 : h ≤ 8) : 1 ≤ w * h ∧ w * h ≤ 160 := by
  have a := Int.mul_le_mul h2 h4 (by omega) (by omega)
  have b := Int.mul_le_mul h1 h3 (by omega) (by omega)
  omega
theorem p_l1All (p : List Int) (a b : Int) (hp : p.length ≤ big) : spec_l1All.f p a b = some (p.all fun u => decide (a ≤ u) && decide (u ≤ b)) := by
  unfold spec_l1All.f
  have := all_loop p hp (fun u => !(decide (a ≤ u) && decide (u ≤ b))) false (spec_l1All.l1 p a b) (fun k i => by rw [spec_l1All.l1]; simp only [p_l1In, Option.bind_some]) (((p.length : Int) - 0).toNat + 2) 0 (by omega) (by omega)
  rw [show ((0 : Nat) : Int) = 0 from rfl] at this
  rw [this, List.drop_zero]
  have e : p.any (fun u => !(decide (a ≤ u) && decide (u ≤ b))) = !p.all fun u => decide (a ≤ u) && decide (u ≤ b) := by rw [List.all_eq_not_any_not]; simp
  rw [e]
  cases h : p.all fun u => decide (a ≤ u) && decide (u ≤ b) <;> simp
def okCell (r : Int) : Bool := okRune r && decide (32 ≤ r)
theorem p_goodCells (p : List Int) (hp : p.length ≤ big) : slices_ContainsFunc_int_int_impl_GoodScreen_1.f p = some (!p.all okCell) := by
  unfold slices_ContainsFunc_int_int_impl_GoodScreen_1.f slices_IndexFunc_int_int_impl_GoodScreen_1.f
  have e1 : ∀ u, impl_GoodScreen_1.f u = some (!okCell u) := fun u => by
    unfold impl_GoodScreen_1.f okCell
    simp only [p_implRune, Option.bind_some]
    by_cases h : u < 32
    · rw [if_pos (by simpa using h)]; simp; exact .inr h
    · rw [if_neg (by simpa using h)]
      have : decide (32 ≤ u) = true := by simp; omega
      simp [this]
  have := scan_loop p hp (fun u => !okCell u) (fun i _ => i) (slices_IndexFunc_int_int_impl_GoodScreen_1.l1 p) (fun k i => by rw [slices_IndexFunc_int_int_impl_GoodScreen_1.l1]; simp only [e1, Option.bind_some]) (((p.length : Int) - 0).toNat + 2) 0 (by omega) (by omega)
  rw [show ((0 : Nat) : Int) = 0 from rfl] at this
  rw [this, List.drop_zero]
  have e : p.all okCell = !(p.any fun u => !okCell u) := List.all_eq_not_any_not
  rw [e, Bool.not_not]
  cases hf : p.findIdx? (fun u => !okCell u) with
  | none =>
    have : p.any (fun u => !okCell u) = false := by
      rw [List.findIdx?_eq_none_iff] at hf
      simpa using hf
    rw [this]; simp
  | some j =>
    obtain ⟨hj, h1, h2⟩ := List.findIdx?_eq_some_iff_getElem.1 hf
    have : p.any (fun u => !okCell u) = true := List.any_eq_true.2 ⟨_, List.getElem_mem hj, h1⟩
    rw [this]
    simp [hj]
/-- A good screen. -/
def okScreen (w h : Int) (cs : List Int) (x y : Int) : Bool := decide (1 ≤ w) && decide (w ≤ 20) && (decide (1 ≤ h) && decide (h ≤ 8)) && (decide (0 ≤ x) && decide (x ≤ w)) && (decide (0 ≤ y) && decide (y < h)) && decide ((cs.length : Int) = w * h) && cs.all okCell
theorem p_specScreen (w h : Int) (cs : List Int) (x y : Int) (hp : cs.length ≤ big) : spec_GoodScreen.f w h cs x y = some (okScreen w h cs x y) := by
  unfold spec_GoodScreen.f okScreen
  simp only [p_l1In, Option.bind_some, p_allRunes cs hp, p_l1All cs _ _ hp]
  by_cases h1 : 1 ≤ w ∧ w ≤ 20
  · by_cases h2 : 1 ≤ h ∧ h ≤ 8
    · obtain ⟨m1, m2⟩ := mul_le160 h1.1 h1.2 h2.1 h2.2
      rw [wrapS (n := h - 1) (by omega) (by omega), wrapS (n := w * h) (by omega) (by omega)]
      by_cases h3 : 0 ≤ x ∧ x ≤ w
      · by_cases h4 : 0 ≤ y ∧ y < h
        · by_cases h5 : (cs.length : Int) = w * h
          · have h6 : cs.length ≤ 1000 := by omega
            have h7 : y ≤ h - 1 := by omega
            have e : (cs.all okRune && cs.all fun u => decide (32 ≤ u) && decide (u ≤ 1114111)) = cs.all okCell := by
              rw [Bool.eq_iff_iff]
              simp only [Bool.and_eq_true, List.all_eq_true, okCell, okRune, decide_eq_true_eq, Bool.not_eq_true', Bool.and_eq_false_iff, decide_eq_false_iff_not]
              constructor
              · rintro ⟨a, b⟩ u hu
                exact ⟨a u hu, (b u hu).1⟩
              · intro a
                exact ⟨fun u hu => (a u hu).1, fun u hu => ⟨(a u hu).2, (a u hu).1.1.2⟩⟩
            rw [← e]
            generalize cs.all okRune = a1
            generalize (cs.all fun u => decide (32 ≤ u) && decide (u ≤ 1114111)) = a2
            simp [h1, h2, h3, h4, h5, h6, h7]
            cases a1 <;> simp
          · have h7 : ¬ (h - 1 < y) := by omega
            simp [h1, h2, h3, h4, h5, h7]
        · have h7 : ¬ (0 ≤ y ∧ y ≤ h - 1) := by omega
          have e1 : (decide (0 ≤ y) && decide (y ≤ h - 1)) = false := by simpa using h7
          have e2 : (decide (0 ≤ y) && decide (y < h)) = false := by simpa using h4
          simp [h1, h2, h3, e1, e2]
      · have e1 : (decide (0 ≤ x) && decide (x ≤ w)) = false := by simpa using h3
        simp [h1, h2, e1]
    · have e1 : (decide (1 ≤ h) && decide (h ≤ 8)) = false := by simpa using h2
      simp [h1, e1]
  · have e1 : (decide (1 ≤ w) && decide (w ≤ 20)) = false := by simpa using h1
    simp [e1]
theorem p_implScreen (w h : Int) (cs : List Int) (x y : Int) (hp : cs.length ≤ big) : impl_GoodScreen.f w h cs x y = some (okScreen w h cs x y) := by
  unfold impl_GoodScreen.f okScreen impl_isPlace.f
  simp only [p_inRange, Option.bind_some, p_goodCells cs hp]
  by_cases h1 : 1 ≤ w ∧ w ≤ 20
  · by_cases h2 : 1 ≤ h ∧ h ≤ 8
    · obtain ⟨m1, m2⟩ := mul_le160 h1.1 h1.2 h2.1 h2.2
      rw [wrapS (n := h - 1) (by omega) (by omega), wrapS (n := w * h) (by omega) (by omega)]
      by_cases h3 : 0 ≤ x ∧ x ≤ w
      · by_cases h4 : 0 ≤ y ∧ y < h
        · have h7 : y ≤ h - 1 := by omega
          by_cases h5 : (cs.length : Int) = w * h
          · simp [h1, h2, h3, h4, h5, h7]
          · simp [h1, h2, h3, h4, h5]
        · have h7 : ¬ (0 ≤ y ∧ y ≤ h - 1) := by omega
          have e1 : (decide (0 ≤ y) && decide (y ≤ h - 1)) = false := by simpa using h7
          have e2 : (decide (0 ≤ y) && decide (y < h)) = false := by simpa using h4
          simp [h1, h2, h3, e1, e2]
      · have e1 : (decide (0 ≤ x) && decide (x ≤ w)) = false := by simpa using h3
        simp [h1, h2, e1]
    · have e1 : (decide (1 ≤ h) && decide (h ≤ 8)) = false := by simpa using h2
      simp [h1, e1]
  · have e1 : (decide (1 ≤ w) && decide (w ≤ 20)) = false := by simpa using h1
    simp [e1]
theorem p_eqIntS (p q : List Int) (hp : p.length ≤ big) : laws_eqIntS.f p q = some (decide (p = q)) :=
  eq_all p q hp (laws_eqIntS.l1 p q) _ (by omega) fun _ _ _ => rfl
theorem p_toIntS_l (p : List Int) (hp : p.length ≤ big) : ∀ (k i : Nat) (x : List Int), i ≤ p.length → p.length - i < k → x.length = p.length → x.take i = p.take i → laws_toIntS.l1 p k x i = some p := by
  intro k
  induction k with
  | zero => intro i x _ h; omega
  | succ k ih =>
    intro i x hi hk hl ht
    rw [laws_toIntS.l1]
    by_cases h : i < p.length
    · rw [if_pos (by simpa using h), rd?_at h]
      simp only [Option.bind_some]
      rw [rd?_at (by omega : i < x.length)]
      simp only [Option.bind_some]
      rw [st?_at p[i] (by omega : i < x.length)]
      simp only [Option.bind_some]
      rw [wrapN i (by unfold big at hp; omega)]
      refine ih (i + 1) _ h (by omega) (by simpa using hl) ?_
      rw [List.take_add_one, List.take_add_one, List.take_set_of_le (Nat.le_refl i), ht]
      simp [h, hl]
    · rw [if_neg (by simpa using h)]
      obtain rfl : i = p.length := by omega
      rw [List.take_length, ← hl, List.take_length] at ht
      rw [ht]
theorem p_toIntS (p : List Int) (hp : p.length ≤ big) : laws_toIntS.f p = some p := by
  unfold laws_toIntS.f
  rw [mk?_at (by unfold big at hp; omega)]
  simp only [Option.bind_some]
  have := p_toIntS_l p hp (((p.length : Int) - 0).toNat + 2) 0 (List.replicate p.length 0) (by omega) (by omega) (by simp) (by simp)
  rw [show ((0 : Nat) : Int) = 0 from rfl] at this
  rw [this]
  rfl
theorem p_szIntS (p : List Int) (n : Int) (h0 : 0 ≤ n) (h1 : n ≤ 1048576) (hp : p.length ≤ maxN) : laws_szIntS.f p n = some (if (p.length : Int) ≤ n then n - p.length else -1) := by
  unfold laws_szIntS.f
  unfold maxN at hp
  rw [wrapS (by omega) (by omega)]
  by_cases h : (p.length : Int) ≤ n
  · rw [if_neg (by simp; omega), if_pos h]
  · rw [if_pos (by simp; omega), if_neg h]
theorem p_eqScreen (w h : Int) (cs : List Int) (x y : Int) (hp : cs.length ≤ big) : laws_eqScreen.f w h cs x y w h cs x y = some true := by
  unfold laws_eqScreen.f
  rw [p_eqIntS cs cs hp]
  simp
theorem p_szScreen (w h : Int) (cs : List Int) (x y : Int) (n : Int) (h0 : 0 ≤ n) (h1 : n ≤ 1048576) (hp : cs.length ≤ maxN) : ∃ u, laws_szScreen.f w h cs x y n = some u ∧ (u < 0 ∨ (cs.length : Int) ≤ n) := by
  unfold laws_szScreen.f
  rw [p_szIntS cs n h0 h1 hp]
  simp only [Option.bind_some]
  by_cases h : (cs.length : Int) ≤ n
  · rw [if_pos h, if_neg (by simp; omega)]; exact ⟨_, rfl, .inr h⟩
  · rw [if_neg h, if_pos (by decide)]; exact ⟨_, rfl, .inl (by decide)⟩
theorem p_toScreen (w h : Int) (cs : List Int) (x y : Int) (hp : cs.length ≤ big) : laws_toScreen.f w h cs x y = some (w, h, cs, x, y) := by
  unfold laws_toScreen.f
  rw [p_toIntS cs hp]
  rfl
theorem mul_row {w h : Int} {y : Nat} (h1 : 1 ≤ w) (h2 : w ≤ 20) (h4 : h ≤ 8) (hy : (y : Int) < h) : ∃ a b : Nat, (a : Int) = y * w ∧ (b : Int) = (y + 1) * w ∧ (b : Int) ≤ w * h ∧ b = a + w.toNat ∧ (a : Int) ≤ 160 ∧ (b : Int) ≤ 160 := by
  obtain ⟨n, rfl⟩ := Int.eq_ofNat_of_zero_le (show 0 ≤ w by omega)
  obtain ⟨m, rfl⟩ := Int.eq_ofNat_of_zero_le (show 0 ≤ h by omega)
  have hym : y + 1 ≤ m := by omega
  have e1 : (y + 1) * n ≤ m * n := Nat.mul_le_mul_right _ hym
  have e2 : m * n ≤ 8 * 20 := Nat.mul_le_mul (by omega) (by omega)
  refine ⟨y * n, (y + 1) * n, by simp, by simp, ?_, by rw [Nat.succ_mul]; simp, ?_, by omega⟩
  · rw [Int.mul_comm]; exact_mod_cast e1
  · have : y * n ≤ (y + 1) * n := Nat.mul_le_mul_right _ (by omega)
    omega
theorem p_row (w h : Int) (cs : List Int) (x y0 : Int) (y : Nat) (h1 : 1 ≤ w) (h2 : w ≤ 20) (h4 : h ≤ 8) (hy : (y : Int) < h) (hc : (cs.length : Int) = w * h) : ∃ row : List Int, (row.length : Int) = w ∧ cut? cs (IntKind.i64.wrap ((y : Int) * w)) (IntKind.i64.wrap ((IntKind.i64.wrap ((y : Int) + 1)) * w)) = some row := by
  obtain ⟨a, b, e1, e2, e3, e4, e5, e6⟩ := mul_row h1 h2 h4 hy
  rw [wrapS (n := (y : Int) + 1) (by omega) (by omega), ← e1, ← e2, wrapS (by omega) (by omega), wrapS (by omega) (by omega), cut?_at (by omega) (by omega)]
  exact ⟨_, by simp; omega, rfl⟩
def marks (k : Int) (n : Nat) : List Int := (List.range n).map fun i : Nat => k + i
theorem marks_len (k : Int) (n : Nat) : (marks k n).length = n := by simp [marks]
theorem marks_get (k : Int) (n i : Nat) (h : i < n) : (marks k n)[i]? = some (k + i) := by simp [marks, h]
theorem p_markIntS_l (p : List Int) (k0 : Int) (h0 : 0 ≤ k0) (h1 : k0 ≤ 1000000000000) (hp : p.length ≤ big) : ∀ (k i : Nat) (x : List Int), i ≤ p.length → p.length - i < k → x.length = p.length → x.take i = (marks k0 p.length).take i → laws_markIntS.l1 p k x (k0 + i) i = some (k0 + p.length, marks k0 p.length) := by
  intro k
  induction k with
  | zero => intro i x _ h; omega
  | succ k ih =>
    intro i x hi hk hl ht
    rw [laws_markIntS.l1]
    by_cases h : i < p.length
    · rw [if_pos (by simpa using h), rd?_at (by omega : i < x.length)]
      simp only [Option.bind_some]
      rw [st?_at _ (by omega : i < x.length)]
      simp only [Option.bind_some]
      unfold big at hp
      rw [wrapN i (by omega), wrapS (by omega) (by omega), show k0 + (i : Int) + 1 = k0 + ((i + 1 : Nat) : Int) by omega]
      refine ih (i + 1) _ h (by omega) (by simpa using hl) ?_
      rw [List.take_add_one, List.take_add_one, List.take_set_of_le (Nat.le_refl i), ht, marks_get _ _ _ h]
      simp [h, hl]
    · rw [if_neg (by simpa using h)]
      obtain rfl : i = p.length := by omega
      rw [List.take_of_length_le (l := x) (by omega), List.take_of_length_le (l := marks k0 p.length) (by rw [marks_len]; omega)] at ht
      rw [ht]
theorem p_markIntS (p : List Int) (k0 : Int) (h0 : 0 ≤ k0) (h1 : k0 ≤ 1000000000000) (hp : p.length ≤ big) : laws_markIntS.f p k0 = some (k0 + p.length, marks k0 p.length) := by
  unfold laws_markIntS.f
  have := p_markIntS_l p k0 h0 h1 hp (((p.length : Int) - 0).toNat + 2) 0 p (by omega) (by omega) rfl (by simp)
  rw [show ((0 : Nat) : Int) = 0 from rfl, Int.add_zero] at this
  rw [this]
  rfl
theorem p_heldIntS_l (n : Nat) (k0 : Int) (h0 : 0 ≤ k0) (h1 : k0 ≤ 1000000000000) (hp : n ≤ big) : ∀ (k i : Nat), i ≤ n → n - i < k → laws_heldIntS.l1 (marks k0 n) k (k0 + i) i = some (.go (k0 + n)) := by
  intro k
  induction k with
  | zero => intro i _ h; omega
  | succ k ih =>
    intro i hi hk
    rw [laws_heldIntS.l1, marks_len]
    by_cases h : i < n
    · have hm := rd?_at (xs := marks k0 n) (i := i) (by rw [marks_len]; exact h)
      have hg : (marks k0 n)[i]'(by rw [marks_len]; exact h) = k0 + i := by simp [marks]
      rw [if_pos (by simpa using h), hm, hg]
      simp only [Option.bind_some]
      unfold big at hp
      rw [if_neg (by simp), wrapN i (by omega), wrapS (by omega) (by omega), show k0 + (i : Int) + 1 = k0 + ((i + 1 : Nat) : Int) by omega]
      exact ih (i + 1) h (by omega)
    · rw [if_neg (by simpa using h)]
      obtain rfl : i = n := by omega
      rfl
theorem p_heldIntS (n : Nat) (k0 : Int) (h0 : 0 ≤ k0) (h1 : k0 ≤ 1000000000000) (hp : n ≤ big) : laws_heldIntS.f (marks k0 n) k0 = some (k0 + n) := by
  unfold laws_heldIntS.f
  have := p_heldIntS_l n k0 h0 h1 hp ((((marks k0 n).length : Int) - 0).toNat + 2) 0 (by omega) (by rw [marks_len]; omega)
  rw [show ((0 : Nat) : Int) = 0 from rfl, Int.add_zero] at this
  rw [this]
  rfl
/-- A row without the blanks at its end. -/
def trim : Nat → List Int → List Int
  | 0, xs => xs
  | n + 1, xs => if xs.getLast? = some 32 then trim n xs.dropLast else xs
theorem p_trim_l (L : Nat → List Int → Option (List Int)) (hL : ∀ kf (x : List Int), L (kf + 1) x = (if (decide ((x.length : Int) > 0)) = true then ((rd? x (IntKind.i64.wrap ((x.length : Int) - 1))).bind fun u123 => some (u123 == 32)) else (some false)).bind fun (o : Bool) => match o with | x121 => (if x121 = true then ((cut? x 0 (IntKind.i64.wrap ((x.length : Int) - 1))).bind fun x126 => L kf x126) else (some x))) :
    ∀ (k : Nat) (x : List Int), x.length < k → x.length ≤ big → L k x = some (trim x.length x) := by
  intro k
  induction k with
  | zero => intro x h; omega
  | succ k ih =>
    intro x hk hx
    rw [hL]
    cases hn : x.length with
    | zero =>
      obtain rfl : x = [] := List.eq_nil_of_length_eq_zero hn
      rfl
    | succ n =>
      unfold big at hx
      rw [if_pos (by simp), wrapS (by omega) (by omega), show (((n + 1 : Nat) : Int) - 1) = ((n : Nat) : Int) by omega, rd?_at (by omega : n < x.length)]
      simp only [Option.bind_some]
      have hg : x.getLast? = some (x[n]'(by omega)) := by
        rw [List.getLast?_eq_getElem?, show x.length - 1 = n by omega, List.getElem?_eq_getElem (by omega)]
      unfold trim
      by_cases h32 : x[n]'(by omega) = 32
      · rw [if_pos (by simpa using h32), if_pos (by rw [hg, h32])]
        have := cut?_at (xs := x) (a := 0) (b := n) (by omega) (by omega)
        rw [show ((0 : Nat) : Int) = 0 from rfl] at this
        rw [this]
        simp only [Option.bind_some, List.drop_zero]
        have hd : x.take n = x.dropLast := by rw [List.dropLast_eq_take, hn]; rfl
        have hlen : x.dropLast.length = n := by simp [hn]
        rw [hd, ih _ (by omega) (by unfold big; omega), hlen]
      · rw [if_neg (by simpa using h32), if_neg (by rw [hg]; simpa using h32)]
theorem trim_len : ∀ (n : Nat) (x : List Int), (trim n x).length ≤ x.length
  | 0, x => Nat.le_refl _
  | n + 1, x => by
    unfold trim
    split
    · have := trim_len n x.dropLast
      simp at this
      omega
    · exact Nat.le_refl _
theorem p_RowOf (w h : Int) (cs : List Int) (x y p : Int) (hc : cs.length ≤ big) (hp : inK .i64 p) : ∃ r : List Int × Bool, impl_RowOf.f w h cs x y p = some r ∧ spec_RowOf.f w h cs x y p = some r ∧ r.1.length ≤ 1000 := by
  unfold impl_RowOf.f spec_RowOf.f impl_isPlace.f
  simp only [p_implScreen w h cs x y hc, p_specScreen w h cs x y hc, p_inRange, p_l1In, Option.bind_some]
  cases hs : okScreen w h cs x y with
  | false => exact ⟨_, rfl, rfl, by simp⟩
  | true =>
    simp only [Bool.not_true, Bool.false_eq_true, if_false]
    cases hy : (decide (0 ≤ p) && decide (p ≤ IntKind.i64.wrap (h - 1))) with
    | false => exact ⟨_, rfl, rfl, by simp⟩
    | true =>
      simp only [Bool.not_true, Bool.false_eq_true, if_false, Option.bind_some]
      simp only [okScreen, Bool.and_eq_true, decide_eq_true_eq] at hs hy
      rw [wrapS (by omega) (by omega)] at hy
      obtain ⟨n, rfl⟩ := Int.eq_ofNat_of_zero_le hy.1
      obtain ⟨row, hr, e⟩ := p_row w h cs x y n hs.1.1.1.1.1.1 hs.1.1.1.1.1.2 hs.1.1.1.1.2.2 (by omega) hs.1.2
      have hrl : row.length ≤ 20 := by omega
      unfold impl_Screen_rowOf.f spec_l16Row.f impl_Screen_row.f slices_Clone_int_int.f spec_l1Own.f
      rw [e]
      simp only [Option.bind_some]
      rw [app?_at (by simp; omega)]
      simp only [Option.bind_some, List.nil_append]
      have t1 := p_trim_l impl_Screen_rowOf.l1 (fun _ _ => rfl) ((((row.length : Int)) - (0)).toNat + 2) row (by omega) (by unfold big; omega)
      have t2 := p_trim_l spec_l16Row.l1 (fun _ _ => rfl) ((((row.length : Int)) - (0)).toNat + 2) row (by omega) (by unfold big; omega)
      rw [t1, t2]
      simp only [Option.bind_some]
      have hl := trim_len row.length row
      rw [app?_at (by simp; omega)]
      simp only [Option.bind_some, List.nil_append]
      exact ⟨_, rfl, rfl, by show (trim row.length row).length ≤ 1000; omega⟩
theorem law_RowOf (w h : Int) (cs : List Int) (x y p : Int) (_ : inK .i64 w) (_ : inK .i64 h) (hc : allW (inK .i64) cs) (_ : inK .i64 x) (_ : inK .i64 y) (hp : inK .i64 p) : laws_FnExactRowOf.f w h cs x y p = some true := by
  unfold laws_FnExactRowOf.f
  obtain ⟨u, e, hu⟩ := p_szScreen w h cs x y 1048576 (by decide) (by decide) hc.1
  rw [e]
  simp only [Option.bind_some]
  by_cases h0 : u < 0
  · rw [if_pos (by simpa using h0)]
  rw [if_neg (by simpa using h0)]
  have hcb : cs.length ≤ big := by unfold big; omega
  obtain ⟨r, e1, e2, e3⟩ := p_RowOf w h cs x y p hcb hp
  have hrb : r.1.length ≤ big := by unfold big; omega
  have m1 := p_markIntS cs 1 (by omega) (by omega) hcb
  have m2 := p_markIntS r.1 1 (by omega) (by omega) hrb
  have m3 := p_heldIntS r.1.length 1 (by omega) (by omega) hrb
  have n1 : ¬ (1 + (cs.length : Int) < 0) := by omega
  have n2 : ¬ (1 + (r.1.length : Int) < 0) := by omega
  simp [p_toScreen w h cs x y hcb, e1, e2, p_eqScreen w h cs x y hcb, p_eqIntS r.1 r.1 hrb, laws_markScreen.f, m1, m2, m3, n1, n2]
end Go.Proofs.Ytihocjbngajjkaa
