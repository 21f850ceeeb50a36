/- Plain laws of the printed functions. Conditions as each lemma says. -/
import Derived.Test.YtopecknfnhocpaaPB
import Derived.Test.YtopecknfnhocpaaWPutRune2
set_option linter.unusedVariables false
set_option linter.unusedSimpArgs false
namespace Go.Proofs.Ytopecknfnhocpaa
open Go Go.Proofs.GL
theorem p_l1In (a b c : Int) : spec_l1In.f a b c = some (decide (b ≤ a) && decide (a ≤ c)) := by
  unfold spec_l1In.f
  by_cases h : b ≤ a
  · rw [if_pos (by simpa using h)]; simp [h]
  · rw [if_neg (by simpa using h)]; simp [h]
theorem p_inRange (a b c : Int) : impl_inRange.f a b c = some (decide (b ≤ a) && decide (a ≤ c)) := by
  unfold impl_inRange.f
  by_cases h : b ≤ a
  · rw [if_pos (by simpa using h)]; simp [h]
  · rw [if_neg (by simpa using h)]; simp [h]
def okRune (r : Int) : Bool := decide (0 ≤ r) && decide (r ≤ 1114111) && !(decide (55296 ≤ r) && decide (r ≤ 57343))
theorem p_specRune (r : Int) : spec_GoodRune.f r = some (okRune r) := by
  unfold spec_GoodRune.f okRune
  simp only [p_l1In, Option.bind_some]
  cases (decide (0 ≤ r) && decide (r ≤ 1114111)) <;> rfl
theorem p_implRune (r : Int) : impl_GoodRune.f r = some (okRune r) := by
  unfold impl_GoodRune.f okRune
  simp only [p_inRange, Option.bind_some]
  cases (decide (0 ≤ r) && decide (r ≤ 1114111)) <;> rfl
theorem p_allRunes (p : List Int) (hp : p.length ≤ big) : spec_l1AllRunes.f p = some (p.all okRune && decide (p.length ≤ 1000)) := by
  unfold spec_l1AllRunes.f
  have := all_loop p hp (fun u => !okRune u) false (spec_l1AllRunes.l1 p) (fun k i => by rw [spec_l1AllRunes.l1]; simp only [p_specRune, Option.bind_some]) (((p.length : Int) - 0).toNat + 2) 0 (by omega) (by omega)
  rw [show ((0 : Nat) : Int) = 0 from rfl] at this
  rw [this, List.drop_zero]
  have e : p.any (fun u => !okRune u) = !p.all okRune := by rw [List.all_eq_not_any_not]; simp
  rw [e]
  cases h : p.all okRune <;> simp
  omega
theorem mul_le160 {w h : Int} (h1 : 1 ≤ w) (h2 : w ≤ 20) (h3 : 1 ≤ h) (h4 : h ≤ 8) : 1 ≤ w * h ∧ w * h ≤ 160 := by
  have a := Int.mul_le_mul h2 h4 (by omega) (by omega)
  have b := Int.mul_le_mul h1 h3 (by omega) (by omega)
  omega
theorem p_l1All (p : List Int) (a b : Int) (hp : p.length ≤ big) : spec_l1All.f p a b = some (p.all fun u => decide (a ≤ u) && decide (u ≤ b)) := by
  unfold spec_l1All.f
  have := all_loop p hp (fun u => !(decide (a ≤ u) && decide (u ≤ b))) false (spec_l1All.l1 p a b) (fun k i => by rw [spec_l1All.l1]; simp only [p_l1In, Option.bind_some]) (((p.length : Int) - 0).toNat + 2) 0 (by omega) (by omega)
  rw [show ((0 : Nat) : Int) = 0 from rfl] at this
  rw [this, List.drop_zero]
  have e : p.any (fun u => !(decide (a ≤ u) && decide (u ≤ b))) = !p.all fun u => decide (a ≤ u) && decide (u ≤ b) := by rw [List.all_eq_not_any_not]; simp
  rw [e]
  cases h : p.all fun u => decide (a ≤ u) && decide (u ≤ b) <;> simp
def okCell (r : Int) : Bool := okRune r && decide (32 ≤ r)
theorem p_goodCells (p : List Int) (hp : p.length ≤ big) : slices_ContainsFunc_int_int_impl_GoodScreen_1.f p = some (!p.all okCell) := by
  unfold slices_ContainsFunc_int_int_impl_GoodScreen_1.f slices_IndexFunc_int_int_impl_GoodScreen_1.f
  have e1 : ∀ u, impl_GoodScreen_1.f u = some (!okCell u) := fun u => by
    unfold impl_GoodScreen_1.f okCell
    simp only [p_implRune, Option.bind_some]
    by_cases h : u < 32
    · rw [if_pos (by simpa using h)]; simp; exact .inr h
    · rw [if_neg (by simpa using h)]
      have : decide (32 ≤ u) = true := by simp; omega
      simp [this]
  have := scan_loop p hp (fun u => !okCell u) (fun i _ => i) (slices_IndexFunc_int_int_impl_GoodScreen_1.l1 p) (fun k i => by rw [slices_IndexFunc_int_int_impl_GoodScreen_1.l1]; simp only [e1, Option.bind_some]) (((p.length : Int) - 0).toNat + 2) 0 (by omega) (by omega)
  rw [show ((0 : Nat) : Int) = 0 from rfl] at this
  rw [this, List.drop_zero]
  have e : p.all okCell = !(p.any fun u => !okCell u) := List.all_eq_not_any_not
  rw [e, Bool.not_not]
  cases hf : p.findIdx? (fun u => !okCell u) with
  | none =>
    have : p.any (fun u => !okCell u) = false := by
      rw [List.findIdx?_eq_none_iff] at hf
      simpa using hf
    rw [this]; simp
  | some j =>
    obtain ⟨hj, h1, h2⟩ := List.findIdx?_eq_some_iff_getElem.1 hf
    have : p.any (fun u => !okCell u) = true := List.any_eq_true.2 ⟨_, List.getElem_mem hj, h1⟩
    rw [this]
    simp [hj]
/-- A good screen. -/
def okScreen (w h : Int) (cs : List Int) (x y : Int) : Bool := decide (1 ≤ w) && decide (w ≤ 20) && (decide (1 ≤ h) && decide (h ≤ 8)) && (decide (0 ≤ x) && decide (x ≤ w)) && (decide (0 ≤ y) && decide (y < h)) && decide ((cs.length : Int) = w * h) && cs.all okCell
theorem p_specScreen (w h : Int) (cs : List Int) (x y : Int) (hp : cs.length ≤ big) : spec_GoodScreen.f w h cs x y = some (okScreen w h cs x y) := by
  unfold spec_GoodScreen.f okScreen
  simp only [p_l1In, Option.bind_some, p_allRunes cs hp, p_l1All cs _ _ hp]
  by_cases h1 : 1 ≤ w ∧ w ≤ 20
  · by_cases h2 : 1 ≤ h ∧ h ≤ 8
    · obtain ⟨m1, m2⟩ := mul_le160 h1.1 h1.2 h2.1 h2.2
      rw [wrapS (n := h - 1) (by omega) (by omega), wrapS (n := w * h) (by omega) (by omega)]
      by_cases h3 : 0 ≤ x ∧ x ≤ w
      · by_cases h4 : 0 ≤ y ∧ y < h
        · by_cases h5 : (cs.length : Int) = w * h
          · have h6 : cs.length ≤ 1000 := by omega
            have h7 : y ≤ h - 1 := by omega
            have e : (cs.all okRune && cs.all fun u => decide (32 ≤ u) && decide (u ≤ 1114111)) = cs.all okCell := by
              rw [Bool.eq_iff_iff]
              simp only [Bool.and_eq_true, List.all_eq_true, okCell, okRune, decide_eq_true_eq, Bool.not_eq_true', Bool.and_eq_false_iff, decide_eq_false_iff_not]
              constructor
              · rintro ⟨a, b⟩ u hu
                exact ⟨a u hu, (b u hu).1⟩
              · intro a
                exact ⟨fun u hu => (a u hu).1, fun u hu => ⟨(a u hu).2, (a u hu).1.1.2⟩⟩
            rw [← e]
            generalize cs.all okRune = a1
            generalize (cs.all fun u => decide (32 ≤ u) && decide (u ≤ 1114111)) = a2
            simp [h1, h2, h3, h4, h5, h6, h7]
            cases a1 <;> simp
          · have h7 : ¬ (h - 1 < y) := by omega
            simp [h1, h2, h3, h4, h5, h7]
        · have h7 : ¬ (0 ≤ y ∧ y ≤ h - 1) := by omega
          have e1 : (decide (0 ≤ y) && decide (y ≤ h - 1)) = false := by simpa using h7
          have e2 : (decide (0 ≤ y) && decide (y < h)) = false := by simpa using h4
          simp [h1, h2, h3, e1, e2]
      · have e1 : (decide (0 ≤ x) && decide (x ≤ w)) = false := by simpa using h3
        simp [h1, h2, e1]
    · have e1 : (decide (1 ≤ h) && decide (h ≤ 8)) = false := by simpa using h2
      simp [h1, e1]
  · have e1 : (decide (1 ≤ w) && decide (w ≤ 20)) = false := by simpa using h1
    simp [e1]
theorem p_implScreen (w h : Int) (cs : List Int) (x y : Int) (hp : cs.length ≤ big) : impl_GoodScreen.f w h cs x y = some (okScreen w h cs x y) := by
  unfold impl_GoodScreen.f okScreen impl_isPlace.f
  simp only [p_inRange, Option.bind_some, p_goodCells cs hp]
  by_cases h1 : 1 ≤ w ∧ w ≤ 20
  · by_cases h2 : 1 ≤ h ∧ h ≤ 8
    · obtain ⟨m1, m2⟩ := mul_le160 h1.1 h1.2 h2.1 h2.2
      rw [wrapS (n := h - 1) (by omega) (by omega), wrapS (n := w * h) (by omega) (by omega)]
      by_cases h3 : 0 ≤ x ∧ x ≤ w
      · by_cases h4 : 0 ≤ y ∧ y < h
        · have h7 : y ≤ h - 1 := by omega
          by_cases h5 : (cs.length : Int) = w * h
          · simp [h1, h2, h3, h4, h5, h7]
          · simp [h1, h2, h3, h4, h5]
        · have h7 : ¬ (0 ≤ y ∧ y ≤ h - 1) := by omega
          have e1 : (decide (0 ≤ y) && decide (y ≤ h - 1)) = false := by simpa using h7
          have e2 : (decide (0 ≤ y) && decide (y < h)) = false := by simpa using h4
          simp [h1, h2, h3, e1, e2]
      · have e1 : (decide (0 ≤ x) && decide (x ≤ w)) = false := by simpa using h3
        simp [h1, h2, e1]
    · have e1 : (decide (1 ≤ h) && decide (h ≤ 8)) = false := by simpa using h2
      simp [h1, e1]
  · have e1 : (decide (1 ≤ w) && decide (w ≤ 20)) = false := by simpa using h1
    simp [e1]
theorem p_repeat : ∀ n : Nat, n < 161 → slices_Repeat_int_int.f [32] (n : Int) = some (List.replicate n 32) := by decide +kernel
theorem p_own (x : List Int) (hx : x.length ≤ big) : spec_l1Own.f x = some x := by
  unfold spec_l1Own.f
  unfold big at hx
  rw [app?_at (by simpa using hx)]
  rfl
theorem p_clone (x : List Int) (hx : x.length ≤ big) : slices_Clone_int_int.f x = some x := by
  unfold slices_Clone_int_int.f
  unfold big at hx
  rw [app?_at (by simpa using hx)]
  rfl
theorem cut0 {x : List Int} {n : Nat} (h : n ≤ x.length) : cut? x 0 (n : Int) = some (x.take n) := by
  have := cut?_at (xs := x) (a := 0) (b := n) (by omega) h
  rw [show ((0 : Nat) : Int) = 0 from rfl] at this
  simpa using this
theorem cutE {x : List Int} {n : Nat} (h : n ≤ x.length) : cut? x (n : Int) (x.length : Int) = some (x.drop n) := by
  have := cut?_at (xs := x) (a := n) (b := x.length) h (by omega)
  simpa using this
theorem p_grow (n : Nat) (hn : n ≤ big) : slices_Grow_int_int_nil.f (n : Int) = some [] := by
  unfold slices_Grow_int_int_nil.f
  unfold big at hn
  have e0 : IntKind.i64.wrap (0 - 0) = 0 := by decide
  have e1 : IntKind.i64.wrap ((n : Int) - 0) = n := by rw [Int.sub_zero]; exact wrapS (by omega) (by omega)
  rw [if_neg (by simp), e0, e1]
  by_cases h : 0 < n
  · rw [if_pos (by simpa using h), mk?_at (by omega)]
    have c1 : cut? ([] : List Int) 0 0 = some [] := cut0 (x := []) (n := 0) (by simp)
    have c2 : cut? (List.replicate n (0 : Int)) 0 0 = some [] := by simpa using cut0 (x := List.replicate n (0 : Int)) (n := 0) (by simp)
    rw [c1]
    simp only [Option.bind_some]
    rw [c2]
    rfl
  · rw [if_neg (by simpa using h)]
    rfl
theorem p_concat (a b : List Int) (h : a.length + b.length ≤ big) : slices_Concat_int_int.f [a, b] = some (a ++ b) := by
  have hh : a.length + b.length ≤ big := h
  unfold big at h
  have l1 : slices_Concat_int_int.l1 [a, b] 4 0 0 = some (((a.length + b.length : Nat)) : Int) := by
    rw [slices_Concat_int_int.l1]
    have w1 : IntKind.i64.wrap (0 + (a.length : Int)) = a.length := by rw [Int.zero_add]; exact wrapS (by omega) (by omega)
    have w2 : IntKind.i64.wrap ((a.length : Int) + (b.length : Int)) = ((a.length + b.length : Nat) : Int) := by rw [wrapS (by omega) (by omega)]; omega
    have i1 : IntKind.i64.wrap (0 + 1) = 1 := by decide
    have i2 : IntKind.i64.wrap (1 + 1) = 2 := by decide
    have r0 : rd? [a, b] 0 = some a := rd?_at (xs := [a, b]) (i := 0) (by simp)
    have r1 : rd? [a, b] 1 = some b := rd?_at (xs := [a, b]) (i := 1) (by simp)
    rw [if_pos (by simp), r0]
    simp only [Option.bind_some]
    rw [w1, if_neg (by simp), i1, slices_Concat_int_int.l1, if_pos (by simp), r1]
    simp only [Option.bind_some]
    rw [w2, if_neg (by simp; omega), i2, slices_Concat_int_int.l1, if_neg (by simp)]
  have l2 : slices_Concat_int_int.l2 [a, b] 4 [] 0 = some (a ++ b) := by
    have i1 : IntKind.i64.wrap (0 + 1) = 1 := by decide
    have i2 : IntKind.i64.wrap (1 + 1) = 2 := by decide
    have r0 : rd? [a, b] 0 = some a := rd?_at (xs := [a, b]) (i := 0) (by simp)
    have r1 : rd? [a, b] 1 = some b := rd?_at (xs := [a, b]) (i := 1) (by simp)
    rw [slices_Concat_int_int.l2, if_pos (by simp), r0]
    simp only [Option.bind_some]
    rw [app?_at (by simp; omega)]
    simp only [Option.bind_some, List.nil_append]
    rw [i1, slices_Concat_int_int.l2, if_pos (by simp), r1]
    simp only [Option.bind_some]
    rw [app?_at (by omega)]
    simp only [Option.bind_some]
    rw [i2, slices_Concat_int_int.l2, if_neg (by simp)]
  unfold slices_Concat_int_int.f
  show (slices_Concat_int_int.l1 [a, b] 4 0 0).bind _ = _
  rw [l1]
  simp only [Option.bind_some]
  rw [p_grow _ hh]
  simp only [Option.bind_some]
  show (slices_Concat_int_int.l2 [a, b] 4 [] 0).bind _ = _
  rw [l2]
  rfl
theorem p_l16New_l2 (w h : Int) (n : Nat) (hn : w * h = n) (hb : n ≤ 1000) : ∀ (k i : Nat), i ≤ n → n - i < k → spec_l16New.l1 w h k i (List.replicate i 32) = some (List.replicate n 32) := by
  intro k
  induction k with
  | zero => intro i _ h; omega
  | succ k ih =>
    intro i hi hk
    rw [spec_l16New.l1, hn, wrapS (by omega) (by omega)]
    by_cases h1 : i < n
    · rw [if_pos (by simpa using h1), app?_at (by simp; omega)]
      simp only [Option.bind_some]
      rw [wrapN i (by omega), show List.replicate i (32 : Int) ++ [32] = List.replicate (i + 1) 32 by rw [List.replicate_succ']]
      exact ih (i + 1) h1 (by omega)
    · rw [if_neg (by simpa using h1)]
      obtain rfl : i = n := by omega
      rfl
theorem p_newScr (w h : Int) (n : Nat) (hn : w * h = n) (hb : n ≤ 160) : impl_newScreen.f w h = some (w, h, List.replicate n 32, 0, 0) ∧ spec_l16New.f w h = some (w, h, List.replicate n 32, 0, 0) := by
  have e1 := p_repeat n (by omega)
  have e2 := p_l16New_l2 w h n hn (by omega) (((n : Int) - 0).toNat + 2) 0 (by omega) (by omega)
  rw [show ((0 : Nat) : Int) = 0 from rfl, show List.replicate 0 (32 : Int) = [] from rfl] at e2
  constructor
  · unfold impl_newScreen.f
    rw [hn, wrapS (by omega) (by omega), e1]
    rfl
  · unfold spec_l16New.f
    rw [hn, wrapS (by omega) (by omega), e2]
    rfl
structure Inv (w h : Int) (cs : List Int) (x y : Int) : Prop where
  w0 : 1 ≤ w
  w1 : w ≤ 20
  h0 : 1 ≤ h
  h1 : h ≤ 8
  x0 : 0 ≤ x
  x1 : x ≤ w
  y0 : 0 ≤ y
  y1 : y < h
  c : (cs.length : Int) = w * h
theorem Inv.len {w h : Int} {cs : List Int} {x y : Int} (I : Inv w h cs x y) : cs.length ≤ 160 := by
  obtain ⟨m1, m2⟩ := mul_le160 I.w0 I.w1 I.h0 I.h1
  have := I.c
  omega
theorem p_down_l (n : Nat) (hb : n ≤ 1000) (base : List Int) (hB : base.length ≤ 1000) : ∀ (k i : Nat), i ≤ n → n - i < k → spec_l16Down.l1 (n : Int) k i (base ++ List.replicate i 32) = some (base ++ List.replicate n 32) := by
  intro k
  induction k with
  | zero => intro i _ h; omega
  | succ k ih =>
    intro i hi hk
    rw [spec_l16Down.l1]
    by_cases h1 : i < n
    · rw [if_pos (by simpa using h1), app?_at (by simp; omega)]
      simp only [Option.bind_some]
      rw [wrapN i (by omega), List.append_assoc, show List.replicate i (32 : Int) ++ [32] = List.replicate (i + 1) 32 by rw [List.replicate_succ']]
      exact ih (i + 1) h1 (by omega)
    · rw [if_neg (by simpa using h1)]
      obtain rfl : i = n := by omega
      rfl
theorem p_down {w h : Int} {cs : List Int} {x y : Int} (I : Inv w h cs x y) : ∃ cs' y', impl_Screen_down.f w h cs x y = some (cs', 0, y') ∧ spec_l16Down.f w h cs x y = some (w, h, cs', 0, y') ∧ Inv w h cs' 0 y' := by
  have hl := I.len
  obtain ⟨n, hn⟩ := Int.eq_ofNat_of_zero_le (show 0 ≤ w by have := I.w0; omega)
  have i1 := I.w0; have i2 := I.w1; have i3 := I.h0; have i4 := I.h1; have i5 := I.y0; have i6 := I.y1
  unfold impl_Screen_down.f spec_l16Down.f
  rw [wrapS (n := h - 1) (by omega) (by omega)]
  by_cases hy : y < h - 1
  · refine ⟨cs, y + 1, ?_, ?_, ⟨i1, i2, i3, i4, by omega, by omega, by omega, by omega, I.c⟩⟩
    · rw [if_pos (by simpa using hy), wrapS (by omega) (by omega)]
    · rw [if_pos (by simpa using hy), wrapS (by omega) (by omega)]
  · have hnc : n ≤ cs.length := by
      have h1 := I.c
      have : w * 1 ≤ w * h := Int.mul_le_mul_of_nonneg_left i3 (by omega)
      omega
    have e2 := p_down_l n (by omega) (cs.drop n) (by simp; omega) (((n : Int) - 0).toNat + 2) 0 (by omega) (by omega)
    rw [show ((0 : Nat) : Int) = 0 from rfl, show List.replicate 0 (32 : Int) = [] from rfl, List.append_nil] at e2
    refine ⟨cs.drop n ++ List.replicate n 32, y, ?_, ?_, ⟨i1, i2, i3, i4, by omega, by omega, by omega, by omega, ?_⟩⟩
    · rw [if_neg (by simpa using hy), hn, cutE hnc]
      simp only [Option.bind_some]
      rw [p_repeat n (by omega)]
      simp only [Option.bind_some]
      rw [p_concat _ _ (by unfold big; simp; omega)]
      rfl
    · rw [if_neg (by simpa using hy), hn, cutE hnc]
      simp only [Option.bind_some]
      rw [p_own _ (by unfold big; simp; omega)]
      simp only [Option.bind_some]
      rw [e2]
      rfl
    · have := I.c
      rw [List.length_append, List.length_drop, List.length_replicate]
      omega
theorem p_quo4 (x : Int) (h0 : 0 ≤ x) (h1 : x ≤ 20) : quo? .i64 x 4 = some (x / 4) := by
  obtain ⟨n, rfl⟩ := Int.eq_ofNat_of_zero_le h0
  have : ∀ n : Nat, n < 21 → quo? .i64 (n : Int) 4 = some ((n : Int) / 4) := by decide +kernel
  exact this n (by omega)
theorem p_write {w h : Int} {cs : List Int} {x y : Int} (I : Inv w h cs x y) (hx : x < w) (r : Int) : ∃ u cs', rd? cs (IntKind.i64.wrap (IntKind.i64.wrap (y * w) + x)) = some u ∧ st? cs (IntKind.i64.wrap (IntKind.i64.wrap (y * w) + x)) r = some cs' ∧ IntKind.i64.wrap (x + 1) = x + 1 ∧ Inv w h cs' (x + 1) y := by
  have hl := I.len
  have i1 := I.w0; have i2 := I.w1; have i3 := I.h0; have i4 := I.h1; have i5 := I.y0; have i6 := I.y1; have i7 := I.x0; have i8 := I.c
  have g1 : y * w ≤ (h - 1) * w := Int.mul_le_mul_of_nonneg_right (by omega) (by omega)
  have g2 : (h - 1) * w = w * h - w := by rw [Int.sub_mul, Int.one_mul, Int.mul_comm]
  have g3 : 0 ≤ y * w := Int.mul_nonneg i5 (by omega)
  rw [wrapS (n := y * w) (by omega) (by omega), wrapS (n := y * w + x) (by omega) (by omega), wrapS (n := x + 1) (by omega) (by omega)]
  obtain ⟨j, hj⟩ := Int.eq_ofNat_of_zero_le (show 0 ≤ y * w + x by omega)
  have hjl : j < cs.length := by omega
  rw [hj]
  refine ⟨_, _, rd?_at hjl, st?_at r hjl, rfl, ⟨i1, i2, i3, i4, by omega, by omega, i5, i6, by simpa using i8⟩⟩
theorem p_leastB (a b : Int) : spec_l1Least.f a b = some (min b a) := by
  unfold spec_l1Least.f
  by_cases h : a < b
  · rw [if_pos (by simpa using h), Int.min_eq_right (by omega)]
  · rw [if_neg (by simpa using h), Int.min_eq_left (by omega)]
theorem p_mostB (a b : Int) : spec_l1Most.f a b = some (max b a) := by
  unfold spec_l1Most.f
  by_cases h : a > b
  · rw [if_pos (by simpa using h), Int.max_eq_right (by omega)]
  · rw [if_neg (by simpa using h), Int.max_eq_left (by omega)]
theorem p_put {w h : Int} {cs : List Int} {x y : Int} (I : Inv w h cs x y) (r : Int) : ∃ cs' x' y', impl_Screen_put.f w h cs x y r = some (w, h, cs', x', y') ∧ spec_l16Put.f w h cs x y r = some (w, h, cs', x', y') ∧ Inv w h cs' x' y' := by
  have hl := I.len
  have i1 := I.w0; have i2 := I.w1; have i3 := I.h0; have i4 := I.h1; have i5 := I.y0; have i6 := I.y1; have i7 := I.x0; have i8 := I.c; have i9 := I.x1
  unfold impl_Screen_put.f spec_l16Put.f
  by_cases r8 : r = 8
  · subst r8
    refine ⟨cs, max (x - 1) 0, y, ?_, ?_, ⟨i1, i2, i3, i4, by omega, by omega, i5, i6, i8⟩⟩
    · rw [if_pos (by decide), wrapS (by omega) (by omega)]
    · rw [if_pos (by decide), wrapS (by omega) (by omega), p_mostB]
      rfl
  have n8 : ¬ ((r == 8) = true) := by simpa using r8
  rw [if_neg n8, if_neg n8]
  by_cases r9 : r = 9
  · subst r9
    refine ⟨cs, min ((x / 4 + 1) * 4) w, y, ?_, ?_, ⟨i1, i2, i3, i4, by omega, by omega, i5, i6, i8⟩⟩
    · rw [if_pos (by decide), p_quo4 x i7 (by omega)]
      simp only [Option.bind_some]
      rw [wrapS (n := x / 4 + 1) (by omega) (by omega), wrapS (by omega) (by omega)]
    · rw [if_pos (by decide), p_quo4 x i7 (by omega)]
      simp only [Option.bind_some]
      rw [wrapS (n := x / 4 * 4) (by omega) (by omega), wrapS (n := x / 4 * 4 + 4) (by omega) (by omega), p_leastB, show x / 4 * 4 + 4 = (x / 4 + 1) * 4 by omega]
      rfl
  have n9 : ¬ ((r == 9) = true) := by simpa using r9
  rw [if_neg n9, if_neg n9]
  by_cases r10 : r = 10
  · subst r10
    obtain ⟨cs', y', d1, d2, d3⟩ := p_down I
    refine ⟨cs', 0, y', ?_, ?_, d3⟩
    · rw [if_pos (by decide), d1]
      rfl
    · rw [if_pos (by decide), d2]
      rfl
  have n10 : ¬ ((r == 10) = true) := by simpa using r10
  rw [if_neg n10, if_neg n10]
  by_cases r12 : r = 12
  · subst r12
    obtain ⟨d1, d2⟩ := p_newScr w h cs.length i8.symm hl
    refine ⟨List.replicate cs.length 32, 0, 0, ?_, ?_, ⟨i1, i2, i3, i4, by omega, by omega, by omega, by omega, by simpa using i8⟩⟩
    · rw [if_pos (by decide), d1]
      rfl
    · rw [if_pos (by decide), d2]
      rfl
  have n12 : ¬ ((r == 12) = true) := by simpa using r12
  rw [if_neg n12, if_neg n12]
  by_cases r13 : r = 13
  · subst r13
    refine ⟨cs, 0, y, ?_, ?_, ⟨i1, i2, i3, i4, by omega, by omega, i5, i6, i8⟩⟩
    · rw [if_pos (by decide)]
    · rw [if_pos (by decide)]
      rfl
  have n13 : ¬ ((r == 13) = true) := by simpa using r13
  rw [if_neg n13, if_neg n13]
  by_cases r32 : r ≥ 32
  · have p32 : decide (r ≥ 32) = true := by simpa using r32
    rw [if_pos p32, if_pos p32]
    by_cases hx : x = w
    · obtain ⟨cs', y', d1, d2, d3⟩ := p_down I
      obtain ⟨u, cs2, w1, w2, w3, w4⟩ := p_write d3 (by omega) r
      have hl2 := d3.len
      refine ⟨cs2, 0 + 1, y', ?_, ?_, w4⟩
      · rw [if_pos (by simpa using hx), d1]
        simp only [Option.bind_some]
        rw [w1]
        simp only [Option.bind_some]
        rw [w2, w3]
        rfl
      · rw [if_pos (by simpa using hx), d2]
        simp only [Option.bind_some]
        rw [p_own cs' (by unfold big; omega)]
        simp only [Option.bind_some]
        rw [w1]
        simp only [Option.bind_some]
        rw [w2, w3]
        rfl
    · obtain ⟨u, cs2, w1, w2, w3, w4⟩ := p_write I (by omega) r
      refine ⟨cs2, x + 1, y, ?_, ?_, w4⟩
      · rw [if_neg (by simpa using hx)]
        simp only [Option.bind_some]
        rw [w1]
        simp only [Option.bind_some]
        rw [w2, w3]
        rfl
      · rw [if_neg (by simpa using hx)]
        simp only [Option.bind_some]
        rw [p_own cs (by unfold big; omega)]
        simp only [Option.bind_some]
        rw [w1]
        simp only [Option.bind_some]
        rw [w2, w3]
        rfl
  · have p32 : ¬ (decide (r ≥ 32) = true) := by simpa using r32
    rw [if_neg p32, if_neg p32]
    exact ⟨cs, x, y, rfl, rfl, I⟩
theorem okScreen_inv {w h : Int} {cs : List Int} {x y : Int} (hs : okScreen w h cs x y = true) : Inv w h cs x y := by
  simp only [okScreen, Bool.and_eq_true, decide_eq_true_eq] at hs
  exact ⟨by omega, by omega, by omega, by omega, by omega, by omega, by omega, by omega, by omega⟩
theorem p_areRunes (p : List Int) (n : Int) (hp : p.length ≤ big) : impl_areRunes.f p n = some (decide ((p.length : Int) ≤ n) && p.all okRune) := by
  unfold impl_areRunes.f slices_ContainsFunc_int_int_impl_areRunes_1.f slices_IndexFunc_int_int_impl_areRunes_1.f
  by_cases h : (p.length : Int) ≤ n
  · rw [if_pos (by simpa using h)]
    have := scan_loop p hp (fun u => !okRune u) (fun i _ => i) (slices_IndexFunc_int_int_impl_areRunes_1.l1 p) (fun k i => by rw [slices_IndexFunc_int_int_impl_areRunes_1.l1]; simp only [impl_areRunes_1.f, p_implRune, Option.bind_some]) (((p.length : Int) - 0).toNat + 2) 0 (by omega) (by omega)
    rw [show ((0 : Nat) : Int) = 0 from rfl] at this
    rw [this, List.drop_zero]
    have e : p.all okRune = !(p.any fun u => !okRune u) := List.all_eq_not_any_not
    rw [e]
    cases hf : p.findIdx? (fun u => !okRune u) with
    | none =>
      have : p.any (fun u => !okRune u) = false := by
        rw [List.findIdx?_eq_none_iff] at hf
        simpa using hf
      rw [this]; simp [h]
    | some j =>
      obtain ⟨hj, h1, h2⟩ := List.findIdx?_eq_some_iff_getElem.1 hf
      have : p.any (fun u => !okRune u) = true := List.any_eq_true.2 ⟨_, List.getElem_mem hj, h1⟩
      rw [this]
      simp [hj]
  · rw [if_neg (by simpa using h)]
    simp [h]
theorem p_eqIntS (p q : List Int) (hp : p.length ≤ big) : laws_eqIntS.f p q = some (decide (p = q)) :=
  eq_all p q hp (laws_eqIntS.l1 p q) _ (by omega) fun _ _ _ => rfl
theorem p_toIntS_l (p : List Int) (hp : p.length ≤ big) : ∀ (k i : Nat) (x : List Int), i ≤ p.length → p.length - i < k → x.length = p.length → x.take i = p.take i → laws_toIntS.l1 p k x i = some p := by
  intro k
  induction k with
  | zero => intro i x _ h; omega
  | succ k ih =>
    intro i x hi hk hl ht
    rw [laws_toIntS.l1]
    by_cases h : i < p.length
    · rw [if_pos (by simpa using h), rd?_at h]
      simp only [Option.bind_some]
      rw [rd?_at (by omega : i < x.length)]
      simp only [Option.bind_some]
      rw [st?_at p[i] (by omega : i < x.length)]
      simp only [Option.bind_some]
      rw [wrapN i (by unfold big at hp; omega)]
      refine ih (i + 1) _ h (by omega) (by simpa using hl) ?_
      rw [List.take_add_one, List.take_add_one, List.take_set_of_le (Nat.le_refl i), ht]
      simp [h, hl]
    · rw [if_neg (by simpa using h)]
      obtain rfl : i = p.length := by omega
      rw [List.take_length, ← hl, List.take_length] at ht
      rw [ht]
theorem p_toIntS (p : List Int) (hp : p.length ≤ big) : laws_toIntS.f p = some p := by
  unfold laws_toIntS.f
  rw [mk?_at (by unfold big at hp; omega)]
  simp only [Option.bind_some]
  have := p_toIntS_l p hp (((p.length : Int) - 0).toNat + 2) 0 (List.replicate p.length 0) (by omega) (by omega) (by simp) (by simp)
  rw [show ((0 : Nat) : Int) = 0 from rfl] at this
  rw [this]
  rfl
theorem p_szIntS (p : List Int) (n : Int) (h0 : 0 ≤ n) (h1 : n ≤ 1048576) (hp : p.length ≤ maxN) : laws_szIntS.f p n = some (if (p.length : Int) ≤ n then n - p.length else -1) := by
  unfold laws_szIntS.f
  unfold maxN at hp
  rw [wrapS (by omega) (by omega)]
  by_cases h : (p.length : Int) ≤ n
  · rw [if_neg (by simp; omega), if_pos h]
  · rw [if_pos (by simp; omega), if_neg h]
theorem p_eqScreen (w h : Int) (cs : List Int) (x y : Int) (hp : cs.length ≤ big) : laws_eqScreen.f w h cs x y w h cs x y = some true := by
  unfold laws_eqScreen.f
  rw [p_eqIntS cs cs hp]
  simp
theorem p_szScreen (w h : Int) (cs : List Int) (x y : Int) (n : Int) (h0 : 0 ≤ n) (h1 : n ≤ 1048576) (hp : cs.length ≤ maxN) : ∃ u, laws_szScreen.f w h cs x y n = some u ∧ (u < 0 ∨ (cs.length : Int) ≤ n) := by
  unfold laws_szScreen.f
  rw [p_szIntS cs n h0 h1 hp]
  simp only [Option.bind_some]
  by_cases h : (cs.length : Int) ≤ n
  · rw [if_pos h, if_neg (by simp; omega)]; exact ⟨_, rfl, .inr h⟩
  · rw [if_neg h, if_pos (by decide)]; exact ⟨_, rfl, .inl (by decide)⟩
theorem p_toScreen (w h : Int) (cs : List Int) (x y : Int) (hp : cs.length ≤ big) : laws_toScreen.f w h cs x y = some (w, h, cs, x, y) := by
  unfold laws_toScreen.f
  rw [p_toIntS cs hp]
  rfl
def marks (k : Int) (n : Nat) : List Int := (List.range n).map fun i : Nat => k + i
theorem marks_len (k : Int) (n : Nat) : (marks k n).length = n := by simp [marks]
theorem marks_get (k : Int) (n i : Nat) (h : i < n) : (marks k n)[i]? = some (k + i) := by simp [marks, h]
theorem p_markIntS_l (p : List Int) (k0 : Int) (h0 : 0 ≤ k0) (h1 : k0 ≤ 1000000000000) (hp : p.length ≤ big) : ∀ (k i : Nat) (x : List Int), i ≤ p.length → p.length - i < k → x.length = p.length → x.take i = (marks k0 p.length).take i → laws_markIntS.l1 p k x (k0 + i) i = some (k0 + p.length, marks k0 p.length) := by
  intro k
  induction k with
  | zero => intro i x _ h; omega
  | succ k ih =>
    intro i x hi hk hl ht
    rw [laws_markIntS.l1]
    by_cases h : i < p.length
    · rw [if_pos (by simpa using h), rd?_at (by omega : i < x.length)]
      simp only [Option.bind_some]
      rw [st?_at _ (by omega : i < x.length)]
      simp only [Option.bind_some]
      unfold big at hp
      rw [wrapN i (by omega), wrapS (by omega) (by omega), show k0 + (i : Int) + 1 = k0 + ((i + 1 : Nat) : Int) by omega]
      refine ih (i + 1) _ h (by omega) (by simpa using hl) ?_
      rw [List.take_add_one, List.take_add_one, List.take_set_of_le (Nat.le_refl i), ht, marks_get _ _ _ h]
      simp [h, hl]
    · rw [if_neg (by simpa using h)]
      obtain rfl : i = p.length := by omega
      rw [List.take_of_length_le (l := x) (by omega), List.take_of_length_le (l := marks k0 p.length) (by rw [marks_len]; omega)] at ht
      rw [ht]
theorem p_markIntS (p : List Int) (k0 : Int) (h0 : 0 ≤ k0) (h1 : k0 ≤ 1000000000000) (hp : p.length ≤ big) : laws_markIntS.f p k0 = some (k0 + p.length, marks k0 p.length) := by
  unfold laws_markIntS.f
  have := p_markIntS_l p k0 h0 h1 hp (((p.length : Int) - 0).toNat + 2) 0 p (by omega) (by omega) rfl (by simp)
  rw [show ((0 : Nat) : Int) = 0 from rfl, Int.add_zero] at this
  rw [this]
  rfl
theorem p_heldIntS_l (n : Nat) (k0 : Int) (h0 : 0 ≤ k0) (h1 : k0 ≤ 1000000000000) (hp : n ≤ big) : ∀ (k i : Nat), i ≤ n → n - i < k → laws_heldIntS.l1 (marks k0 n) k (k0 + i) i = some (.go (k0 + n)) := by
  intro k
  induction k with
  | zero => intro i _ h; omega
  | succ k ih =>
    intro i hi hk
    rw [laws_heldIntS.l1, marks_len]
    by_cases h : i < n
    · have hm := rd?_at (xs := marks k0 n) (i := i) (by rw [marks_len]; exact h)
      have hg : (marks k0 n)[i]'(by rw [marks_len]; exact h) = k0 + i := by simp [marks]
      rw [if_pos (by simpa using h), hm, hg]
      simp only [Option.bind_some]
      unfold big at hp
      rw [if_neg (by simp), wrapN i (by omega), wrapS (by omega) (by omega), show k0 + (i : Int) + 1 = k0 + ((i + 1 : Nat) : Int) by omega]
      exact ih (i + 1) h (by omega)
    · rw [if_neg (by simpa using h)]
      obtain rfl : i = n := by omega
      rfl
theorem p_heldIntS (n : Nat) (k0 : Int) (h0 : 0 ≤ k0) (h1 : k0 ≤ 1000000000000) (hp : n ≤ big) : laws_heldIntS.f (marks k0 n) k0 = some (k0 + n) := by
  unfold laws_heldIntS.f
  have := p_heldIntS_l n k0 h0 h1 hp ((((marks k0 n).length : Int) - 0).toNat + 2) 0 (by omega) (by rw [marks_len]; omega)
  rw [show ((0 : Nat) : Int) = 0 from rfl, Int.add_zero] at this
  rw [this]
  rfl
theorem p_PutRune (w h : Int) (cs : List Int) (x y : Int) (p : Int) (hc : cs.length ≤ big) : ∃ r : Int × Int × List Int × Int × Int × Bool, impl_PutRune.f w h cs x y p = some r ∧ spec_PutRune.f w h cs x y p = some r ∧ r.2.2.1.length ≤ 1000 := by
  unfold impl_PutRune.f impl_PutRunes.f spec_PutRune.f
  simp only [p_implScreen w h cs x y hc, p_specScreen w h cs x y hc, Option.bind_some, p_specRune, p_areRunes [p] 1000 (by unfold big; simp)]
  have e : (decide ((([p] : List Int).length : Int) ≤ 1000) && [p].all okRune) = okRune p := by simp
  rw [e]
  cases hs : okScreen w h cs x y with
  | false => exact ⟨_, rfl, rfl, by simp⟩
  | true =>
    cases hl : okRune p with
    | false => exact ⟨_, rfl, rfl, by simp⟩
    | true =>
      simp only [Bool.not_true, Bool.false_eq_true, if_false, Option.bind_some]
      have I := okScreen_inv hs
      obtain ⟨cs', x', y', d1, d2, d3⟩ := p_put I p
      have hl := d3.len
      have k1 : impl_PutRunes.l1 [p] 3 0 w h cs x y = some (w, h, cs', x', y') := by
        rw [impl_PutRunes.l1, if_pos (by simp), show rd? [p] 0 = some p from rd?_at (xs := [p]) (i := 0) (by simp)]
        simp only [Option.bind_some]
        rw [d1]
        simp only [Option.bind_some]
        rw [show IntKind.i64.wrap (0 + 1) = 1 by decide, impl_PutRunes.l1, if_neg (by simp)]
      refine ⟨(w, h, cs', x', y', true), ?_, ?_, by simp; omega⟩
      · rw [p_clone cs hc]
        simp only [Option.bind_some]
        show Option.bind (Option.bind (impl_PutRunes.l1 [p] 3 0 w h cs x y) _) _ = _
        rw [k1]
        rfl
      · rw [d2]
        simp only [Option.bind_some]
        rw [p_own cs' (by unfold big; omega)]
        rfl
theorem law_PutRune (w h : Int) (cs : List Int) (x y : Int) (p : Int) (_ : inK .i64 w) (_ : inK .i64 h) (hc : allW (inK .i64) cs) (_ : inK .i64 x) (_ : inK .i64 y) (_ : inK .i64 p) : laws_FnExactPutRune.f w h cs x y p = some true := by
  unfold laws_FnExactPutRune.f
  obtain ⟨u, e, hu⟩ := p_szScreen w h cs x y 1048576 (by decide) (by decide) hc.1
  rw [e]
  simp only [Option.bind_some]
  by_cases h0 : u < 0
  · rw [if_pos (by simpa using h0)]
  rw [if_neg (by simpa using h0)]
  have hc' : cs.length ≤ big := by unfold big; omega
  obtain ⟨r, e1, e2, b1⟩ := p_PutRune w h cs x y p hc'
  have c1 : r.2.2.1.length ≤ big := by unfold big; omega
  have m1 := p_markIntS cs 1 (by omega) (by omega) hc'
  have m2 := p_markIntS r.2.2.1 1 (by omega) (by omega) c1
  have m3 := p_heldIntS r.2.2.1.length 1 (by omega) (by omega) c1
  have n1 : ¬ (1 + (cs.length : Int) < 0) := by omega
  have n2 : ¬ (1 + (r.2.2.1.length : Int) < 0) := by omega
  simp [p_toScreen w h cs x y hc', e1, e2, p_eqScreen w h cs x y hc', p_eqScreen r.1 r.2.1 r.2.2.1 r.2.2.2.1 r.2.2.2.2.1 c1, laws_markScreen.f, laws_heldScreen.f, m1, m2, m3, n1, n2]
end Go.Proofs.Ytopecknfnhocpaa
