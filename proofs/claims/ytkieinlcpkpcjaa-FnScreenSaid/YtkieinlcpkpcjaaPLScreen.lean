/- Plain laws of the printed functions. Conditions as each lemma says. -/
import Derived.Test.YtkieinlcpkpcjaaPB
import Derived.Test.YtkieinlcpkpcjaaWLScreen2
set_option linter.unusedVariables false
set_option linter.unusedSimpArgs false
namespace Go.Proofs.Ytkieinlcpkpcjaa
open Go Go.Proofs.GL
theorem wrapU (n : Int) : 0 ≤ IntKind.u64.wrap n ∧ IntKind.u64.wrap n < 18446744073709551616 := by rw [IntKind.wrap_u64]; omega
theorem p_next (code : List Int) (hc : allW (inK .u8) code) (a s : Int) (h0 : 0 ≤ a) (h1 : a ≤ 1000000000000000) : ∃ n s', spec_l1Cur_next.f code a s = some (n, a + 1, s') ∧ 0 ≤ n ∧ n ≤ 255 := by
  unfold spec_l1Cur_next.f
  have key : ∃ x : Int, (if (decide (a < (code.length : Int))) = true then ((rd? code a).bind fun u10 => some (IntKind.i64.wrap u10)) else (some 0)) = some x ∧ 0 ≤ x ∧ x ≤ 255 := by
    obtain ⟨k, rfl⟩ := Int.eq_ofNat_of_zero_le h0
    by_cases h : k < code.length
    · rw [if_pos (by simpa using h), rd?_at h]
      have hb : -0 ≤ code[k] ∧ code[k] ≤ 255 := by
        have := hc.2 _ (List.getElem_mem h)
        exact this
      simp only [Option.bind_some]
      rw [wrapS (by omega) (by omega)]
      exact ⟨_, rfl, by omega, by omega⟩
    · rw [if_neg (by simpa using h)]
      exact ⟨0, rfl, by omega, by omega⟩
  obtain ⟨x, e, x0, x1⟩ := key
  rw [e]
  simp only [Option.bind_some]
  rw [wrapS (n := a + 1) (by omega) (by omega)]
  generalize IntKind.u64.wrap (IntKind.u64.wrap (IntKind.u64.wrap (s * 6364136223846793005) + IntKind.u64.wrap x) + 1442695040888963407) = y
  by_cases h : a + 1 ≤ (code.length : Int)
  · rw [if_pos (by simpa using h)]
    exact ⟨x, y, rfl, x0, x1⟩
  · rw [if_neg (by simpa using h)]
    have hs : ∃ q, shrK? .u64 y 40 = some q := ⟨_, by unfold shrK?; rw [if_pos (by decide)]⟩
    obtain ⟨q, hq⟩ := hs
    rw [hq]
    simp only [Option.bind_some]
    have hb : 0 ≤ bits .and .u64 q 255 ∧ bits .and .u64 q 255 ≤ 255 := by
      unfold bits
      dsimp only
      have : (BitVec.ofInt IntKind.u64.bits q &&& BitVec.ofInt IntKind.u64.bits 255).toNat ≤ 255 := by
        rw [BitVec.toNat_and]
        exact Nat.le_trans Nat.and_le_right (by decide)
      rw [IntKind.wrap_u64]
      omega
    rw [wrapS (by omega) (by omega)]
    exact ⟨_, y, rfl, hb.1, hb.2⟩
theorem p_pick (code : List Int) (hc : allW (inK .u8) code) (a s n : Int) (h0 : 0 ≤ a) (h1 : a ≤ 1000000000000) : ∃ r a' s', spec_l1Cur_pick.f code a s n = some (r, a', s') ∧ 0 ≤ r ∧ (1 ≤ n → r < n) ∧ (n ≤ 1 → r = 0) ∧ r ≤ 65535 ∧ a ≤ a' ∧ a' ≤ a + 2 := by
  unfold spec_l1Cur_pick.f
  by_cases hn : n ≤ 1
  · rw [if_pos (by simpa using hn)]
    exact ⟨0, a, s, rfl, by omega, by omega, by omega, by omega, by omega, by omega⟩
  · rw [if_neg (by simpa using hn)]
    obtain ⟨x, s1, e1, x0, x1⟩ := p_next code hc a s h0 (by omega)
    rw [e1]
    simp only [Option.bind_some]
    have key : ∀ (v a' s' : Int), 0 ≤ v → v ≤ 65535 → a ≤ a' → a' ≤ a + 2 → ∃ r b' t', (rem? v n).bind (fun u20 => some (u20, a', s')) = some (r, b', t') ∧ 0 ≤ r ∧ (1 ≤ n → r < n) ∧ (n ≤ 1 → r = 0) ∧ r ≤ 65535 ∧ a ≤ b' ∧ b' ≤ a + 2 := by
      intro v a' s' v0 v1 b0 b1
      unfold rem?
      rw [if_neg (by omega)]
      have e := Int.tmod_eq_emod_of_nonneg (b := n) v0
      have hb := Int.emod_lt_of_pos v (show 0 < n by omega)
      have hb0 := Int.emod_nonneg v (show n ≠ 0 by omega)
      have hb1 : v % n ≤ v := by
        by_cases hvn : v < n
        · rw [Int.emod_eq_of_lt v0 hvn]; exact Int.le_refl _
        · omega
      rw [e]
      exact ⟨_, a', s', rfl, hb0, fun _ => hb, by omega, by omega, b0, b1⟩
    by_cases h2 : n > 200
    · rw [if_pos (by simpa using h2)]
      obtain ⟨y, s2, e2, y0, y1⟩ := p_next code hc (a + 1) s1 (by omega) (by omega)
      rw [e2]
      simp only [Option.bind_some]
      rw [wrapS (n := x * 256) (by omega) (by omega), wrapS (by omega) (by omega)]
      exact key (x * 256 + y) (a + 1 + 1) s2 (by omega) (by omega) (by omega) (by omega)
    · rw [if_neg (by simpa using h2)]
      exact key x (a + 1) s1 (by omega) (by omega) (by omega) (by omega)
theorem p_among (code : List Int) (hc : allW (inK .u8) code) (a s : Int) (l : List Int) (hl : l ≠ []) (h0 : 0 ≤ a) (h1 : a ≤ 1000000000000) : ∃ r a' s', spec_l1Cur_among.f code a s l = some (r, a', s') ∧ r ∈ l ∧ a ≤ a' ∧ a' ≤ a + 2 := by
  unfold spec_l1Cur_among.f
  have hp : 0 < l.length := List.length_pos_iff.2 hl
  obtain ⟨r, a', s', e, r0, r1, _, _, b0, b1⟩ := p_pick code hc a s (l.length : Int) h0 h1
  rw [e]
  simp only [Option.bind_some]
  obtain ⟨k, rfl⟩ := Int.eq_ofNat_of_zero_le r0
  have hk : k < l.length := by have := r1 (by omega); omega
  rw [rd?_at hk]
  exact ⟨_, a', s', rfl, List.getElem_mem hk, b0, b1⟩
theorem p_one (code : List Int) (hc : allW (inK .u8) code) (a s n : Int) (h0 : 0 ≤ a) (h1 : a ≤ 1000000000000) : ∃ (r : Bool) (a' s' : Int), spec_l1Cur_one.f code a s n = some (r, a', s') ∧ a ≤ a' ∧ a' ≤ a + 2 := by
  unfold spec_l1Cur_one.f
  obtain ⟨r, a', s', e, _, _, _, _, b0, b1⟩ := p_pick code hc a s n h0 h1
  rw [e]
  exact ⟨_, a', s', rfl, b0, b1⟩
theorem p_l1In (a b c : Int) : spec_l1In.f a b c = some (decide (b ≤ a) && decide (a ≤ c)) := by
  unfold spec_l1In.f
  by_cases h : b ≤ a
  · rw [if_pos (by simpa using h)]; simp [h]
  · rw [if_neg (by simpa using h)]; simp [h]
theorem p_inRange (a b c : Int) : impl_inRange.f a b c = some (decide (b ≤ a) && decide (a ≤ c)) := by
  unfold impl_inRange.f
  by_cases h : b ≤ a
  · rw [if_pos (by simpa using h)]; simp [h]
  · rw [if_neg (by simpa using h)]; simp [h]
def okRune (r : Int) : Bool := decide (0 ≤ r) && decide (r ≤ 1114111) && !(decide (55296 ≤ r) && decide (r ≤ 57343))
theorem p_specRune (r : Int) : spec_GoodRune.f r = some (okRune r) := by
  unfold spec_GoodRune.f okRune
  simp only [p_l1In, Option.bind_some]
  cases (decide (0 ≤ r) && decide (r ≤ 1114111)) <;> rfl
theorem p_implRune (r : Int) : impl_GoodRune.f r = some (okRune r) := by
  unfold impl_GoodRune.f okRune
  simp only [p_inRange, Option.bind_some]
  cases (decide (0 ≤ r) && decide (r ≤ 1114111)) <;> rfl
theorem p_allRunes (p : List Int) (hp : p.length ≤ big) : spec_l1AllRunes.f p = some (p.all okRune && decide (p.length ≤ 1000)) := by
  unfold spec_l1AllRunes.f
  have := all_loop p hp (fun u => !okRune u) false (spec_l1AllRunes.l1 p) (fun k i => by rw [spec_l1AllRunes.l1]; simp only [p_specRune, Option.bind_some]) (((p.length : Int) - 0).toNat + 2) 0 (by omega) (by omega)
  rw [show ((0 : Nat) : Int) = 0 from rfl] at this
  rw [this, List.drop_zero]
  have e : p.any (fun u => !okRune u) = !p.all okRune := by rw [List.all_eq_not_any_not]; simp
  rw [e]
  cases h : p.all okRune <;> simp
  omega
theorem mul_le160 {w h : Int} (h1 : 1 ≤ w) (h2 : w ≤ 20) (h3 : 1 ≤ h) (h4 : h ≤ 8) : 1 ≤ w * h ∧ w * h ≤ 160 := by
  have a := Int.mul_le_mul h2 h4 (by omega) (by omega)
  have b := Int.mul_le_mul h1 h3 (by omega) (by omega)
  omega
theorem p_l1All (p : List Int) (a b : Int) (hp : p.length ≤ big) : spec_l1All.f p a b = some (p.all fun u => decide (a ≤ u) && decide (u ≤ b)) := by
  unfold spec_l1All.f
  have := all_loop p hp (fun u => !(decide (a ≤ u) && decide (u ≤ b))) false (spec_l1All.l1 p a b) (fun k i => by rw [spec_l1All.l1]; simp only [p_l1In, Option.bind_some]) (((p.length : Int) - 0).toNat + 2) 0 (by omega) (by omega)
  rw [show ((0 : Nat) : Int) = 0 from rfl] at this
  rw [this, List.drop_zero]
  have e : p.any (fun u => !(decide (a ≤ u) && decide (u ≤ b))) = !p.all fun u => decide (a ≤ u) && decide (u ≤ b) := by rw [List.all_eq_not_any_not]; simp
  rw [e]
  cases h : p.all fun u => decide (a ≤ u) && decide (u ≤ b) <;> simp
def okCell (r : Int) : Bool := okRune r && decide (32 ≤ r)
theorem p_goodCells (p : List Int) (hp : p.length ≤ big) : slices_ContainsFunc_int_int_impl_GoodScreen_1.f p = some (!p.all okCell) := by
  unfold slices_ContainsFunc_int_int_impl_GoodScreen_1.f slices_IndexFunc_int_int_impl_GoodScreen_1.f
  have e1 : ∀ u, impl_GoodScreen_1.f u = some (!okCell u) := fun u => by
    unfold impl_GoodScreen_1.f okCell
    simp only [p_implRune, Option.bind_some]
    by_cases h : u < 32
    · rw [if_pos (by simpa using h)]; simp; exact .inr h
    · rw [if_neg (by simpa using h)]
      have : decide (32 ≤ u) = true := by simp; omega
      simp [this]
  have := scan_loop p hp (fun u => !okCell u) (fun i _ => i) (slices_IndexFunc_int_int_impl_GoodScreen_1.l1 p) (fun k i => by rw [slices_IndexFunc_int_int_impl_GoodScreen_1.l1]; simp only [e1, Option.bind_some]) (((p.length : Int) - 0).toNat + 2) 0 (by omega) (by omega)
  rw [show ((0 : Nat) : Int) = 0 from rfl] at this
  rw [this, List.drop_zero]
  have e : p.all okCell = !(p.any fun u => !okCell u) := List.all_eq_not_any_not
  rw [e, Bool.not_not]
  cases hf : p.findIdx? (fun u => !okCell u) with
  | none =>
    have : p.any (fun u => !okCell u) = false := by
      rw [List.findIdx?_eq_none_iff] at hf
      simpa using hf
    rw [this]; simp
  | some j =>
    obtain ⟨hj, h1, h2⟩ := List.findIdx?_eq_some_iff_getElem.1 hf
    have : p.any (fun u => !okCell u) = true := List.any_eq_true.2 ⟨_, List.getElem_mem hj, h1⟩
    rw [this]
    simp [hj]
/-- A good screen. -/
def okScreen (w h : Int) (cs : List Int) (x y : Int) : Bool := decide (1 ≤ w) && decide (w ≤ 20) && (decide (1 ≤ h) && decide (h ≤ 8)) && (decide (0 ≤ x) && decide (x ≤ w)) && (decide (0 ≤ y) && decide (y < h)) && decide ((cs.length : Int) = w * h) && cs.all okCell
theorem p_specScreen (w h : Int) (cs : List Int) (x y : Int) (hp : cs.length ≤ big) : spec_GoodScreen.f w h cs x y = some (okScreen w h cs x y) := by
  unfold spec_GoodScreen.f okScreen
  simp only [p_l1In, Option.bind_some, p_allRunes cs hp, p_l1All cs _ _ hp]
  by_cases h1 : 1 ≤ w ∧ w ≤ 20
  · by_cases h2 : 1 ≤ h ∧ h ≤ 8
    · obtain ⟨m1, m2⟩ := mul_le160 h1.1 h1.2 h2.1 h2.2
      rw [wrapS (n := h - 1) (by omega) (by omega), wrapS (n := w * h) (by omega) (by omega)]
      by_cases h3 : 0 ≤ x ∧ x ≤ w
      · by_cases h4 : 0 ≤ y ∧ y < h
        · by_cases h5 : (cs.length : Int) = w * h
          · have h6 : cs.length ≤ 1000 := by omega
            have h7 : y ≤ h - 1 := by omega
            have e : (cs.all okRune && cs.all fun u => decide (32 ≤ u) && decide (u ≤ 1114111)) = cs.all okCell := by
              rw [Bool.eq_iff_iff]
              simp only [Bool.and_eq_true, List.all_eq_true, okCell, okRune, decide_eq_true_eq, Bool.not_eq_true', Bool.and_eq_false_iff, decide_eq_false_iff_not]
              constructor
              · rintro ⟨a, b⟩ u hu
                exact ⟨a u hu, (b u hu).1⟩
              · intro a
                exact ⟨fun u hu => (a u hu).1, fun u hu => ⟨(a u hu).2, (a u hu).1.1.2⟩⟩
            rw [← e]
            generalize cs.all okRune = a1
            generalize (cs.all fun u => decide (32 ≤ u) && decide (u ≤ 1114111)) = a2
            simp [h1, h2, h3, h4, h5, h6, h7]
            cases a1 <;> simp
          · have h7 : ¬ (h - 1 < y) := by omega
            simp [h1, h2, h3, h4, h5, h7]
        · have h7 : ¬ (0 ≤ y ∧ y ≤ h - 1) := by omega
          have e1 : (decide (0 ≤ y) && decide (y ≤ h - 1)) = false := by simpa using h7
          have e2 : (decide (0 ≤ y) && decide (y < h)) = false := by simpa using h4
          simp [h1, h2, h3, e1, e2]
      · have e1 : (decide (0 ≤ x) && decide (x ≤ w)) = false := by simpa using h3
        simp [h1, h2, e1]
    · have e1 : (decide (1 ≤ h) && decide (h ≤ 8)) = false := by simpa using h2
      simp [h1, e1]
  · have e1 : (decide (1 ≤ w) && decide (w ≤ 20)) = false := by simpa using h1
    simp [e1]
theorem p_implScreen (w h : Int) (cs : List Int) (x y : Int) (hp : cs.length ≤ big) : impl_GoodScreen.f w h cs x y = some (okScreen w h cs x y) := by
  unfold impl_GoodScreen.f okScreen impl_isPlace.f
  simp only [p_inRange, Option.bind_some, p_goodCells cs hp]
  by_cases h1 : 1 ≤ w ∧ w ≤ 20
  · by_cases h2 : 1 ≤ h ∧ h ≤ 8
    · obtain ⟨m1, m2⟩ := mul_le160 h1.1 h1.2 h2.1 h2.2
      rw [wrapS (n := h - 1) (by omega) (by omega), wrapS (n := w * h) (by omega) (by omega)]
      by_cases h3 : 0 ≤ x ∧ x ≤ w
      · by_cases h4 : 0 ≤ y ∧ y < h
        · have h7 : y ≤ h - 1 := by omega
          by_cases h5 : (cs.length : Int) = w * h
          · simp [h1, h2, h3, h4, h5, h7]
          · simp [h1, h2, h3, h4, h5]
        · have h7 : ¬ (0 ≤ y ∧ y ≤ h - 1) := by omega
          have e1 : (decide (0 ≤ y) && decide (y ≤ h - 1)) = false := by simpa using h7
          have e2 : (decide (0 ≤ y) && decide (y < h)) = false := by simpa using h4
          simp [h1, h2, h3, e1, e2]
      · have e1 : (decide (0 ≤ x) && decide (x ≤ w)) = false := by simpa using h3
        simp [h1, h2, e1]
    · have e1 : (decide (1 ≤ h) && decide (h ≤ 8)) = false := by simpa using h2
      simp [h1, e1]
  · have e1 : (decide (1 ≤ w) && decide (w ≤ 20)) = false := by simpa using h1
    simp [e1]
theorem p_repeat : ∀ n : Nat, n < 161 → slices_Repeat_int_int.f [32] (n : Int) = some (List.replicate n 32) := by decide +kernel
theorem p_own (x : List Int) (hx : x.length ≤ big) : spec_l1Own.f x = some x := by
  unfold spec_l1Own.f
  unfold big at hx
  rw [app?_at (by simpa using hx)]
  rfl
theorem p_clone (x : List Int) (hx : x.length ≤ big) : slices_Clone_int_int.f x = some x := by
  unfold slices_Clone_int_int.f
  unfold big at hx
  rw [app?_at (by simpa using hx)]
  rfl
theorem cut0 {x : List Int} {n : Nat} (h : n ≤ x.length) : cut? x 0 (n : Int) = some (x.take n) := by
  have := cut?_at (xs := x) (a := 0) (b := n) (by omega) h
  rw [show ((0 : Nat) : Int) = 0 from rfl] at this
  simpa using this
theorem cutE {x : List Int} {n : Nat} (h : n ≤ x.length) : cut? x (n : Int) (x.length : Int) = some (x.drop n) := by
  have := cut?_at (xs := x) (a := n) (b := x.length) h (by omega)
  simpa using this
theorem p_grow (n : Nat) (hn : n ≤ big) : slices_Grow_int_int_nil.f (n : Int) = some [] := by
  unfold slices_Grow_int_int_nil.f
  unfold big at hn
  have e0 : IntKind.i64.wrap (0 - 0) = 0 := by decide
  have e1 : IntKind.i64.wrap ((n : Int) - 0) = n := by rw [Int.sub_zero]; exact wrapS (by omega) (by omega)
  rw [if_neg (by simp), e0, e1]
  by_cases h : 0 < n
  · rw [if_pos (by simpa using h), mk?_at (by omega)]
    have c1 : cut? ([] : List Int) 0 0 = some [] := cut0 (x := []) (n := 0) (by simp)
    have c2 : cut? (List.replicate n (0 : Int)) 0 0 = some [] := by simpa using cut0 (x := List.replicate n (0 : Int)) (n := 0) (by simp)
    rw [c1]
    simp only [Option.bind_some]
    rw [c2]
    rfl
  · rw [if_neg (by simpa using h)]
    rfl
theorem p_concat (a b : List Int) (h : a.length + b.length ≤ big) : slices_Concat_int_int.f [a, b] = some (a ++ b) := by
  have hh : a.length + b.length ≤ big := h
  unfold big at h
  have l1 : slices_Concat_int_int.l1 [a, b] 4 0 0 = some (((a.length + b.length : Nat)) : Int) := by
    rw [slices_Concat_int_int.l1]
    have w1 : IntKind.i64.wrap (0 + (a.length : Int)) = a.length := by rw [Int.zero_add]; exact wrapS (by omega) (by omega)
    have w2 : IntKind.i64.wrap ((a.length : Int) + (b.length : Int)) = ((a.length + b.length : Nat) : Int) := by rw [wrapS (by omega) (by omega)]; omega
    have i1 : IntKind.i64.wrap (0 + 1) = 1 := by decide
    have i2 : IntKind.i64.wrap (1 + 1) = 2 := by decide
    have r0 : rd? [a, b] 0 = some a := rd?_at (xs := [a, b]) (i := 0) (by simp)
    have r1 : rd? [a, b] 1 = some b := rd?_at (xs := [a, b]) (i := 1) (by simp)
    rw [if_pos (by simp), r0]
    simp only [Option.bind_some]
    rw [w1, if_neg (by simp), i1, slices_Concat_int_int.l1, if_pos (by simp), r1]
    simp only [Option.bind_some]
    rw [w2, if_neg (by simp; omega), i2, slices_Concat_int_int.l1, if_neg (by simp)]
  have l2 : slices_Concat_int_int.l2 [a, b] 4 [] 0 = some (a ++ b) := by
    have i1 : IntKind.i64.wrap (0 + 1) = 1 := by decide
    have i2 : IntKind.i64.wrap (1 + 1) = 2 := by decide
    have r0 : rd? [a, b] 0 = some a := rd?_at (xs := [a, b]) (i := 0) (by simp)
    have r1 : rd? [a, b] 1 = some b := rd?_at (xs := [a, b]) (i := 1) (by simp)
    rw [slices_Concat_int_int.l2, if_pos (by simp), r0]
    simp only [Option.bind_some]
    rw [app?_at (by simp; omega)]
    simp only [Option.bind_some, List.nil_append]
    rw [i1, slices_Concat_int_int.l2, if_pos (by simp), r1]
    simp only [Option.bind_some]
    rw [app?_at (by omega)]
    simp only [Option.bind_some]
    rw [i2, slices_Concat_int_int.l2, if_neg (by simp)]
  unfold slices_Concat_int_int.f
  show (slices_Concat_int_int.l1 [a, b] 4 0 0).bind _ = _
  rw [l1]
  simp only [Option.bind_some]
  rw [p_grow _ hh]
  simp only [Option.bind_some]
  show (slices_Concat_int_int.l2 [a, b] 4 [] 0).bind _ = _
  rw [l2]
  rfl
theorem p_l16New_l2 (w h : Int) (n : Nat) (hn : w * h = n) (hb : n ≤ 1000) : ∀ (k i : Nat), i ≤ n → n - i < k → spec_l16New.l1 w h k i (List.replicate i 32) = some (List.replicate n 32) := by
  intro k
  induction k with
  | zero => intro i _ h; omega
  | succ k ih =>
    intro i hi hk
    rw [spec_l16New.l1, hn, wrapS (by omega) (by omega)]
    by_cases h1 : i < n
    · rw [if_pos (by simpa using h1), app?_at (by simp; omega)]
      simp only [Option.bind_some]
      rw [wrapN i (by omega), show List.replicate i (32 : Int) ++ [32] = List.replicate (i + 1) 32 by rw [List.replicate_succ']]
      exact ih (i + 1) h1 (by omega)
    · rw [if_neg (by simpa using h1)]
      obtain rfl : i = n := by omega
      rfl
theorem p_newScr (w h : Int) (n : Nat) (hn : w * h = n) (hb : n ≤ 160) : impl_newScreen.f w h = some (w, h, List.replicate n 32, 0, 0) ∧ spec_l16New.f w h = some (w, h, List.replicate n 32, 0, 0) := by
  have e1 := p_repeat n (by omega)
  have e2 := p_l16New_l2 w h n hn (by omega) (((n : Int) - 0).toNat + 2) 0 (by omega) (by omega)
  rw [show ((0 : Nat) : Int) = 0 from rfl, show List.replicate 0 (32 : Int) = [] from rfl] at e2
  constructor
  · unfold impl_newScreen.f
    rw [hn, wrapS (by omega) (by omega), e1]
    rfl
  · unfold spec_l16New.f
    rw [hn, wrapS (by omega) (by omega), e2]
    rfl
structure Inv (w h : Int) (cs : List Int) (x y : Int) : Prop where
  w0 : 1 ≤ w
  w1 : w ≤ 20
  h0 : 1 ≤ h
  h1 : h ≤ 8
  x0 : 0 ≤ x
  x1 : x ≤ w
  y0 : 0 ≤ y
  y1 : y < h
  c : (cs.length : Int) = w * h
  g : cs.all okCell = true
theorem Inv.len {w h : Int} {cs : List Int} {x y : Int} (I : Inv w h cs x y) : cs.length ≤ 160 := by
  obtain ⟨m1, m2⟩ := mul_le160 I.w0 I.w1 I.h0 I.h1
  have := I.c
  omega
theorem p_down_l (n : Nat) (hb : n ≤ 1000) (base : List Int) (hB : base.length ≤ 1000) : ∀ (k i : Nat), i ≤ n → n - i < k → spec_l16Down.l1 (n : Int) k i (base ++ List.replicate i 32) = some (base ++ List.replicate n 32) := by
  intro k
  induction k with
  | zero => intro i _ h; omega
  | succ k ih =>
    intro i hi hk
    rw [spec_l16Down.l1]
    by_cases h1 : i < n
    · rw [if_pos (by simpa using h1), app?_at (by simp; omega)]
      simp only [Option.bind_some]
      rw [wrapN i (by omega), List.append_assoc, show List.replicate i (32 : Int) ++ [32] = List.replicate (i + 1) 32 by rw [List.replicate_succ']]
      exact ih (i + 1) h1 (by omega)
    · rw [if_neg (by simpa using h1)]
      obtain rfl : i = n := by omega
      rfl
theorem all_blank (n : Nat) : (List.replicate n (32 : Int)).all okCell = true := List.all_eq_true.2 fun u hu => by
  rw [(List.mem_replicate.1 hu).2]; decide
theorem p_down {w h : Int} {cs : List Int} {x y : Int} (I : Inv w h cs x y) : ∃ cs' y', impl_Screen_down.f w h cs x y = some (cs', 0, y') ∧ spec_l16Down.f w h cs x y = some (w, h, cs', 0, y') ∧ Inv w h cs' 0 y' := by
  have hl := I.len
  obtain ⟨n, hn⟩ := Int.eq_ofNat_of_zero_le (show 0 ≤ w by have := I.w0; omega)
  have i1 := I.w0; have i2 := I.w1; have i3 := I.h0; have i4 := I.h1; have i5 := I.y0; have i6 := I.y1
  unfold impl_Screen_down.f spec_l16Down.f
  rw [wrapS (n := h - 1) (by omega) (by omega)]
  by_cases hy : y < h - 1
  · refine ⟨cs, y + 1, ?_, ?_, ⟨i1, i2, i3, i4, by omega, by omega, by omega, by omega, I.c, I.g⟩⟩
    · rw [if_pos (by simpa using hy), wrapS (by omega) (by omega)]
    · rw [if_pos (by simpa using hy), wrapS (by omega) (by omega)]
  · have hnc : n ≤ cs.length := by
      have h1 := I.c
      have : w * 1 ≤ w * h := Int.mul_le_mul_of_nonneg_left i3 (by omega)
      omega
    have e2 := p_down_l n (by omega) (cs.drop n) (by simp; omega) (((n : Int) - 0).toNat + 2) 0 (by omega) (by omega)
    rw [show ((0 : Nat) : Int) = 0 from rfl, show List.replicate 0 (32 : Int) = [] from rfl, List.append_nil] at e2
    refine ⟨cs.drop n ++ List.replicate n 32, y, ?_, ?_, ⟨i1, i2, i3, i4, by omega, by omega, by omega, by omega, ?_, ?_⟩⟩
    · rw [if_neg (by simpa using hy), hn, cutE hnc]
      simp only [Option.bind_some]
      rw [p_repeat n (by omega)]
      simp only [Option.bind_some]
      rw [p_concat _ _ (by unfold big; simp; omega)]
      rfl
    · rw [if_neg (by simpa using hy), hn, cutE hnc]
      simp only [Option.bind_some]
      rw [p_own _ (by unfold big; simp; omega)]
      simp only [Option.bind_some]
      rw [e2]
      rfl
    · have := I.c
      rw [List.length_append, List.length_drop, List.length_replicate]
      omega
    · rw [List.all_append, Bool.and_eq_true]
      exact ⟨List.all_eq_true.2 fun u hu => List.all_eq_true.1 I.g u (List.mem_of_mem_drop hu), all_blank n⟩
theorem p_quo4 (x : Int) (h0 : 0 ≤ x) (h1 : x ≤ 20) : quo? .i64 x 4 = some (x / 4) := by
  obtain ⟨n, rfl⟩ := Int.eq_ofNat_of_zero_le h0
  have : ∀ n : Nat, n < 21 → quo? .i64 (n : Int) 4 = some ((n : Int) / 4) := by decide +kernel
  exact this n (by omega)
theorem p_write {w h : Int} {cs : List Int} {x y : Int} (I : Inv w h cs x y) (hx : x < w) (r : Int) (hr : okCell r = true) : ∃ u cs', rd? cs (IntKind.i64.wrap (IntKind.i64.wrap (y * w) + x)) = some u ∧ st? cs (IntKind.i64.wrap (IntKind.i64.wrap (y * w) + x)) r = some cs' ∧ IntKind.i64.wrap (x + 1) = x + 1 ∧ Inv w h cs' (x + 1) y := by
  have hl := I.len
  have i1 := I.w0; have i2 := I.w1; have i3 := I.h0; have i4 := I.h1; have i5 := I.y0; have i6 := I.y1; have i7 := I.x0; have i8 := I.c
  have g1 : y * w ≤ (h - 1) * w := Int.mul_le_mul_of_nonneg_right (by omega) (by omega)
  have g2 : (h - 1) * w = w * h - w := by rw [Int.sub_mul, Int.one_mul, Int.mul_comm]
  have g3 : 0 ≤ y * w := Int.mul_nonneg i5 (by omega)
  rw [wrapS (n := y * w) (by omega) (by omega), wrapS (n := y * w + x) (by omega) (by omega), wrapS (n := x + 1) (by omega) (by omega)]
  obtain ⟨j, hj⟩ := Int.eq_ofNat_of_zero_le (show 0 ≤ y * w + x by omega)
  have hjl : j < cs.length := by omega
  rw [hj]
  refine ⟨_, _, rd?_at hjl, st?_at r hjl, rfl, ⟨i1, i2, i3, i4, by omega, by omega, i5, i6, by simpa using i8, List.all_eq_true.2 fun u hu => ?_⟩⟩
  rcases List.mem_or_eq_of_mem_set hu with hu | rfl
  · exact List.all_eq_true.1 I.g u hu
  · exact hr
theorem p_leastB (a b : Int) : spec_l1Least.f a b = some (min b a) := by
  unfold spec_l1Least.f
  by_cases h : a < b
  · rw [if_pos (by simpa using h), Int.min_eq_right (by omega)]
  · rw [if_neg (by simpa using h), Int.min_eq_left (by omega)]
theorem p_mostB (a b : Int) : spec_l1Most.f a b = some (max b a) := by
  unfold spec_l1Most.f
  by_cases h : a > b
  · rw [if_pos (by simpa using h), Int.max_eq_right (by omega)]
  · rw [if_neg (by simpa using h), Int.max_eq_left (by omega)]
theorem p_put {w h : Int} {cs : List Int} {x y : Int} (I : Inv w h cs x y) (r : Int) (hr : okRune r = true) : ∃ cs' x' y', impl_Screen_put.f w h cs x y r = some (w, h, cs', x', y') ∧ spec_l16Put.f w h cs x y r = some (w, h, cs', x', y') ∧ Inv w h cs' x' y' := by
  have hl := I.len
  have i1 := I.w0; have i2 := I.w1; have i3 := I.h0; have i4 := I.h1; have i5 := I.y0; have i6 := I.y1; have i7 := I.x0; have i8 := I.c; have i9 := I.x1; have i10 := I.g
  unfold impl_Screen_put.f spec_l16Put.f
  by_cases r8 : r = 8
  · subst r8
    refine ⟨cs, max (x - 1) 0, y, ?_, ?_, ⟨i1, i2, i3, i4, by omega, by omega, i5, i6, i8, i10⟩⟩
    · rw [if_pos (by decide), wrapS (by omega) (by omega)]
    · rw [if_pos (by decide), wrapS (by omega) (by omega), p_mostB]
      rfl
  have n8 : ¬ ((r == 8) = true) := by simpa using r8
  rw [if_neg n8, if_neg n8]
  by_cases r9 : r = 9
  · subst r9
    refine ⟨cs, min ((x / 4 + 1) * 4) w, y, ?_, ?_, ⟨i1, i2, i3, i4, by omega, by omega, i5, i6, i8, i10⟩⟩
    · rw [if_pos (by decide), p_quo4 x i7 (by omega)]
      simp only [Option.bind_some]
      rw [wrapS (n := x / 4 + 1) (by omega) (by omega), wrapS (by omega) (by omega)]
    · rw [if_pos (by decide), p_quo4 x i7 (by omega)]
      simp only [Option.bind_some]
      rw [wrapS (n := x / 4 * 4) (by omega) (by omega), wrapS (n := x / 4 * 4 + 4) (by omega) (by omega), p_leastB, show x / 4 * 4 + 4 = (x / 4 + 1) * 4 by omega]
      rfl
  have n9 : ¬ ((r == 9) = true) := by simpa using r9
  rw [if_neg n9, if_neg n9]
  by_cases r10 : r = 10
  · subst r10
    obtain ⟨cs', y', d1, d2, d3⟩ := p_down I
    refine ⟨cs', 0, y', ?_, ?_, d3⟩
    · rw [if_pos (by decide), d1]
      rfl
    · rw [if_pos (by decide), d2]
      rfl
  have n10 : ¬ ((r == 10) = true) := by simpa using r10
  rw [if_neg n10, if_neg n10]
  by_cases r12 : r = 12
  · subst r12
    obtain ⟨d1, d2⟩ := p_newScr w h cs.length i8.symm hl
    refine ⟨List.replicate cs.length 32, 0, 0, ?_, ?_, ⟨i1, i2, i3, i4, by omega, by omega, by omega, by omega, by simpa using i8, all_blank _⟩⟩
    · rw [if_pos (by decide), d1]
      rfl
    · rw [if_pos (by decide), d2]
      rfl
  have n12 : ¬ ((r == 12) = true) := by simpa using r12
  rw [if_neg n12, if_neg n12]
  by_cases r13 : r = 13
  · subst r13
    refine ⟨cs, 0, y, ?_, ?_, ⟨i1, i2, i3, i4, by omega, by omega, i5, i6, i8, i10⟩⟩
    · rw [if_pos (by decide)]
    · rw [if_pos (by decide)]
      rfl
  have n13 : ¬ ((r == 13) = true) := by simpa using r13
  rw [if_neg n13, if_neg n13]
  by_cases r32 : r ≥ 32
  · have p32 : decide (r ≥ 32) = true := by simpa using r32
    rw [if_pos p32, if_pos p32]
    have hc : okCell r = true := by unfold okCell; rw [hr]; simp; omega
    by_cases hx : x = w
    · obtain ⟨cs', y', d1, d2, d3⟩ := p_down I
      obtain ⟨u, cs2, w1, w2, w3, w4⟩ := p_write d3 (by omega) r hc
      have hl2 := d3.len
      refine ⟨cs2, 0 + 1, y', ?_, ?_, w4⟩
      · rw [if_pos (by simpa using hx), d1]
        simp only [Option.bind_some]
        rw [w1]
        simp only [Option.bind_some]
        rw [w2, w3]
        rfl
      · rw [if_pos (by simpa using hx), d2]
        simp only [Option.bind_some]
        rw [p_own cs' (by unfold big; omega)]
        simp only [Option.bind_some]
        rw [w1]
        simp only [Option.bind_some]
        rw [w2, w3]
        rfl
    · obtain ⟨u, cs2, w1, w2, w3, w4⟩ := p_write I (by omega) r hc
      refine ⟨cs2, x + 1, y, ?_, ?_, w4⟩
      · rw [if_neg (by simpa using hx)]
        simp only [Option.bind_some]
        rw [w1]
        simp only [Option.bind_some]
        rw [w2, w3]
        rfl
      · rw [if_neg (by simpa using hx)]
        simp only [Option.bind_some]
        rw [p_own cs (by unfold big; omega)]
        simp only [Option.bind_some]
        rw [w1]
        simp only [Option.bind_some]
        rw [w2, w3]
        rfl
  · have p32 : ¬ (decide (r ≥ 32) = true) := by simpa using r32
    rw [if_neg p32, if_neg p32]
    exact ⟨cs, x, y, rfl, rfl, I⟩
theorem okScreen_inv {w h : Int} {cs : List Int} {x y : Int} (hs : okScreen w h cs x y = true) : Inv w h cs x y := by
  simp only [okScreen, Bool.and_eq_true, decide_eq_true_eq] at hs
  exact ⟨by omega, by omega, by omega, by omega, by omega, by omega, by omega, by omega, by omega, hs.2⟩
theorem p_areRunes (p : List Int) (n : Int) (hp : p.length ≤ big) : impl_areRunes.f p n = some (decide ((p.length : Int) ≤ n) && p.all okRune) := by
  unfold impl_areRunes.f slices_ContainsFunc_int_int_impl_areRunes_1.f slices_IndexFunc_int_int_impl_areRunes_1.f
  by_cases h : (p.length : Int) ≤ n
  · rw [if_pos (by simpa using h)]
    have := scan_loop p hp (fun u => !okRune u) (fun i _ => i) (slices_IndexFunc_int_int_impl_areRunes_1.l1 p) (fun k i => by rw [slices_IndexFunc_int_int_impl_areRunes_1.l1]; simp only [impl_areRunes_1.f, p_implRune, Option.bind_some]) (((p.length : Int) - 0).toNat + 2) 0 (by omega) (by omega)
    rw [show ((0 : Nat) : Int) = 0 from rfl] at this
    rw [this, List.drop_zero]
    have e : p.all okRune = !(p.any fun u => !okRune u) := List.all_eq_not_any_not
    rw [e]
    cases hf : p.findIdx? (fun u => !okRune u) with
    | none =>
      have : p.any (fun u => !okRune u) = false := by
        rw [List.findIdx?_eq_none_iff] at hf
        simpa using hf
      rw [this]; simp [h]
    | some j =>
      obtain ⟨hj, h1, h2⟩ := List.findIdx?_eq_some_iff_getElem.1 hf
      have : p.any (fun u => !okRune u) = true := List.any_eq_true.2 ⟨_, List.getElem_mem hj, h1⟩
      rw [this]
      simp [hj]
  · rw [if_neg (by simpa using h)]
    simp [h]
def marks (k : Int) (n : Nat) : List Int := (List.range n).map fun i : Nat => k + i
theorem marks_len (k : Int) (n : Nat) : (marks k n).length = n := by simp [marks]
theorem marks_get (k : Int) (n i : Nat) (h : i < n) : (marks k n)[i]? = some (k + i) := by simp [marks, h]
theorem p_puts (p : List Int) (hp : p.length ≤ big) {w h : Int} : ∀ (k i : Nat) (cs : List Int) (x y : Int), p.all okRune = true → Inv w h cs x y → i ≤ p.length → p.length - i < k → ∃ cs' x' y', impl_PutRunes.l1 p k i w h cs x y = some (w, h, cs', x', y') ∧ spec_PutRunes.l1 p k i w h cs x y = some (w, h, cs', x', y') ∧ Inv w h cs' x' y' := by
  intro k
  induction k with
  | zero => intro i _ _ _ _ _ _ h; omega
  | succ k ih =>
    intro i cs x y hg I hi hk
    rw [impl_PutRunes.l1, spec_PutRunes.l1]
    by_cases h : i < p.length
    · obtain ⟨cs1, x1, y1, d1, d2, d3⟩ := p_put I p[i] (List.all_eq_true.1 hg _ (List.getElem_mem h))
      obtain ⟨cs2, x2, y2, e1, e2, e3⟩ := ih (i + 1) cs1 x1 y1 hg d3 h (by omega)
      refine ⟨cs2, x2, y2, ?_, ?_, e3⟩
      · rw [if_pos (by simpa using h), rd?_at h]
        simp only [Option.bind_some]
        rw [d1]
        simp only [Option.bind_some]
        rw [wrapN i (by unfold big at hp; omega)]
        exact e1
      · rw [if_pos (by simpa using h), rd?_at h]
        simp only [Option.bind_some]
        rw [d2]
        simp only [Option.bind_some]
        rw [wrapN i (by unfold big at hp; omega)]
        exact e2
    · refine ⟨cs, x, y, ?_, ?_, I⟩
      · rw [if_neg (by simpa using h)]
      · rw [if_neg (by simpa using h)]
theorem p_PutRunes (w h : Int) (cs : List Int) (x y : Int) (p : List Int) (hc : cs.length ≤ big) (hp : p.length ≤ big) : ∃ r : Int × Int × List Int × Int × Int × Bool, impl_PutRunes.f w h cs x y p = some r ∧ spec_PutRunes.f w h cs x y p = some r ∧ r.2.2.1.length ≤ 1000 := by
  unfold impl_PutRunes.f spec_PutRunes.f
  simp only [p_implScreen w h cs x y hc, p_specScreen w h cs x y hc, Option.bind_some, p_allRunes p hp, p_areRunes p 1000 hp]
  have e : decide (p.length ≤ 1000) = decide ((p.length : Int) ≤ 1000) := by rw [Bool.eq_iff_iff]; simp; omega
  rw [e, Bool.and_comm]
  cases hs : okScreen w h cs x y with
  | false => exact ⟨_, rfl, rfl, by simp⟩
  | true =>
    cases hl : (p.all okRune && decide ((p.length : Int) ≤ 1000)) with
    | false => exact ⟨_, rfl, rfl, by simp⟩
    | true =>
      simp only [Bool.not_true, Bool.false_eq_true, if_false, Option.bind_some]
      have I := okScreen_inv hs
      obtain ⟨cs', x', y', d1, d2, d3⟩ := p_puts p hp (((p.length : Int) - 0).toNat + 2) 0 cs x y (by rw [Bool.and_eq_true] at hl; exact hl.1) I (by omega) (by omega)
      rw [show ((0 : Nat) : Int) = 0 from rfl] at d1 d2
      have hl := d3.len
      refine ⟨(w, h, cs', x', y', true), ?_, ?_, by simp; omega⟩
      · rw [p_clone cs hc]
        simp only [Option.bind_some]
        rw [d1]
        rfl
      · rw [d2]
        simp only [Option.bind_some]
        rw [p_own cs' (by unfold big; omega)]
        rfl
theorem p_l16New_l (w h : Int) (n : Nat) (hn : w * h = n) (hb : n ≤ 1000) : ∀ (k i : Nat), i ≤ n → n - i < k → spec_l16New.l1 w h k i (List.replicate i 32) = some (List.replicate n 32) := by
  intro k
  induction k with
  | zero => intro i _ h; omega
  | succ k ih =>
    intro i hi hk
    rw [spec_l16New.l1, hn, wrapS (by omega) (by omega)]
    by_cases h1 : i < n
    · rw [if_pos (by simpa using h1), app?_at (by simp; omega)]
      simp only [Option.bind_some]
      rw [wrapN i (by omega), show List.replicate i (32 : Int) ++ [32] = List.replicate (i + 1) 32 by rw [List.replicate_succ']]
      exact ih (i + 1) h1 (by omega)
    · rw [if_neg (by simpa using h1)]
      obtain rfl : i = n := by omega
      rfl
theorem p_NewScreen (w h : Int) : ∃ r : Int × Int × List Int × Int × Int × Bool, impl_NewScreen.f w h = some r ∧ spec_NewScreen.f w h = some r ∧ r.2.2.1.length ≤ 1000 := by
  unfold impl_NewScreen.f spec_NewScreen.f
  simp only [p_inRange, p_l1In, Option.bind_some]
  by_cases h1 : 1 ≤ w ∧ w ≤ 20
  · by_cases h2 : 1 ≤ h ∧ h ≤ 8
    · obtain ⟨m1, m2⟩ := mul_le160 h1.1 h1.2 h2.1 h2.2
      obtain ⟨n, hn⟩ := Int.eq_ofNat_of_zero_le (show 0 ≤ w * h by omega)
      have e1 := p_repeat n (by omega)
      have e2 := p_l16New_l w h n hn (by omega) (((n : Int) - 0).toNat + 2) 0 (by omega) (by omega)
      rw [show ((0 : Nat) : Int) = 0 from rfl, show List.replicate 0 (32 : Int) = [] from rfl] at e2
      have e3 : impl_newScreen.f w h = some (w, h, List.replicate n 32, 0, 0) := by
        unfold impl_newScreen.f
        rw [hn, wrapS (by omega) (by omega), e1]
        rfl
      have e4 : spec_l16New.f w h = some (w, h, List.replicate n 32, 0, 0) := by
        unfold spec_l16New.f
        rw [hn, wrapS (by omega) (by omega), e2]
        rfl
      simp only [h1, h2, e3, e4, and_self, decide_true, Bool.and_true, Bool.not_true, Bool.false_eq_true, if_false, Option.bind_some]
      exact ⟨_, rfl, rfl, by simp; omega⟩
    · have e1 : (decide (1 ≤ h) && decide (h ≤ 8)) = false := by simpa using h2
      simp [h1, e1]
  · have e1 : (decide (1 ≤ w) && decide (w ≤ 20)) = false := by simpa using h1
    simp [e1]
/-- What one rune makes of a screen. -/
def stp (w h : Int) (s : List Int × Int × Int) (r : Int) : List Int × Int × Int := match impl_Screen_put.f w h s.1 s.2.1 s.2.2 r with
  | some o => o.2.2
  | none => s
theorem stp_put {w h : Int} {s : List Int × Int × Int} (I : Inv w h s.1 s.2.1 s.2.2) {r : Int} (hr : okRune r = true) : impl_Screen_put.f w h s.1 s.2.1 s.2.2 r = some (w, h, stp w h s r) ∧ spec_l16Put.f w h s.1 s.2.1 s.2.2 r = some (w, h, stp w h s r) ∧ Inv w h (stp w h s r).1 (stp w h s r).2.1 (stp w h s r).2.2 := by
  obtain ⟨cs', x', y', d1, d2, d3⟩ := p_put I r hr
  have e : stp w h s r = (cs', x', y') := by unfold stp; rw [d1]
  rw [e]
  exact ⟨d1, d2, d3⟩
theorem p_putsF (p : List Int) (hp : p.length ≤ big) (hg : p.all okRune = true) {w h : Int} : ∀ (k i : Nat) (s : List Int × Int × Int), Inv w h s.1 s.2.1 s.2.2 → i ≤ p.length → p.length - i < k →
    impl_PutRunes.l1 p k i w h s.1 s.2.1 s.2.2 = some (w, h, (p.drop i).foldl (stp w h) s) ∧ spec_PutRunes.l1 p k i w h s.1 s.2.1 s.2.2 = some (w, h, (p.drop i).foldl (stp w h) s) ∧ Inv w h ((p.drop i).foldl (stp w h) s).1 ((p.drop i).foldl (stp w h) s).2.1 ((p.drop i).foldl (stp w h) s).2.2 := by
  intro k
  induction k with
  | zero => intro i s _ _ h; omega
  | succ k ih =>
    intro i s I hi hk
    rw [impl_PutRunes.l1, spec_PutRunes.l1]
    by_cases h : i < p.length
    · obtain ⟨d1, d2, d3⟩ := stp_put I (List.all_eq_true.1 hg _ (List.getElem_mem h))
      have := ih (i + 1) (stp w _ s p[i]) d3 h (by omega)
      rw [List.drop_eq_getElem_cons h, List.foldl_cons]
      rw [if_pos (by simpa using h), if_pos (by simpa using h), rd?_at h]
      simp only [Option.bind_some, d1, d2]
      rw [wrapN i (by unfold big at hp; omega)]
      exact this
    · rw [if_neg (by simpa using h), if_neg (by simpa using h), List.drop_of_length_le (by omega)]
      exact ⟨rfl, rfl, I⟩
theorem inv_ok {w h : Int} {cs : List Int} {x y : Int} (I : Inv w h cs x y) : okScreen w h cs x y = true := by
  have := I.w0; have := I.w1; have := I.h0; have := I.h1; have := I.x0; have := I.x1; have := I.y0; have := I.y1; have := I.c
  simp only [okScreen, Bool.and_eq_true, decide_eq_true_eq]
  exact ⟨by omega, I.g⟩
theorem p_PutRunesF {w h : Int} {cs : List Int} {x y : Int} {p : List Int} (hs : okScreen w h cs x y = true) (hg : p.all okRune = true) (hl : p.length ≤ 1000) : ∃ t : List Int × Int × Int, t = p.foldl (stp w h) (cs, x, y) ∧ impl_PutRunes.f w h cs x y p = some (w, h, t.1, t.2.1, t.2.2, true) ∧ spec_PutRunes.f w h cs x y p = some (w, h, t.1, t.2.1, t.2.2, true) ∧ Inv w h t.1 t.2.1 t.2.2 := by
  have I := okScreen_inv hs
  have hc : cs.length ≤ big := by have := I.len; unfold big; omega
  have hp : p.length ≤ big := by unfold big; omega
  obtain ⟨d1, d2, d3⟩ := p_putsF p hp hg (((p.length : Int) - 0).toNat + 2) 0 (cs, x, y) I (by omega) (by omega)
  rw [show ((0 : Nat) : Int) = 0 from rfl] at d1 d2
  rw [List.drop_zero] at d1 d2 d3
  refine ⟨_, rfl, ?_, ?_, d3⟩
  · unfold impl_PutRunes.f
    simp only [p_implScreen w h cs x y hc, Option.bind_some, p_areRunes p 1000 hp, hs, hg]
    have e : decide ((p.length : Int) ≤ 1000) = true := by simp; omega
    simp only [e, Bool.and_self, Bool.not_true, Bool.false_eq_true, if_false, Option.bind_some]
    rw [p_clone cs hc]
    simp only [Option.bind_some]
    rw [d1]
    rfl
  · unfold spec_PutRunes.f
    simp only [p_specScreen w h cs x y hc, Option.bind_some, p_allRunes p hp, hs, hg]
    have e : decide (p.length ≤ 1000) = true := by simp; omega
    simp only [e, Bool.and_self, Bool.not_true, Bool.false_eq_true, if_false, Option.bind_some]
    rw [d2]
    simp only [Option.bind_some]
    rw [p_own _ (by have := d3.len; unfold big; omega)]
    rfl
theorem p_shown (code : List Int) (hc : allW (inK .u8) code) (a s : Int) (m : Nat) (hm : m ≤ 100) (h0 : 0 ≤ a) (h1 : a ≤ 10000000000) : ∃ (l : List Int) (a' s' : Int), spec_l1Cur_shown.f code a s (m : Int) = some (l, a', s') ∧ l.length ≤ 200 ∧ a ≤ a' ∧ a' ≤ a + 1000 := by
  unfold spec_l1Cur_shown.f
  rw [wrapN m (by omega)]
  obtain ⟨n, a1, s1, e1, n0, n1, _, _, x1, y1⟩ := p_pick code hc a s ((m + 1 : Nat) : Int) h0 (by omega)
  rw [e1]
  simp only [Option.bind_some]
  obtain ⟨n, rfl⟩ := Int.eq_ofNat_of_zero_le n0
  have hn : n ≤ 100 := by have := n1 (by omega); omega
  have key : ∀ (n f : Nat) (l : List Int) (a s : Int), n < f → 0 ≤ a → a + 2 * n ≤ 100000000000 → l.length + n ≤ 150 → ∃ (l' : List Int) (a' s' : Int), spec_l1Cur_shown.l1 code f l (n : Int) a s = some (l', a', s') ∧ l'.length ≤ 150 ∧ a ≤ a' ∧ a' ≤ a + 2 * n := by
    intro n
    induction n with
    | zero =>
      intro f l a s hf _ _ hl
      obtain ⟨f, rfl⟩ := Nat.exists_eq_succ_of_ne_zero (show f ≠ 0 by omega)
      rw [spec_l1Cur_shown.l1, if_neg (by simp)]
      exact ⟨l, a, s, rfl, by omega, by omega, by omega⟩
    | succ n ih =>
      intro f l a s hf ha ha2 hl
      obtain ⟨f, rfl⟩ := Nat.exists_eq_succ_of_ne_zero (show f ≠ 0 by omega)
      rw [spec_l1Cur_shown.l1, if_pos (by simp <;> omega)]
      obtain ⟨r, a1, s1, e1, _, x1, y1⟩ := p_among code hc a s [97, 98, 99, 32, 97, 98, 10, 13, 8, 9, 12354, 7] (by simp) ha (by omega)
      rw [e1]
      simp only [Option.bind_some]
      rw [app?_at (by simp; omega)]
      simp only [Option.bind_some]
      rw [wrapS (n := ((n + 1 : Nat) : Int) - 1) (by omega) (by omega), show ((n + 1 : Nat) : Int) - 1 = (n : Int) by omega]
      obtain ⟨l', a', s', e', g1, g2, g3⟩ := ih f (l ++ [r]) a1 s1 (by omega) (by omega) (by omega) (by simp; omega)
      exact ⟨l', a', s', e', g1, by omega, by omega⟩
  obtain ⟨l, a2, s2, e2, g1, x2, y2⟩ := key n (((n : Int) - 0).toNat + 2) [] a1 s1 (by omega) (by omega) (by omega) (by simp; omega)
  rw [e2]
  simp only [Option.bind_some]
  obtain ⟨b, a3, s3, e3, x3, y3⟩ := p_one code hc a2 s2 20 (by omega) (by omega)
  rw [e3]
  simp only [Option.bind_some]
  cases b with
  | true =>
    simp only [if_true]
    rw [app?_at (by simp; omega)]
    exact ⟨_, a3, s3, rfl, by simp; omega, by omega, by omega⟩
  | false => exact ⟨l, a3, s3, rfl, by omega, by omega, by omega⟩
theorem p_newOk {w h : Int} (hw : 1 ≤ w ∧ w ≤ 20) (hh : 1 ≤ h ∧ h ≤ 8) : ∃ n : Nat, w * h = n ∧ 1 ≤ n ∧ n ≤ 160 ∧ spec_NewScreen.f w h = some (w, h, List.replicate n 32, 0, 0, true) ∧ impl_NewScreen.f w h = some (w, h, List.replicate n 32, 0, 0, true) := by
  obtain ⟨m1, m2⟩ := mul_le160 hw.1 hw.2 hh.1 hh.2
  obtain ⟨n, hn⟩ := Int.eq_ofNat_of_zero_le (show 0 ≤ w * h by omega)
  have hn1 : 1 ≤ n := by
    have : 1 * 1 ≤ w * h := Int.mul_le_mul hw.1 hh.1 (by omega) (by omega)
    omega
  obtain ⟨e1, e2⟩ := p_newScr w h n hn (by omega)
  refine ⟨n, hn, hn1, by omega, ?_, ?_⟩
  · unfold spec_NewScreen.f
    simp [p_l1In, hw, hh, e2]
  · unfold impl_NewScreen.f
    simp [p_inRange, hw, hh, e1]
theorem p_screen (code : List Int) (hc : allW (inK .u8) code) (a s : Int) (h0 : 0 ≤ a) (h1 : a ≤ 1000000) : ∃ (w h : Int) (cs : List Int) (x y a' s' : Int), spec_l1Cur_screen.f code a s = some (w, h, cs, x, y, a', s') ∧ cs.length ≤ 1000 ∧ a ≤ a' ∧ a' ≤ a + 10000 := by
  unfold spec_l1Cur_screen.f
  obtain ⟨r1, a1, s1, e1, p1, q1, _, _, x1, y1⟩ := p_pick code hc a s 6 (by omega) (by omega)
  rw [e1]
  simp only [Option.bind_some]
  obtain ⟨r2, a2, s2, e2, p2, q2, _, _, x2, y2⟩ := p_pick code hc a1 s1 4 (by omega) (by omega)
  rw [e2]
  simp only [Option.bind_some]
  have q1 := q1 (by omega)
  have q2 := q2 (by omega)
  rw [wrapS (n := 1 + r1) (by omega) (by omega), wrapS (n := 1 + r2) (by omega) (by omega)]
  obtain ⟨n, hn, n1, n2, eN, _⟩ := p_newOk (w := 1 + r1) (h := 1 + r2) (by omega) (by omega)
  rw [eN]
  simp only [Option.bind_some]
  obtain ⟨l, a3, s3, e3, l3, x3, y3⟩ := p_shown code hc a2 s2 12 (by omega) (by omega) (by omega)
  rw [show ((12 : Nat) : Int) = 12 from rfl] at e3
  rw [e3]
  simp only [Option.bind_some]
  have hok : okScreen (1 + r1) (1 + r2) (List.replicate n 32) 0 0 = true := by
    simp only [okScreen, Bool.and_eq_true, decide_eq_true_eq, List.length_replicate]
    exact ⟨by omega, all_blank n⟩
  have hP : ∃ r : Int × Int × List Int × Int × Int × Bool, spec_PutRunes.f (1 + r1) (1 + r2) (List.replicate n 32) 0 0 l = some r ∧ (r.2.2.2.2.2 = true → r.2.2.1.length ≤ 1000 ∧ 1 ≤ r.2.2.1.length ∧ 0 ≤ r.1 ∧ r.1 ≤ 1000) := by
    cases hl : (l.all okRune) with
    | true =>
      obtain ⟨t, _, _, e, I⟩ := p_PutRunesF (p := l) hok hl (by omega)
      refine ⟨_, e, fun _ => ?_⟩
      have i1 := I.len
      have i2 := I.c
      show t.1.length ≤ 1000 ∧ 1 ≤ t.1.length ∧ _
      refine ⟨by omega, by omega, by show 0 ≤ 1 + r1; omega, by show 1 + r1 ≤ 1000; omega⟩
    | false =>
      obtain ⟨r, _, e, _⟩ := p_PutRunes (1 + r1) (1 + r2) (List.replicate n 32) 0 0 l (by unfold big; simp; omega) (by unfold big; omega)
      refine ⟨r, e, fun hr => ?_⟩
      unfold spec_PutRunes.f at e
      rw [p_specScreen _ _ _ _ _ (by unfold big; simp; omega)] at e
      simp only [Option.bind_some, p_allRunes l (by unfold big; omega), hok, hl, Bool.false_and, Bool.not_true, Bool.false_eq_true, if_false, Bool.not_false, if_true, Option.some.injEq] at e
      rw [← e] at hr
      cases hr
  obtain ⟨r, eP, hP⟩ := hP
  rw [eP]
  simp only [Option.bind_some]
  have key : ∃ (w h : Int) (cs : List Int) (x y : Int), (if r.2.2.2.2.2 = true then some (a3, s3, r.1, r.2.1, r.2.2.1, r.2.2.2.1, r.2.2.2.2.1) else some (a3, s3, 1 + r1, 1 + r2, List.replicate n 32, 0, 0)) = some (a3, s3, w, h, cs, x, y) ∧ cs.length ≤ 1000 ∧ 1 ≤ cs.length ∧ 0 ≤ w ∧ w ≤ 1000 := by
    cases hr : r.2.2.2.2.2 with
    | true =>
      exact ⟨r.1, r.2.1, r.2.2.1, r.2.2.2.1, r.2.2.2.2.1, rfl, hP hr⟩
    | false => exact ⟨_, _, _, _, _, rfl, by simp; omega, by simp; omega, by omega, by omega⟩
  obtain ⟨w, h, cs, x, y, e4, c1, c2, w0, w1⟩ := key
  rw [e4]
  simp only [Option.bind_some]
  obtain ⟨v, a5, s5, e5, _, _, _, _, x5, y5⟩ := p_pick code hc a3 s3 40 (by omega) (by omega)
  rw [e5]
  simp only [Option.bind_some]
  by_cases v0 : (v == 0) = true
  · rw [if_pos v0]
    exact ⟨w, h, cs, _, y, a5, s5, rfl, c1, by omega, by omega⟩
  · rw [if_neg v0]
    by_cases v1 : (v == 1) = true
    · rw [if_pos v1]
      obtain ⟨u, a6, s6, e6, _, x6, y6⟩ := p_among code hc a5 s5 [7, 55296] (by simp) (by omega) (by omega)
      rw [e6]
      simp only [Option.bind_some]
      have k1 := rd?_at (xs := cs) (i := 0) (by omega)
      have k2 := st?_at (xs := cs) (i := 0) u (by omega)
      rw [show ((0 : Nat) : Int) = 0 from rfl] at k1 k2
      rw [k1]
      simp only [Option.bind_some]
      rw [k2]
      exact ⟨w, h, _, x, y, a6, s6, rfl, by simpa using c1, by omega, by omega⟩
    · rw [if_neg v1]
      exact ⟨w, h, cs, x, y, a5, s5, rfl, c1, by omega, by omega⟩
theorem p_PutRune (w h : Int) (cs : List Int) (x y : Int) (p : Int) (hc : cs.length ≤ big) : ∃ r : Int × Int × List Int × Int × Int × Bool, impl_PutRune.f w h cs x y p = some r ∧ spec_PutRune.f w h cs x y p = some r ∧ r.2.2.1.length ≤ 1000 := by
  unfold impl_PutRune.f impl_PutRunes.f spec_PutRune.f
  simp only [p_implScreen w h cs x y hc, p_specScreen w h cs x y hc, Option.bind_some, p_specRune, p_areRunes [p] 1000 (by unfold big; simp)]
  have e : (decide ((([p] : List Int).length : Int) ≤ 1000) && [p].all okRune) = okRune p := by simp
  rw [e]
  cases hs : okScreen w h cs x y with
  | false => exact ⟨_, rfl, rfl, by simp⟩
  | true =>
    cases hl : okRune p with
    | false => exact ⟨_, rfl, rfl, by simp⟩
    | true =>
      simp only [Bool.not_true, Bool.false_eq_true, if_false, Option.bind_some]
      have I := okScreen_inv hs
      obtain ⟨cs', x', y', d1, d2, d3⟩ := p_put I p hl
      have hl3 := d3.len
      have k1 : impl_PutRunes.l1 [p] 3 0 w h cs x y = some (w, h, cs', x', y') := by
        rw [impl_PutRunes.l1, if_pos (by simp), show rd? [p] 0 = some p from rd?_at (xs := [p]) (i := 0) (by simp)]
        simp only [Option.bind_some]
        rw [d1]
        simp only [Option.bind_some]
        rw [show IntKind.i64.wrap (0 + 1) = 1 by decide, impl_PutRunes.l1, if_neg (by simp)]
      refine ⟨(w, h, cs', x', y', true), ?_, ?_, by simp; omega⟩
      · rw [p_clone cs hc]
        simp only [Option.bind_some]
        show Option.bind (Option.bind (impl_PutRunes.l1 [p] 3 0 w h cs x y) _) _ = _
        rw [k1]
        rfl
      · rw [d2]
        simp only [Option.bind_some]
        rw [p_own cs' (by unfold big; omega)]
        rfl
theorem p_sameInts (p q : List Int) (hp : p.length ≤ big) : laws_sameInts.f p q = some (decide (p = q)) :=
  eq_all p q hp (laws_sameInts.l1 p q) _ (by omega) fun _ _ _ => rfl
theorem p_big (p q : List Int) (hp : p.length ≤ maxN) : laws_big.f p q = some (decide ((p.length : Int) + q.length > 1048576)) := by
  unfold laws_big.f
  unfold maxN at hp
  by_cases h : (p.length : Int) > 1048576
  · rw [if_pos (by simpa using h)]
    simp; omega
  · rw [if_neg (by simpa using h), wrapS (by omega) (by omega)]
    congr 1
    rw [Bool.eq_iff_iff]
    simp; omega
theorem p_numberOf (p : List Int) (hp : p.length ≤ big) (hb : allW (inK .u8) p) : ∃ n : Int, laws_numberOf.f p = some n ∧ 0 ≤ n ∧ n < 1000003 := by
  unfold laws_numberOf.f
  have key : ∀ (k i : Nat) (x : Int), i ≤ p.length → p.length - i < k → 0 ≤ x → x < 1000003 → ∃ n, laws_numberOf.l1 p k x i = some n ∧ 0 ≤ n ∧ n < 1000003 := by
    intro k
    induction k with
    | zero => intro i x _ h; omega
    | succ k ih =>
      intro i x hi hk h0 h1
      rw [laws_numberOf.l1]
      by_cases h : i < p.length
      · have hu : -0 ≤ p[i] ∧ p[i] ≤ 255 := hb.2 _ (List.getElem_mem h)
        rw [if_pos (by simpa using h), rd?_at h]
        simp only [Option.bind_some]
        rw [wrapS (n := 31 * x) (by omega) (by omega), wrapS (n := p[i]) (by omega) (by omega), wrapS (by omega) (by omega)]
        have hr : rem? (31 * x + p[i]) 1000003 = some ((31 * x + p[i]) % 1000003) := by
          unfold rem?
          rw [if_neg (by decide), Int.tmod_eq_emod_of_nonneg (by omega)]
        rw [hr]
        simp only [Option.bind_some]
        rw [wrapN i (by unfold big at hp; omega)]
        exact ih (i + 1) _ h (by omega) (by omega) (by omega)
      · rw [if_neg (by simpa using h)]
        exact ⟨x, rfl, h0, h1⟩
  obtain ⟨n, e, h0, h1⟩ := key (((p.length : Int) - 0).toNat + 2) 0 0 (by omega) (by omega) (by omega) (by omega)
  rw [show ((0 : Nat) : Int) = 0 from rfl] at e
  rw [e]
  exact ⟨n, rfl, h0, h1⟩
theorem p_sameScreen (w h : Int) (cs : List Int) (x y : Int) (hc : cs.length ≤ big) : laws_sameScreen.f w h cs x y w h cs x y = some true := by
  unfold laws_sameScreen.f
  rw [p_sameInts cs cs hc]
  simp
theorem law_Screen (p q : List Int) (hpb : allW (inK .u8) p) (hqb : allW (inK .u8) q) : laws_FnScreen.f p q = some true := by
  unfold laws_FnScreen.f
  rw [p_big p q hpb.1]
  simp only [Option.bind_some]
  by_cases hb : (p.length : Int) + q.length > 1048576
  · rw [if_pos (by simpa using hb)]
  rw [if_neg (by simpa using hb)]
  have hq : q.length ≤ big := by unfold big; omega
  -- what is drawn
  have hD : ∃ (w h : Int) (cs : List Int) (x y : Int) (l : List Int), spec_DrawPutRunes.f p = some (w, h, cs, x, y, l) ∧ cs.length ≤ 1000 ∧ l.length ≤ 200 := by
    unfold spec_DrawPutRunes.f
    obtain ⟨w, h, cs, x, y, a1, s1, e1, c1, b1, b2⟩ := p_screen p hpb 0 0 (by omega) (by omega)
    rw [e1]
    simp only [Option.bind_some]
    obtain ⟨l, a2, s2, e2, l1, _, _⟩ := p_shown p hpb a1 s1 12 (by omega) (by omega) (by omega)
    rw [show ((12 : Nat) : Int) = 12 from rfl] at e2
    rw [e2]
    exact ⟨w, h, cs, x, y, l, rfl, c1, l1⟩
  obtain ⟨w, h, cs, x, y, l, eD, c1, l1⟩ := hD
  have hD2 : ∃ (w h : Int) (cs : List Int) (x y : Int) (r : Int), spec_DrawPutRune.f q = some (w, h, cs, x, y, r) ∧ cs.length ≤ 1000 := by
    unfold spec_DrawPutRune.f
    obtain ⟨w, h, cs, x, y, a1, s1, e1, c1, b1, b2⟩ := p_screen q hqb 0 0 (by omega) (by omega)
    rw [e1]
    simp only [Option.bind_some]
    obtain ⟨l, a2, s2, e2, l1, b3, b4⟩ := p_shown q hqb a1 s1 1 (by omega) (by omega) (by omega)
    rw [show ((1 : Nat) : Int) = 1 from rfl] at e2
    rw [e2]
    simp only [Option.bind_some]
    by_cases hl : (l.length : Int) > 0
    · rw [if_pos (by simpa using hl)]
      have k1 := rd?_at (xs := l) (i := 0) (by omega)
      rw [show ((0 : Nat) : Int) = 0 from rfl] at k1
      rw [k1]
      exact ⟨w, h, cs, x, y, _, rfl, c1⟩
    · rw [if_neg (by simpa using hl)]
      obtain ⟨u, a3, s3, e3, _, _, _⟩ := p_among q hqb a2 s2 [-1, 12, 55296, 31] (by simp) (by omega) (by omega)
      rw [e3]
      exact ⟨w, h, cs, x, y, u, rfl, c1⟩
  obtain ⟨w2, h2, cs2, x2, y2, r2, eD2, c2⟩ := hD2
  have hD3 : ∃ (w h : Int), spec_DrawNewScreen.f q = some (w, h) := by
    unfold spec_DrawNewScreen.f
    obtain ⟨u, a3, s3, e3, _, b1, b2⟩ := p_among q hqb 0 0 [1, 2, 5, 20, 21, 0] (by simp) (by omega) (by omega)
    rw [e3]
    simp only [Option.bind_some]
    obtain ⟨v, a4, s4, e4, _, _, _⟩ := p_among q hqb a3 s3 [1, 2, 3, 8, 9, 0] (by simp) (by omega) (by omega)
    rw [e4]
    exact ⟨u, v, rfl⟩
  obtain ⟨w3, h3, eD3⟩ := hD3
  have hc : cs.length ≤ big := by unfold big; omega
  -- the last part
  have last : ((spec_DrawPutRune.f q).bind fun u282 => (impl_PutRune.f u282.1 u282.2.1 u282.2.2.1 u282.2.2.2.1 u282.2.2.2.2.1 u282.2.2.2.2.2).bind fun u287 => (spec_PutRune.f u282.1 u282.2.1 u282.2.2.1 u282.2.2.2.1 u282.2.2.2.2.1 u282.2.2.2.2.2).bind fun u292 => (spec_DrawNewScreen.f q).bind fun u297 => (impl_NewScreen.f u297.1 u297.2).bind fun u299 => (spec_NewScreen.f u297.1 u297.2).bind fun u304 => if (u287.2.2.2.2.2 == u292.2.2.2.2.2) = true then ((laws_sameScreen.f u287.1 u287.2.1 u287.2.2.1 u287.2.2.2.1 u287.2.2.2.2.1 u292.1 u292.2.1 u292.2.2.1 u292.2.2.2.1 u292.2.2.2.2.1).bind fun u310 => if u310 = true then (if (u299.2.2.2.2.2 == u304.2.2.2.2.2) = true then ((laws_sameScreen.f u299.1 u299.2.1 u299.2.2.1 u299.2.2.2.1 u299.2.2.2.2.1 u304.1 u304.2.1 u304.2.2.1 u304.2.2.2.1 u304.2.2.2.2.1).bind fun u313 => some u313) else (some false)) else (some false)) else (some false)) = some true := by
    rw [eD2]
    simp only [Option.bind_some]
    obtain ⟨r, f1, f2, f3⟩ := p_PutRune w2 h2 cs2 x2 y2 r2 (by unfold big; omega)
    obtain ⟨t, g1, g2, g3⟩ := p_NewScreen w3 h3
    rw [f1, f2, eD3]
    simp only [Option.bind_some]
    rw [g1, g2]
    simp only [Option.bind_some, beq_self_eq_true, if_true]
    rw [p_sameScreen _ _ _ _ _ (by unfold big; omega), p_sameScreen _ _ _ _ _ (by unfold big; omega)]
    rfl
  rw [eD]
  simp only [Option.bind_some]
  obtain ⟨r, f1, f2, f3⟩ := p_PutRunes w h cs x y l hc (by unfold big; omega)
  rw [f1, f2]
  simp only [Option.bind_some, bne_self_eq_false, Bool.false_eq_true, if_false]
  rw [p_sameScreen _ _ _ _ _ (by unfold big; omega), p_implScreen w h cs x y hc, p_specScreen w h cs x y hc]
  simp only [Option.bind_some, bne_self_eq_false, Bool.not_true, Bool.false_eq_true, if_false]
  by_cases hg : okScreen w h cs x y = true ∧ l.all okRune = true
  case neg =>
    have hr : r.2.2.2.2.2 = false := by
      unfold impl_PutRunes.f at f1
      have e : decide ((l.length : Int) ≤ 1000) = true := by simp; omega
      simp only [p_implScreen w h cs x y hc, Option.bind_some, p_areRunes l 1000 (by unfold big; omega), e] at f1
      cases hs : okScreen w h cs x y with
      | false =>
        rw [hs] at f1
        simp only [Bool.not_false, if_true, Option.bind_some, Option.some.injEq] at f1
        rw [← f1]
      | true =>
        cases hl : l.all okRune with
        | true => exact absurd ⟨hs, hl⟩ hg
        | false =>
          rw [hs, hl] at f1
          simp only [Bool.and_false, Bool.not_true, Bool.false_eq_true, if_false, Bool.not_false, if_true, Option.bind_some, Option.some.injEq] at f1
          rw [← f1]
    rw [hr]
    simp only [Bool.false_eq_true, if_false, Option.bind_some]
    exact last
  obtain ⟨hs, hl⟩ := hg
  obtain ⟨t, ht, e1, _, I⟩ := p_PutRunesF hs hl (by omega)
  have hr : r = (w, h, t.1, t.2.1, t.2.2, true) := Option.some.inj (f1.symm.trans e1)
  rw [hr]
  simp only [if_true]
  obtain ⟨n, en, n0, n1⟩ := p_numberOf q hq hqb
  rw [en]
  simp only [Option.bind_some]
  rw [wrapS (n := (l.length : Int) + 1) (by omega) (by omega)]
  have hrm : rem? n ((l.length : Int) + 1) = some (n % ((l.length : Int) + 1)) := by
    unfold rem?
    rw [if_neg (by omega), Int.tmod_eq_emod_of_nonneg n0]
  rw [hrm]
  simp only [Option.bind_some]
  have hk0 := Int.emod_nonneg n (show ((l.length : Int) + 1) ≠ 0 by omega)
  have hk1 := Int.emod_lt_of_pos n (show 0 < ((l.length : Int) + 1) by omega)
  obtain ⟨k, hk⟩ := Int.eq_ofNat_of_zero_le hk0
  rw [hk] at hk1 ⊢
  have hkl : k ≤ l.length := by omega
  have a1 : (l.take k).all okRune = true := List.all_eq_true.2 fun u hu => List.all_eq_true.1 hl u (List.mem_of_mem_take hu)
  have a2 : (l.drop k).all okRune = true := List.all_eq_true.2 fun u hu => List.all_eq_true.1 hl u (List.mem_of_mem_drop hu)
  obtain ⟨t1, ht1, g1, _, I1⟩ := p_PutRunesF hs a1 (by simp; omega)
  obtain ⟨t2, ht2, g2, _, _⟩ := p_PutRunesF (inv_ok I1) a2 (by simp; omega)
  have h12 : t2 = t := by
    rw [ht2, ht1, ht, ← List.foldl_append, List.take_append_drop]
  subst h12
  have hlt := I.len
  have htb : t2.1.length ≤ big := by unfold big; omega
  rw [cut0 hkl, cutE hkl]
  simp only [Option.bind_some]
  rw [g1]
  simp only [Option.bind_some]
  rw [g2]
  simp only [Option.bind_some, Bool.not_true, Bool.false_eq_true, if_false]
  rw [p_sameScreen _ _ _ _ _ htb, p_implScreen _ _ _ _ _ htb, inv_ok I]
  simp only [Option.bind_some, Bool.not_true, Bool.false_eq_true, if_false]
  -- a new page
  have okS := inv_ok I
  obtain ⟨t3, ht3, g3, _, _⟩ := p_PutRunesF (p := [12]) okS (by decide) (by simp)
  obtain ⟨m, hm, m1, m2, _, eN⟩ := p_newOk (w := w) (h := h) ⟨I.w0, I.w1⟩ ⟨I.h0, I.h1⟩
  have hst : t3 = (List.replicate m 32, 0, 0) := by
    rw [ht3]
    show stp w h _ 12 = _
    unfold stp impl_Screen_put.f
    have := (p_newScr w h m hm (by omega)).1
    simp [this]
  have hP : impl_PutRune.f w h t2.1 t2.2.1 t2.2.2 12 = some (w, h, t3.1, t3.2.1, t3.2.2, true) := by
    unfold impl_PutRune.f
    rw [g3]
    rfl
  rw [hP, eN, hst]
  simp only [Option.bind_some, Bool.not_true, Bool.false_eq_true, if_false]
  rw [p_sameScreen _ _ _ _ _ (by unfold big; simp; omega)]
  simp only [Option.bind_some, Bool.not_true, Bool.false_eq_true, if_false]
  exact last
end Go.Proofs.Ytkieinlcpkpcjaa
