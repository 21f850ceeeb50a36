/- Plain laws of the printed functions. Conditions as each lemma says. -/
import Derived.Test.YtihocjbngajjkaaPB
import Derived.Test.YtihocjbngajjkaaWNewScreen0
set_option linter.unusedVariables false
set_option linter.unusedSimpArgs false
namespace Go.Proofs.Ytihocjbngajjkaa
open Go Go.Proofs.GL
theorem p_l1In (a b c : Int) : spec_l1In.f a b c = some (decide (b ≤ a) && decide (a ≤ c)) := by
  unfold spec_l1In.f
  by_cases h : b ≤ a
  · rw [if_pos (by simpa using h)]; simp [h]
  · rw [if_neg (by simpa using h)]; simp [h]
theorem p_inRange (a b c : Int) : impl_inRange.f a b c = some (decide (b ≤ a) && decide (a ≤ c)) := by
  unfold impl_inRange.f
  by_cases h : b ≤ a
  · rw [if_pos (by simpa using h)]; simp [h]
  · rw [if_neg (by simpa using h)]; simp [h]
theorem mul_le160 {w h : Int} (h1 : 1 ≤ w) (h2 : w ≤ 20) (h3 : 1 ≤ h) (h4 : h ≤ 8) : 1 ≤ w * h ∧ w * h ≤ 160 := by
  have a := Int.mul_le_mul h2 h4 (by omega) (by omega)
  have b := Int.mul_le_mul h1 h3 (by omega) (by omega)
  omega
theorem p_eqIntS (p q : List Int) (hp : p.length ≤ big) : laws_eqIntS.f p q = some (decide (p = q)) :=
  eq_all p q hp (laws_eqIntS.l1 p q) _ (by omega) fun _ _ _ => rfl
theorem p_eqScreen (w h : Int) (cs : List Int) (x y : Int) (hp : cs.length ≤ big) : laws_eqScreen.f w h cs x y w h cs x y = some true := by
  unfold laws_eqScreen.f
  rw [p_eqIntS cs cs hp]
  simp
def marks (k : Int) (n : Nat) : List Int := (List.range n).map fun i : Nat => k + i
theorem marks_len (k : Int) (n : Nat) : (marks k n).length = n := by simp [marks]
theorem marks_get (k : Int) (n i : Nat) (h : i < n) : (marks k n)[i]? = some (k + i) := by simp [marks, h]
theorem p_markIntS_l (p : List Int) (k0 : Int) (h0 : 0 ≤ k0) (h1 : k0 ≤ 1000000000000) (hp : p.length ≤ big) : ∀ (k i : Nat) (x : List Int), i ≤ p.length → p.length - i < k → x.length = p.length → x.take i = (marks k0 p.length).take i → laws_markIntS.l1 p k x (k0 + i) i = some (k0 + p.length, marks k0 p.length) := by
  intro k
  induction k with
  | zero => intro i x _ h; omega
  | succ k ih =>
    intro i x hi hk hl ht
    rw [laws_markIntS.l1]
    by_cases h : i < p.length
    · rw [if_pos (by simpa using h), rd?_at (by omega : i < x.length)]
      simp only [Option.bind_some]
      rw [st?_at _ (by omega : i < x.length)]
      simp only [Option.bind_some]
      unfold big at hp
      rw [wrapN i (by omega), wrapS (by omega) (by omega), show k0 + (i : Int) + 1 = k0 + ((i + 1 : Nat) : Int) by omega]
      refine ih (i + 1) _ h (by omega) (by simpa using hl) ?_
      rw [List.take_add_one, List.take_add_one, List.take_set_of_le (Nat.le_refl i), ht, marks_get _ _ _ h]
      simp [h, hl]
    · rw [if_neg (by simpa using h)]
      obtain rfl : i = p.length := by omega
      rw [List.take_of_length_le (l := x) (by omega), List.take_of_length_le (l := marks k0 p.length) (by rw [marks_len]; omega)] at ht
      rw [ht]
theorem p_markIntS (p : List Int) (k0 : Int) (h0 : 0 ≤ k0) (h1 : k0 ≤ 1000000000000) (hp : p.length ≤ big) : laws_markIntS.f p k0 = some (k0 + p.length, marks k0 p.length) := by
  unfold laws_markIntS.f
  have := p_markIntS_l p k0 h0 h1 hp (((p.length : Int) - 0).toNat + 2) 0 p (by omega) (by omega) rfl (by simp)
  rw [show ((0 : Nat) : Int) = 0 from rfl, Int.add_zero] at this
  rw [this]
  rfl
theorem p_heldIntS_l (n : Nat) (k0 : Int) (h0 : 0 ≤ k0) (h1 : k0 ≤ 1000000000000) (hp : n ≤ big) : ∀ (k i : Nat), i ≤ n → n - i < k → laws_heldIntS.l1 (marks k0 n) k (k0 + i) i = some (.go (k0 + n)) := by
  intro k
  induction k with
  | zero => intro i _ h; omega
  | succ k ih =>
    intro i hi hk
    rw [laws_heldIntS.l1, marks_len]
    by_cases h : i < n
    · have hm := rd?_at (xs := marks k0 n) (i := i) (by rw [marks_len]; exact h)
      have hg : (marks k0 n)[i]'(by rw [marks_len]; exact h) = k0 + i := by simp [marks]
      rw [if_pos (by simpa using h), hm, hg]
      simp only [Option.bind_some]
      unfold big at hp
      rw [if_neg (by simp), wrapN i (by omega), wrapS (by omega) (by omega), show k0 + (i : Int) + 1 = k0 + ((i + 1 : Nat) : Int) by omega]
      exact ih (i + 1) h (by omega)
    · rw [if_neg (by simpa using h)]
      obtain rfl : i = n := by omega
      rfl
theorem p_heldIntS (n : Nat) (k0 : Int) (h0 : 0 ≤ k0) (h1 : k0 ≤ 1000000000000) (hp : n ≤ big) : laws_heldIntS.f (marks k0 n) k0 = some (k0 + n) := by
  unfold laws_heldIntS.f
  have := p_heldIntS_l n k0 h0 h1 hp ((((marks k0 n).length : Int) - 0).toNat + 2) 0 (by omega) (by rw [marks_len]; omega)
  rw [show ((0 : Nat) : Int) = 0 from rfl, Int.add_zero] at this
  rw [this]
  rfl
theorem p_repeat : ∀ n : Nat, n < 161 → slices_Repeat_int_int.f [32] (n : Int) = some (List.replicate n 32) := by decide +kernel
theorem p_l16New_l (w h : Int) (n : Nat) (hn : w * h = n) (hb : n ≤ 1000) : ∀ (k i : Nat), i ≤ n → n - i < k → spec_l16New.l1 w h k i (List.replicate i 32) = some (List.replicate n 32) := by
  intro k
  induction k with
  | zero => intro i _ h; omega
  | succ k ih =>
    intro i hi hk
    rw [spec_l16New.l1, hn, wrapS (by omega) (by omega)]
    by_cases h1 : i < n
    · rw [if_pos (by simpa using h1), app?_at (by simp; omega)]
      simp only [Option.bind_some]
      rw [wrapN i (by omega), show List.replicate i (32 : Int) ++ [32] = List.replicate (i + 1) 32 by rw [List.replicate_succ']]
      exact ih (i + 1) h1 (by omega)
    · rw [if_neg (by simpa using h1)]
      obtain rfl : i = n := by omega
      rfl
theorem p_NewScreen (w h : Int) : ∃ r : Int × Int × List Int × Int × Int × Bool, impl_NewScreen.f w h = some r ∧ spec_NewScreen.f w h = some r ∧ r.2.2.1.length ≤ 1000 := by
  unfold impl_NewScreen.f spec_NewScreen.f
  simp only [p_inRange, p_l1In, Option.bind_some]
  by_cases h1 : 1 ≤ w ∧ w ≤ 20
  · by_cases h2 : 1 ≤ h ∧ h ≤ 8
    · obtain ⟨m1, m2⟩ := mul_le160 h1.1 h1.2 h2.1 h2.2
      obtain ⟨n, hn⟩ := Int.eq_ofNat_of_zero_le (show 0 ≤ w * h by omega)
      have e1 := p_repeat n (by omega)
      have e2 := p_l16New_l w h n hn (by omega) (((n : Int) - 0).toNat + 2) 0 (by omega) (by omega)
      rw [show ((0 : Nat) : Int) = 0 from rfl, show List.replicate 0 (32 : Int) = [] from rfl] at e2
      have e3 : impl_newScreen.f w h = some (w, h, List.replicate n 32, 0, 0) := by
        unfold impl_newScreen.f
        rw [hn, wrapS (by omega) (by omega), e1]
        rfl
      have e4 : spec_l16New.f w h = some (w, h, List.replicate n 32, 0, 0) := by
        unfold spec_l16New.f
        rw [hn, wrapS (by omega) (by omega), e2]
        rfl
      simp only [h1, h2, e3, e4, and_self, decide_true, Bool.and_true, Bool.not_true, Bool.false_eq_true, if_false, Option.bind_some]
      exact ⟨_, rfl, rfl, by simp; omega⟩
    · have e1 : (decide (1 ≤ h) && decide (h ≤ 8)) = false := by simpa using h2
      simp [h1, e1]
  · have e1 : (decide (1 ≤ w) && decide (w ≤ 20)) = false := by simpa using h1
    simp [e1]
theorem law_NewScreen (w h : Int) (_ : inK .i64 w) (_ : inK .i64 h) : laws_FnExactNewScreen.f w h = some true := by
  unfold laws_FnExactNewScreen.f
  obtain ⟨r, e1, e2, e3⟩ := p_NewScreen w h
  have hrb : r.2.2.1.length ≤ big := by unfold big; omega
  have m2 := p_markIntS r.2.2.1 1 (by omega) (by omega) hrb
  have m3 := p_heldIntS r.2.2.1.length 1 (by omega) (by omega) hrb
  have n2 : ¬ (1 + (r.2.2.1.length : Int) < 0) := by omega
  simp [e1, e2, p_eqScreen _ _ r.2.2.1 _ _ hrb, laws_markScreen.f, laws_heldScreen.f, m2, m3, n2]
end Go.Proofs.Ytihocjbngajjkaa
