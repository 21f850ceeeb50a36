/- Plain laws of the printed functions. Conditions as each lemma says. -/
import Derived.Test.YtkieinlcpkpcjaaPB
import Derived.Test.YtkieinlcpkpcjaaWCheckParse2
set_option linter.unusedVariables false
set_option linter.unusedSimpArgs false
namespace Go.Proofs.Ytkieinlcpkpcjaa
open Go Go.Proofs.GL
theorem p_l1In (a b c : Int) : spec_l1In.f a b c = some (decide (b ≤ a) && decide (a ≤ c)) := by
  unfold spec_l1In.f
  by_cases h : b ≤ a
  · rw [if_pos (by simpa using h)]; simp [h]
  · rw [if_neg (by simpa using h)]; simp [h]
theorem p_inRange (a b c : Int) : impl_inRange.f a b c = some (decide (b ≤ a) && decide (a ≤ c)) := by
  unfold impl_inRange.f
  by_cases h : b ≤ a
  · rw [if_pos (by simpa using h)]; simp [h]
  · rw [if_neg (by simpa using h)]; simp [h]
def wZ {α : Type} (_ : α) : Int := 0
def wStr (s : ByteArray) : Int := s.size
def wL {α : Type} (w : α → Int) (p : List α) : Int := p.length + sumW w p
def okZ {α : Type} (_ : α) : Prop := True
def okStr (s : ByteArray) : Prop := s.size ≤ maxN
def okL {α : Type} (ok : α → Prop) (p : List α) : Prop := p.length ≤ maxN ∧ ∀ u ∈ p, ok u
theorem wZ_pos {α : Type} (u : α) : 0 ≤ wZ u := Int.le_refl _
theorem wStr_pos (s : ByteArray) : 0 ≤ wStr s := by unfold wStr; omega
theorem wL_pos {α : Type} {w : α → Int} (h : ∀ u, 0 ≤ w u) (p : List α) : 0 ≤ wL w p := by
  have := sumW_pos (w := w) (us := p) fun u _ => h u
  unfold wL
  omega
theorem wL_len {α : Type} {w : α → Int} (h : ∀ u, 0 ≤ w u) (p : List α) : (p.length : Int) ≤ wL w p := by
  have := sumW_pos (w := w) (us := p) fun u _ => h u
  unfold wL
  omega
theorem wL_big {α : Type} {w : α → Int} (h : ∀ u, 0 ≤ w u) {p : List α} (hp : wL w p ≤ 1000000000) : p.length ≤ big := by
  have := wL_len h p
  unfold big
  omega
theorem wL_cap {α : Type} {w : α → Int} (h : ∀ u, 0 ≤ w u) {p : List α} (hp : wL w p ≤ 1000000000) {n : Nat} (hn : 1000000000 ≤ n) : p.length ≤ n := by
  have := wL_len h p
  omega
theorem wL_mem {α : Type} {w : α → Int} (h : ∀ u, 0 ≤ w u) {p : List α} (hp : wL w p ≤ 1000000000) {u : α} (hu : u ∈ p) : w u ≤ 1000000000 := by
  have := sumW_mem (w := w) (us := p) (fun u _ => h u) u hu
  unfold wL at hp
  omega
theorem sumW_zero {α : Type} {w : α → Int} : ∀ p : List α, (∀ u, w u = 0) → sumW w p = 0
  | [], _ => rfl
  | u :: us, h => by
    have := sumW_zero us h
    have := h u
    unfold sumW
    omega
theorem wL_int (p : List Int) : wL wZ p = p.length := by
  have := sumW_zero (w := wZ) p fun _ => rfl
  unfold wL
  omega
theorem rd_mid {α : Type} (pre : List α) (u : α) (us : List α) : rd? (pre ++ u :: us) (pre.length : Int) = some u := by rw [rd?_at (by simp)]; simp
theorem st_mid {α : Type} (pre : List α) (u v : α) (us : List α) : st? (pre ++ u :: us) (pre.length : Int) v = some (pre ++ v :: us) := by rw [st?_at _ (by simp)]; simp
theorem p_l1All (p : List Int) (a b : Int) (hp : p.length ≤ big) : spec_l1All.f p a b = some (p.all fun u => decide (a ≤ u) && decide (u ≤ b)) := by
  unfold spec_l1All.f
  have := all_loop p hp (fun u => !(decide (a ≤ u) && decide (u ≤ b))) false (spec_l1All.l1 p a b) (fun k i => by rw [spec_l1All.l1]; simp only [p_l1In, Option.bind_some]) (((p.length : Int) - 0).toNat + 2) 0 (by omega) (by omega)
  rw [show ((0 : Nat) : Int) = 0 from rfl] at this
  rw [this, List.drop_zero]
  have e : p.any (fun u => !(decide (a ≤ u) && decide (u ≤ b))) = !p.all fun u => decide (a ≤ u) && decide (u ≤ b) := by rw [List.all_eq_not_any_not]; simp
  rw [e]
  cases h : p.all fun u => decide (a ≤ u) && decide (u ≤ b) <;> simp
def okT : Int → List Int → Bool
  | _, [] => true
  | L, [x] => decide (L ≤ x) && decide (x ≤ 1114111)
  | L, x :: y :: r => (decide (L ≤ x) && decide (x ≤ 1114111)) && (decide (x ≤ y) && decide (y ≤ 1114111)) && okT (y + 2) r
def okSet (s : List Int) : Bool := okT 0 s && decide (s.length % 2 = 0) && decide (s.length ≤ 24)
theorem okT_all : ∀ (s : List Int) (L : Int), 0 ≤ L → okT L s = true → ∀ x ∈ s, 0 ≤ x ∧ x ≤ 1114111
  | [], L, _, _, x, hx => by cases hx
  | [y], L, h0, h, x, hx => by
    simp only [okT, Bool.and_eq_true, decide_eq_true_eq] at h
    rw [List.mem_singleton.1 hx]
    omega
  | y :: z :: r, L, h0, h, x, hx => by
    simp only [okT, Bool.and_eq_true, decide_eq_true_eq] at h
    rcases List.mem_cons.1 hx with rfl | hx
    · omega
    · rcases List.mem_cons.1 hx with rfl | hx
      · omega
      · exact okT_all r (z + 2) (by omega) h.2 x hx
theorem rem2 (n : Nat) : rem? (n : Int) 2 = some (((n % 2 : Nat)) : Int) := by
  unfold rem?
  rw [if_neg (by decide), Int.tmod_eq_emod_of_nonneg (by omega)]
  congr 1
theorem p_implSet_l : ∀ (n : Nat) (rest pre : List Int) (L : Int), rest.length ≤ n → pre.length + rest.length ≤ big → pre.length % 2 = 0 → (pre = [] ∧ L = 0 ∨ ∃ q l, pre = q ++ [l] ∧ L = l + 2 ∧ 0 ≤ l ∧ l ≤ 1114111) → ∀ k, rest.length < k → impl_GoodSet.l1 (pre ++ rest) k pre.length = some (if okT L rest then .go () else .ret false) := by
  intro n
  induction n with
  | zero =>
    intro rest pre L hn hb he hL k hk
    obtain rfl : rest = [] := List.eq_nil_of_length_eq_zero (by omega)
    obtain ⟨k, rfl⟩ := Nat.exists_eq_succ_of_ne_zero (show k ≠ 0 by omega)
    rw [impl_GoodSet.l1, if_neg (by simp)]
    rfl
  | succ n ih =>
    intro rest pre L hn hb he hL k hk
    obtain ⟨k, rfl⟩ := Nat.exists_eq_succ_of_ne_zero (show k ≠ 0 by omega)
    cases rest with
    | nil =>
      rw [impl_GoodSet.l1, if_neg (by simp)]
      rfl
    | cons x r =>
      unfold big at hb
      simp only [List.length_cons] at hn hb hk
      rw [impl_GoodSet.l1, if_pos (by rw [decide_eq_true_eq]; simp only [List.length_append, List.length_cons]; omega), rd_mid]
      simp only [Option.bind_some]
      -- the first of two
      have e1 : ((if (decide ((pre.length : Int) > 0)) = true then ((rem? (pre.length : Int) 2).bind fun u437 => some (u437 == 0)) else (some false)).bind fun (o : Bool) => match o with | x435 => (if x435 = true then ((rd? (pre ++ x :: r) (IntKind.i64.wrap ((pre.length : Int) - 1))).bind fun u440 => some (IntKind.i64.wrap (u440 + 2))) else (if (decide ((pre.length : Int) > 0)) = true then ((rd? (pre ++ x :: r) (IntKind.i64.wrap ((pre.length : Int) - 1))).bind fun u443 => some u443) else (some 0)))) = some L := by
        rcases hL with ⟨rfl, rfl⟩ | ⟨q, l, rfl, rfl, l0, l1⟩
        · rfl
        · rw [rem2, he]
          have hp : decide ((((q ++ [l]).length : Nat) : Int) > 0) = true := by simp
          rw [hp]
          simp only [if_true, Option.bind_some]
          rw [if_pos (by decide), wrapS (n := (((q ++ [l]).length : Nat) : Int) - 1) (by simp <;> omega) (by simp at hb ⊢; omega)]
          have : (((q ++ [l]).length : Nat) : Int) - 1 = (q.length : Int) := by simp
          rw [this, List.append_assoc]
          show ((rd? (q ++ l :: (x :: r)) (q.length : Int)).bind _) = _
          rw [rd_mid]
          simp only [Option.bind_some]
          rw [wrapS (by omega) (by omega)]
      rw [e1]
      simp only [Option.bind_some, p_inRange]
      have hL0 : 0 ≤ L := by
        rcases hL with ⟨_, rfl⟩ | ⟨_, l, _, rfl, l0, l1⟩ <;> omega
      by_cases hx : L ≤ x ∧ x ≤ 1114111
      · have c1 : (decide (L ≤ x) && decide (x ≤ 1114111)) = true := by simp [hx]
        rw [c1]
        simp only [Bool.not_true, Bool.false_eq_true, if_false]
        rw [wrapN pre.length (by omega)]
        cases r with
        | nil =>
          obtain ⟨k, rfl⟩ := Nat.exists_eq_succ_of_ne_zero (show k ≠ 0 by simp at hk; omega)
          rw [impl_GoodSet.l1, if_neg (by simp)]
          simp only [okT, c1, if_true]
        | cons y r =>
          simp only [List.length_cons] at hn hb hk
          obtain ⟨k, rfl⟩ := Nat.exists_eq_succ_of_ne_zero (show k ≠ 0 by omega)
          have hl1 : ((pre.length + 1 : Nat) : Int) = ((pre ++ [x]).length : Int) := by simp
          have ha : pre ++ x :: y :: r = (pre ++ [x]) ++ y :: r := by simp
          rw [impl_GoodSet.l1, hl1, ha, if_pos (by rw [decide_eq_true_eq]; simp only [List.length_append, List.length_cons]; omega), rd_mid]
          simp only [Option.bind_some]
          have e2 : ((if (decide ((((pre ++ [x]).length : Nat) : Int) > 0)) = true then ((rem? (((pre ++ [x]).length : Nat) : Int) 2).bind fun u437 => some (u437 == 0)) else (some false)).bind fun (o : Bool) => match o with | x435 => (if x435 = true then ((rd? ((pre ++ [x]) ++ y :: r) (IntKind.i64.wrap ((((pre ++ [x]).length : Nat) : Int) - 1))).bind fun u440 => some (IntKind.i64.wrap (u440 + 2))) else (if (decide ((((pre ++ [x]).length : Nat) : Int) > 0)) = true then ((rd? ((pre ++ [x]) ++ y :: r) (IntKind.i64.wrap ((((pre ++ [x]).length : Nat) : Int) - 1))).bind fun u443 => some u443) else (some 0)))) = some x := by
            rw [rem2]
            have hp : decide ((((pre ++ [x]).length : Nat) : Int) > 0) = true := by simp
            have hm : (pre ++ [x]).length % 2 = 1 := by simp; omega
            rw [hp, hm]
            simp only [if_true, Option.bind_some]
            rw [if_neg (by decide), wrapS (n := (((pre ++ [x]).length : Nat) : Int) - 1) (by simp <;> omega) (by simp <;> omega)]
            have : (((pre ++ [x]).length : Nat) : Int) - 1 = (pre.length : Int) := by simp
            rw [this, List.append_assoc]
            show ((rd? (pre ++ x :: (y :: r)) (pre.length : Int)).bind _) = _
            rw [rd_mid]
            rfl
          rw [e2]
          simp only [Option.bind_some, p_inRange]
          by_cases hy : x ≤ y ∧ y ≤ 1114111
          · have c2 : (decide (x ≤ y) && decide (y ≤ 1114111)) = true := by simp [hy]
            rw [c2]
            simp only [Bool.not_true, Bool.false_eq_true, if_false]
            have hl2 : IntKind.i64.wrap ((((pre ++ [x]).length : Nat) : Int) + 1) = ((pre ++ [x] ++ [y]).length : Int) := by rw [wrapS (by simp <;> omega) (by simp <;> omega)]; simp only [List.length_append, List.length_singleton]; omega
            have ha2 : (pre ++ [x]) ++ y :: r = (pre ++ [x] ++ [y]) ++ r := by simp
            rw [hl2, ha2, ih r (pre ++ [x] ++ [y]) (y + 2) (by omega) (by simp [big]; omega) (by simp; omega) (.inr ⟨pre ++ [x], y, rfl, rfl, by omega, by omega⟩) k (by omega)]
            simp only [okT, c1, c2, Bool.and_self, Bool.true_and]
          · have c2 : (decide (x ≤ y) && decide (y ≤ 1114111)) = false := by
              rw [Bool.and_eq_false_iff, decide_eq_false_iff_not, decide_eq_false_iff_not]; omega
            rw [c2]
            simp only [okT, c1, c2, Bool.false_and, Bool.and_false, Bool.not_false, if_true, Option.bind_some, Bool.false_eq_true, if_false]
      · have c1 : (decide (L ≤ x) && decide (x ≤ 1114111)) = false := by
          rw [Bool.and_eq_false_iff, decide_eq_false_iff_not, decide_eq_false_iff_not]; omega
        rw [c1]
        have : okT L (x :: r) = false := by
          cases r with
          | nil => simp only [okT, c1]
          | cons y r => simp only [okT, c1, Bool.false_and]
        rw [this]
        rfl
theorem p_implSet (s : List Int) (hs : s.length ≤ big) : impl_GoodSet.f s = some (okSet s) := by
  unfold impl_GoodSet.f
  have := p_implSet_l s.length s [] 0 (Nat.le_refl _) (by simpa using hs) rfl (.inl ⟨rfl, rfl⟩) (((s.length : Int) - 0).toNat + 2) (by omega)
  rw [List.nil_append, show ((([] : List Int).length : Nat) : Int) = 0 from rfl] at this
  rw [this, rem2]
  unfold okSet
  cases okT 0 s with
  | false => rfl
  | true =>
    simp only [if_true, Option.bind_some, Bool.true_and]
    by_cases h : s.length % 2 = 0
    · rw [h, if_pos (by decide)]
      simp
      omega
    · rw [if_neg (by simp; omega)]
      simp [h]
theorem p_specSet_l : ∀ (n : Nat) (rest pre : List Int) (L : Int), rest.length ≤ n → pre.length + rest.length ≤ big → rest.length % 2 = 0 → (∀ x ∈ rest, 0 ≤ x ∧ x ≤ 1114111) → (pre = [] ∧ L = 0 ∨ ∃ q l, pre = q ++ [l] ∧ L = l + 2 ∧ 0 ≤ l ∧ l ≤ 1114111) → ∀ k, rest.length < k → spec_GoodSet.l1 (pre ++ rest) k pre.length = some (if okT L rest then .go () else .ret false) := by
  intro n
  induction n with
  | zero =>
    intro rest pre L hn hb he hr hL k hk
    obtain rfl : rest = [] := List.eq_nil_of_length_eq_zero (by omega)
    obtain ⟨k, rfl⟩ := Nat.exists_eq_succ_of_ne_zero (show k ≠ 0 by omega)
    rw [spec_GoodSet.l1, if_neg (by simp)]
    rfl
  | succ n ih =>
    intro rest pre L hn hb he hr hL k hk
    obtain ⟨k, rfl⟩ := Nat.exists_eq_succ_of_ne_zero (show k ≠ 0 by omega)
    match rest, hn, hb, he, hr, hk with
    | [], _, _, _, _, _ =>
      rw [spec_GoodSet.l1, if_neg (by simp)]
      rfl
    | [x], _, _, he, _, _ => simp at he
    | x :: y :: r, hn, hb, he, hr, hk =>
      unfold big at hb
      simp only [List.length_cons] at hn hb hk he
      have hx := hr x (by simp)
      have hy := hr y (by simp)
      have ha : pre ++ x :: y :: r = (pre ++ [x]) ++ y :: r := by simp
      have hl1 : IntKind.i64.wrap ((pre.length : Int) + 1) = ((pre ++ [x]).length : Int) := by rw [wrapS (by omega) (by omega)]; simp only [List.length_append, List.length_singleton]; omega
      have ry : rd? (pre ++ x :: y :: r) (IntKind.i64.wrap ((pre.length : Int) + 1)) = some y := by rw [hl1, ha, rd_mid]
      rw [spec_GoodSet.l1, if_pos (by rw [decide_eq_true_eq]; simp only [List.length_append, List.length_cons]; omega), rd_mid, ry]
      simp only [Option.bind_some]
      have e1 : (if (decide ((pre.length : Int) > 0)) = true then ((rd? (pre ++ x :: y :: r) (IntKind.i64.wrap ((pre.length : Int) - 1))).bind fun u269 => some (decide (x < (IntKind.i64.wrap (u269 + 2))))) else (some false)) = some (decide (x < L)) := by
        rcases hL with ⟨rfl, rfl⟩ | ⟨q, l, rfl, rfl, l0, l1⟩
        · have : decide (x < 0) = false := by simp; omega
          rw [this]; rfl
        · rw [if_pos (by simp), wrapS (n := (((q ++ [l]).length : Nat) : Int) - 1) (by simp <;> omega) (by simp at hb ⊢; omega)]
          have : (((q ++ [l]).length : Nat) : Int) - 1 = (q.length : Int) := by simp
          rw [this, List.append_assoc]
          show ((rd? (q ++ l :: (x :: y :: r)) (q.length : Int)).bind _) = _
          rw [rd_mid]
          simp only [Option.bind_some]
          rw [wrapS (by omega) (by omega)]
      rw [e1]
      have c0 : decide (x ≤ 1114111) = true := by simp; omega
      have c3 : decide (y ≤ 1114111) = true := by simp; omega
      by_cases hxy : x > y
      · rw [if_pos (by simpa using hxy)]
        have : decide (x ≤ y) = false := by simp; omega
        simp only [okT, this, Bool.false_and, Bool.and_false, Option.bind_some, if_true, Bool.false_eq_true, if_false]
      · have c1 : decide (x ≤ y) = true := by simp; omega
        rw [if_neg (by simpa using hxy)]
        simp only [Option.bind_some]
        by_cases hxl : x < L
        · have c2 : decide (L ≤ x) = false := by simp; omega
          rw [if_pos (by simpa using hxl)]
          simp only [okT, c2, Bool.false_and, Option.bind_some, Bool.false_eq_true, if_false]
        · have c2 : decide (L ≤ x) = true := by simp; omega
          rw [if_neg (by simpa using hxl)]
          have hl2 : IntKind.i64.wrap ((pre.length : Int) + 2) = ((pre ++ [x] ++ [y]).length : Int) := by rw [wrapS (by omega) (by omega)]; simp only [List.length_append, List.length_singleton]; omega
          have ha2 : pre ++ x :: y :: r = (pre ++ [x] ++ [y]) ++ r := by simp
          rw [hl2, ha2, ih r (pre ++ [x] ++ [y]) (y + 2) (by omega) (by simp [big]; omega) (by omega) (fun z hz => hr z (by simp [hz])) (.inr ⟨pre ++ [x], y, rfl, rfl, by omega, by omega⟩) k (by omega)]
          simp only [okT, c0, c1, c2, c3, Bool.and_self, Bool.true_and]
theorem p_specSet (s : List Int) (hs : s.length ≤ big) : spec_GoodSet.f s = some (okSet s) := by
  unfold spec_GoodSet.f
  rw [rem2, p_l1All s 0 1114111 hs]
  unfold okSet
  by_cases h1 : s.length % 2 = 1
  · rw [h1]
    simp [h1]
  · have h2 : s.length % 2 = 0 := by omega
    rw [h2]
    simp only [Option.bind_some]
    rw [if_neg (by decide)]
    by_cases h3 : (s.length : Int) > 24
    · rw [if_pos (by simpa using h3)]
      have : decide (s.length ≤ 24) = false := by simp; omega
      rw [this, Bool.and_false]
      rfl
    · have d3 : decide (s.length ≤ 24) = true := by simp; omega
      rw [if_neg (by simpa using h3), d3]
      simp only [Option.bind_some]
      cases h4 : (s.all fun u => decide (0 ≤ u) && decide (u ≤ 1114111)) with
      | false =>
        have : okT 0 s = false := by
          by_cases h : okT 0 s = true
          · have h5 := okT_all s 0 (by omega) h
            have : (s.all fun u => decide (0 ≤ u) && decide (u ≤ 1114111)) = true := by
              rw [List.all_eq_true]
              intro x hx
              have := h5 x hx
              simp; omega
            rw [this] at h4; cases h4
          · simpa using h
        rw [this]
        rfl
      | true =>
        have hr : ∀ x ∈ s, 0 ≤ x ∧ x ≤ 1114111 := fun x hx => by
          have := (List.all_eq_true.1 h4) x hx
          simpa using this
        have := p_specSet_l s.length s [] 0 (Nat.le_refl _) (by simpa using hs) h2 hr (.inl ⟨rfl, rfl⟩) (((s.length : Int) - 0).toNat + 2) (by omega)
        rw [List.nil_append, show ((([] : List Int).length : Nat) : Int) = 0 from rfl] at this
        simp only [Bool.not_true, Bool.false_eq_true, if_false, this, Option.bind_some]
        cases okT 0 s <;> simp
def okRune (r : Int) : Bool := decide (0 ≤ r) && decide (r ≤ 1114111) && !(decide (55296 ≤ r) && decide (r ≤ 57343))
theorem p_specRune (r : Int) : spec_GoodRune.f r = some (okRune r) := by
  unfold spec_GoodRune.f okRune
  simp only [p_l1In, Option.bind_some]
  cases (decide (0 ≤ r) && decide (r ≤ 1114111)) <;> rfl
theorem p_implRune (r : Int) : impl_GoodRune.f r = some (okRune r) := by
  unfold impl_GoodRune.f okRune
  simp only [p_inRange, Option.bind_some]
  cases (decide (0 ≤ r) && decide (r ≤ 1114111)) <;> rfl
theorem p_allRunes (p : List Int) (hp : p.length ≤ big) : spec_l1AllRunes.f p = some (p.all okRune && decide (p.length ≤ 1000)) := by
  unfold spec_l1AllRunes.f
  have := all_loop p hp (fun u => !okRune u) false (spec_l1AllRunes.l1 p) (fun k i => by rw [spec_l1AllRunes.l1]; simp only [p_specRune, Option.bind_some]) (((p.length : Int) - 0).toNat + 2) 0 (by omega) (by omega)
  rw [show ((0 : Nat) : Int) = 0 from rfl] at this
  rw [this, List.drop_zero]
  have e : p.any (fun u => !okRune u) = !p.all okRune := by rw [List.all_eq_not_any_not]; simp
  rw [e]
  cases h : p.all okRune <;> simp
  omega
abbrev Nd := Int × List Int
/-- How many parts a node has. -/
def ar (k : Int) : Int := if k = 1 ∨ k = 2 then 0 else if k = 6 ∨ k = 7 then 1 else if k = 3 ∨ k = 4 ∨ k = 5 then 2 else -1
theorem p_partsOf (k : Int) : impl_partsOf.f k = some (ar k) := by
  unfold impl_partsOf.f ar
  by_cases h1 : k = 1
  · subst h1; rfl
  · by_cases h2 : k = 2
    · subst h2; rfl
    · by_cases h6 : k = 6
      · subst h6; rfl
      · by_cases h7 : k = 7
        · subst h7; rfl
        · by_cases h3 : k = 3
          · subst h3; rfl
          · by_cases h4 : k = 4
            · subst h4; rfl
            · by_cases h5 : k = 5
              · subst h5; rfl
              · simp [h1, h2, h3, h4, h5, h6, h7]
theorem p_arity (k : Int) : spec_l5Arity.f k = some (ar k) := by
  unfold spec_l5Arity.f ar
  by_cases h1 : k = 1
  · subst h1; rfl
  · by_cases h2 : k = 2
    · subst h2; rfl
    · by_cases h6 : k = 6
      · subst h6; rfl
      · by_cases h7 : k = 7
        · subst h7; rfl
        · by_cases h3 : k = 3
          · subst h3; rfl
          · by_cases h4 : k = 4
            · subst h4; rfl
            · by_cases h5 : k = 5
              · subst h5; rfl
              · simp [h1, h2, h3, h4, h5, h6, h7]
theorem ar_bd (k : Int) : -1 ≤ ar k ∧ ar k ≤ 2 := by unfold ar; split <;> (try split) <;> (try split) <;> omega
def okNd (u : Nd) : Bool := okSet u.2 && u.2.all okRune && (u.1 == 2 || decide (u.2.length = 0))
theorem okSet_len {s : List Int} (h : okSet s = true) : s.length ≤ 24 := by
  simp only [okSet, Bool.and_eq_true, decide_eq_true_eq] at h
  exact h.2
theorem p_implNd_1 (p : List Int) (hp : p.length ≤ big) : slices_ContainsFunc_int_int_impl_GoodRe_1_1.f p = some (!p.all okRune) := by
  unfold slices_ContainsFunc_int_int_impl_GoodRe_1_1.f slices_IndexFunc_int_int_impl_GoodRe_1_1.f
  have := scan_loop p hp (fun u => !okRune u) (fun i _ => i) (slices_IndexFunc_int_int_impl_GoodRe_1_1.l1 p) (fun k i => by rw [slices_IndexFunc_int_int_impl_GoodRe_1_1.l1]; simp only [impl_GoodRe_1_1.f, p_implRune, Option.bind_some]) (((p.length : Int) - 0).toNat + 2) 0 (by omega) (by omega)
  rw [show ((0 : Nat) : Int) = 0 from rfl] at this
  rw [this, List.drop_zero]
  have e : p.all okRune = !(p.any fun u => !okRune u) := List.all_eq_not_any_not
  rw [e, Bool.not_not]
  cases hf : p.findIdx? (fun u => !okRune u) with
  | none =>
    have : p.any (fun u => !okRune u) = false := by
      rw [List.findIdx?_eq_none_iff] at hf
      simpa using hf
    rw [this]; simp
  | some j =>
    obtain ⟨hj, h1, h2⟩ := List.findIdx?_eq_some_iff_getElem.1 hf
    have : p.any (fun u => !okRune u) = true := List.any_eq_true.2 ⟨_, List.getElem_mem hj, h1⟩
    rw [this]
    simp [hj]
theorem p_implNd (u : Nd) (hu : u.2.length ≤ big) : impl_GoodRe_1.f u.1 u.2 = some (!okNd u) := by
  unfold impl_GoodRe_1.f okNd
  rw [p_implSet u.2 hu, p_implNd_1 u.2 hu]
  simp only [Option.bind_some]
  cases okSet u.2 with
  | false => rfl
  | true =>
    cases u.2.all okRune with
    | false => rfl
    | true =>
      simp only [Bool.not_true, Bool.false_eq_true, if_false, Bool.true_and]
      by_cases h : u.1 = 2
      · simp [h]
      · have h1 : (u.1 != 2) = true := by simpa using h
        have h2 : (u.1 == 2) = false := by simpa using h
        rw [h1, h2]
        simp only [if_true, Bool.false_or]
        by_cases hl : u.2.length = 0
        · simp [hl]
        · have := Nat.pos_of_ne_zero hl
          simp [hl, this]
theorem p_specNd (u : Nd) (hu : u.2.length ≤ big) : spec_l5Node.f u.1 u.2 = some (decide (0 ≤ ar u.1) && okNd u) := by
  unfold spec_l5Node.f okNd
  rw [p_arity, p_specSet u.2 hu, p_allRunes u.2 hu]
  simp only [Option.bind_some]
  by_cases ha : ar u.1 < 0
  · have h0 : decide (0 ≤ ar u.1) = false := by simp; omega
    rw [if_pos (by simpa using ha), h0]
    rfl
  · have h0 : decide (0 ≤ ar u.1) = true := by simp; omega
    rw [if_neg (by simpa using ha), h0]
    cases hs : okSet u.2 with
    | false =>
      simp only [Bool.false_and, Bool.and_false]
      by_cases h : u.1 = 2
      · simp [h]
      · by_cases hl : (u.2.length : Int) > 0 <;> simp [h, hl]
    | true =>
      have hl := okSet_len hs
      have d : decide (u.2.length ≤ 1000) = true := by simp; omega
      rw [d, Bool.and_true]
      by_cases h : u.1 = 2
      · simp [h]
      · by_cases hl2 : u.2.length = 0
        · simp [h, hl2]
        · have h1 : (u.1 == 2) = false := by simpa using h
          have := Nat.pos_of_ne_zero hl2
          simp [h, h1, hl2, this]
/-- Nodes, put on a pile of their last parts. -/
def pileR : List Nd → Int → List Int → List (List Int) → Option (List (List Int) × List Int)
  | [], _, pile, out => some (out, pile)
  | u :: us, i, pile, out => if ar u.1 < 0 ∨ ar u.1 > pile.length then none else pileR us (i + 1) (pile.take (pile.length - (ar u.1).toNat) ++ [i]) (out ++ [pile.drop (pile.length - (ar u.1).toNat)])
def okRe (p : List Nd) : Bool := (decide (1 ≤ (p.length : Int)) && decide ((p.length : Int) ≤ 40)) && p.all okNd && (match pileR p 0 [] [] with | some (_, pile) => ((pile.length : Int) == 1) | none => false)
theorem p_parts_l : ∀ (rest pre : List Nd) (pile : List Int) (out : List (List Int)), pre.length + rest.length ≤ 1000000 → pile.length ≤ pre.length → out.length = pre.length → ∀ k, rest.length < k → impl_parts.l1 (pre ++ rest) k out pile pre.length = some (match pileR rest pre.length pile out with | some (o, q) => .go (o, q) | none => .ret ([], false)) := by
  intro rest
  induction rest with
  | nil =>
    intro pre pile out hb hp ho k hk
    obtain ⟨k, rfl⟩ := Nat.exists_eq_succ_of_ne_zero (show k ≠ 0 by omega)
    rw [impl_parts.l1, if_neg (by simp)]
    rfl
  | cons u us ih =>
    intro pre pile out hb hp ho k hk
    obtain ⟨k, rfl⟩ := Nat.exists_eq_succ_of_ne_zero (show k ≠ 0 by omega)
    simp only [List.length_cons] at hb hk
    rw [impl_parts.l1, if_pos (by rw [decide_eq_true_eq]; simp only [List.length_append, List.length_cons]; omega), rd_mid]
    simp only [Option.bind_some, p_partsOf]
    unfold pileR
    have hbd := ar_bd u.1
    by_cases h1 : ar u.1 < 0
    · rw [if_pos (by simpa using h1), if_pos (.inl h1)]
      rfl
    · rw [if_neg (by simpa using h1)]
      simp only [Option.bind_some]
      by_cases h2 : ar u.1 > pile.length
      · rw [if_pos (by simpa using h2), if_pos (.inr h2)]
        try rfl
      · rw [if_neg (by simpa using h2), if_neg (by omega)]
        obtain ⟨m, hm⟩ := Int.eq_ofNat_of_zero_le (show 0 ≤ ar u.1 by omega)
        rw [hm] at h2 ⊢
        have hml : m ≤ pile.length := by omega
        rw [wrapS (n := (pile.length : Int) - m) (by omega) (by omega), show (pile.length : Int) - m = ((pile.length - m : Nat) : Int) by omega, Int.toNat_natCast]
        have c1 := cut?_at (xs := pile) (a := pile.length - m) (b := pile.length) (by omega) (Nat.le_refl _)
        have c2 := cut?_at (xs := pile) (a := 0) (b := pile.length - m) (by omega) (by omega)
        rw [show ((0 : Nat) : Int) = 0 from rfl] at c2
        rw [c1, c2]
        simp only [Option.bind_some, List.take_length, List.drop_zero, slices_Clone_int_int.f]
        rw [app?_at (by simp; omega)]
        simp only [Option.bind_some, List.nil_append]
        rw [app?_at (by simp; omega)]
        simp only [Option.bind_some]
        rw [app?_at (by simp; omega)]
        simp only [Option.bind_some]
        rw [wrapN pre.length (by omega)]
        have := ih (pre ++ [u]) (pile.take (pile.length - m) ++ [(pre.length : Int)]) (out ++ [pile.drop (pile.length - m)]) (by simp; omega) (by simp; omega) (by simp [ho]) k (by omega)
        simp only [List.length_append, List.length_cons, List.length_nil, Nat.zero_add, List.append_assoc, List.cons_append, List.nil_append] at this
        rw [this]
        rfl
theorem p_parts (p : List Nd) (hp : p.length ≤ 1000000) : impl_parts.f p = some (match pileR p 0 [] [] with | some (o, q) => (o, ((q.length : Int) == 1)) | none => ([], false)) := by
  unfold impl_parts.f
  have := p_parts_l p [] [] [] (by simpa using hp) (Nat.le_refl _) rfl (((p.length : Int) - 0).toNat + 2) (by omega)
  rw [List.nil_append, show ((([] : List Nd).length : Nat) : Int) = 0 from rfl] at this
  rw [this]
  cases pileR p 0 [] [] with
  | none => rfl
  | some o => rfl
theorem p_implRe (p : List Nd) (hp : p.length ≤ big) (hq : ∀ u ∈ p, u.2.length ≤ big) : impl_GoodRe.f p = some (okRe p) := by
  unfold impl_GoodRe.f okRe
  simp only [p_inRange, Option.bind_some]
  cases h1 : (decide (1 ≤ (p.length : Int)) && decide ((p.length : Int) ≤ 40)) with
  | false => rfl
  | true =>
    have hl : p.length ≤ 40 := by simp only [Bool.and_eq_true, decide_eq_true_eq] at h1; omega
    simp only [Bool.not_true, Bool.false_eq_true, if_false, Bool.true_and]
    have key : slices_ContainsFunc_impl_Re_impl_Re_impl_GoodRe_1.f p = some (!p.all okNd) := by
      unfold slices_ContainsFunc_impl_Re_impl_Re_impl_GoodRe_1.f slices_IndexFunc_impl_Re_impl_Re_impl_GoodRe_1.f
      have key : ∀ (k i : Nat), i ≤ p.length → p.length - i < k → ∃ o, slices_IndexFunc_impl_Re_impl_Re_impl_GoodRe_1.l1 p k i = some o ∧ (if (p.drop i).all okNd then o = .go () else ∃ n : Int, 0 ≤ n ∧ o = .ret n) := by
        intro k
        induction k with
        | zero => intro i _ h; omega
        | succ k ih =>
          intro i hi hk
          rw [slices_IndexFunc_impl_Re_impl_Re_impl_GoodRe_1.l1]
          by_cases h : i < p.length
          · rw [if_pos (by simpa using h), rd?_at h]
            simp only [Option.bind_some]
            rw [p_implNd _ (hq _ (List.getElem_mem h))]
            simp only [Option.bind_some]
            rw [List.drop_eq_getElem_cons h, List.all_cons]
            cases hr : okNd p[i] with
            | false => exact ⟨.ret i, by simp, by simp⟩
            | true =>
              simp only [Bool.not_true, Bool.false_eq_true, if_false, Bool.true_and]
              rw [wrapN i (by omega)]
              exact ih (i + 1) h (by omega)
          · rw [if_neg (by simpa using h)]
            exact ⟨_, rfl, by simp [List.drop_eq_nil_of_le (by omega : p.length ≤ i)]⟩
      obtain ⟨o, g1, g2⟩ := key (((p.length : Int) - 0).toNat + 2) 0 (by omega) (by omega)
      rw [show ((0 : Nat) : Int) = 0 from rfl] at g1
      rw [g1]
      rw [List.drop_zero] at g2
      cases hr : p.all okNd with
      | true =>
        rw [hr, if_pos rfl] at g2
        subst g2
        rfl
      | false =>
        rw [hr] at g2
        obtain ⟨m, hm, rfl⟩ := g2
        simp [hm]
    rw [key]
    simp only [Option.bind_some]
    cases p.all okNd with
    | false => rfl
    | true =>
      simp only [Bool.not_true, Bool.false_eq_true, if_false, Bool.true_and]
      rw [p_parts p (by omega)]
      cases pileR p 0 [] [] with
      | none => rfl
      | some o => rfl
/-- The pile's height alone. -/
def highR : List Nd → Int → Option Int
  | [], n => some n
  | u :: us, n => if ar u.1 < 0 ∨ ar u.1 > n then none else highR us (n + (1 - ar u.1))
theorem pile_high : ∀ (us : List Nd) (i : Int) (pile : List Int) (out : List (List Int)), (pileR us i pile out).map (fun o => (o.2.length : Int)) = highR us pile.length
  | [], i, pile, out => rfl
  | u :: us, i, pile, out => by
    unfold pileR highR
    split
    · rfl
    · rename_i h
      rw [pile_high us]
      congr 1
      simp
      omega
theorem high_bd : ∀ (us : List Nd) (n d : Int), 0 ≤ n → highR us n = some d → 0 ≤ d ∧ d ≤ n + us.length
  | [], n, d, h0, h => by
    obtain rfl := Option.some.inj h
    simp; omega
  | u :: us, n, d, h0, h => by
    unfold highR at h
    split at h
    · cases h
    · have := ar_bd u.1
      have := high_bd us _ d (by omega) h
      simp only [List.length_cons]
      omega
theorem p_l5Good_l : ∀ (rest pre : List Nd) (n : Int), pre.length + rest.length ≤ 1000000 → 0 ≤ n → n ≤ pre.length → (∀ u ∈ rest, u.2.length ≤ big) → ∀ k, rest.length < k → spec_l5Good.l1 (pre ++ rest) k n pre.length = some (if rest.all okNd then (match highR rest n with | some d => .go d | none => .ret false) else .ret false) := by
  intro rest
  induction rest with
  | nil =>
    intro pre n hb h0 h1 hq k hk
    obtain ⟨k, rfl⟩ := Nat.exists_eq_succ_of_ne_zero (show k ≠ 0 by omega)
    rw [spec_l5Good.l1, if_neg (by simp)]
    rfl
  | cons u us ih =>
    intro pre n hb h0 h1 hq k hk
    obtain ⟨k, rfl⟩ := Nat.exists_eq_succ_of_ne_zero (show k ≠ 0 by omega)
    simp only [List.length_cons] at hb hk
    rw [spec_l5Good.l1, if_pos (by rw [decide_eq_true_eq]; simp only [List.length_append, List.length_cons]; omega), rd_mid]
    simp only [Option.bind_some]
    rw [p_specNd u (hq u (by simp)), p_arity]
    simp only [Option.bind_some]
    have hbd := ar_bd u.1
    rw [List.all_cons]
    unfold highR
    cases hn : okNd u with
    | false =>
      simp only [Bool.and_false, Bool.not_false, if_true, Option.bind_some, Bool.false_and, Bool.false_eq_true, if_false]
    | true =>
      simp only [Bool.and_true, Bool.true_and]
      by_cases ha : ar u.1 < 0
      · have : decide (0 ≤ ar u.1) = false := by simp; omega
        rw [this, if_pos (show ar u.1 < 0 ∨ ar u.1 > n from .inl ha)]
        simp only [Bool.not_false, if_true, Option.bind_some]
        split <;> rfl
      · have : decide (0 ≤ ar u.1) = true := by simp; omega
        rw [this]
        simp only [Bool.not_true, Bool.false_eq_true, if_false, Option.bind_some]
        by_cases hg : n < ar u.1
        · rw [if_pos (by simpa using hg), if_pos (show ar u.1 < 0 ∨ ar u.1 > n by omega)]
          simp only [Option.bind_some]
          split <;> rfl
        · rw [if_neg (by simpa using hg), if_neg (show ¬ (ar u.1 < 0 ∨ ar u.1 > n) by omega)]
          rw [wrapS (n := 1 - ar u.1) (by omega) (by omega), wrapS (n := n + (1 - ar u.1)) (by omega) (by omega), wrapN pre.length (by omega)]
          have := ih (pre ++ [u]) (n + (1 - ar u.1)) (by simp; omega) (by omega) (by simp; omega) (fun v hv => hq v (List.mem_cons_of_mem _ hv)) k (by omega)
          simp only [List.length_append, List.length_cons, List.length_nil, Nat.zero_add, List.append_assoc, List.cons_append, List.nil_append] at this
          exact this
theorem p_specRe (p : List Nd) (hp : p.length ≤ big) (hq : ∀ u ∈ p, u.2.length ≤ big) : spec_GoodRe.f p = some (okRe p) := by
  unfold spec_GoodRe.f okRe
  by_cases h : (p.length : Int) ≤ 40
  · have d1 : decide ((p.length : Int) ≤ 40) = true := by simpa using h
    rw [if_pos (by simpa using h), d1, Bool.and_true]
    unfold spec_l5Good.f
    have := p_l5Good_l p [] 0 (by simp; omega) (Int.le_refl _) (Int.le_refl _) hq (((p.length : Int) - 0).toNat + 2) (by omega)
    rw [List.nil_append, show ((([] : List Nd).length : Nat) : Int) = 0 from rfl] at this
    rw [this]
    have hh := pile_high p 0 [] []
    rw [show ((([] : List Int).length : Nat) : Int) = 0 from rfl] at hh
    cases p.all okNd with
    | false => simp
    | true =>
      simp only [if_true, Option.bind_some, Bool.and_true]
      cases hp0 : pileR p 0 [] [] with
      | none =>
        rw [hp0] at hh
        rw [← hh]
        simp
      | some o =>
        rw [hp0] at hh
        rw [← hh]
        simp only [Option.map_some]
        by_cases hz : 1 ≤ (p.length : Int)
        · have : decide (1 ≤ (p.length : Int)) = true := by simpa using hz
          rw [this]
          rfl
        · have hnil : p = [] := List.eq_nil_of_length_eq_zero (by omega)
          subst hnil
          have : o = ([], []) := (Option.some.inj hp0).symm
          subst this
          rfl
  · have d1 : decide ((p.length : Int) ≤ 40) = false := by simpa using h
    rw [if_neg (by simpa using h), d1, Bool.and_false]
    rfl
inductive RT where
  | nil : RT
  | set : List Int → RT
  | cat : RT → RT → RT
  | or : RT → RT → RT
  | and : RT → RT → RT
  | star : RT → RT
  | not : RT → RT
def inS : List Int → Int → Bool
  | lo :: hi :: r, x => (decide (lo ≤ x) && decide (x ≤ hi)) || inS r x
  | _, _ => false
def starF (f : List Int → Bool) : Nat → List Int → Bool
  | 0, w => w.isEmpty
  | n + 1, w => w.isEmpty || (List.range w.length).any fun i => f (w.take (i + 1)) && starF f n (w.drop (i + 1))
/-- What a pattern matches. -/
def acc : RT → List Int → Bool
  | .nil, w => w.isEmpty
  | .set s, w => match w with
    | [x] => inS s x
    | _ => false
  | .cat a b, w => (List.range (w.length + 1)).any fun i => acc a (w.take i) && acc b (w.drop i)
  | .or a b, w => acc a w || acc b w
  | .and a b, w => acc a w && acc b w
  | .star a, w => starF (acc a) w.length w
  | .not a, w => !acc a w
theorem starF_more (f : List Int → Bool) : ∀ (n m : Nat) (w : List Int), w.length ≤ n → w.length ≤ m → starF f n w = starF f m w
  | 0, 0, w, _, _ => rfl
  | 0, m + 1, w, h, _ => by
    obtain rfl : w = [] := List.eq_nil_of_length_eq_zero (by omega)
    rfl
  | n + 1, 0, w, _, h => by
    obtain rfl : w = [] := List.eq_nil_of_length_eq_zero (by omega)
    rfl
  | n + 1, m + 1, w, h1, h2 => by
    unfold starF
    congr 1
    rw [Bool.eq_iff_iff, List.any_eq_true, List.any_eq_true]
    constructor
    · rintro ⟨i, hi, h⟩
      rw [List.mem_range] at hi
      refine ⟨i, List.mem_range.2 hi, ?_⟩
      rw [← starF_more f n m _ (by simp; omega) (by simp; omega)]
      exact h
    · rintro ⟨i, hi, h⟩
      rw [List.mem_range] at hi
      refine ⟨i, List.mem_range.2 hi, ?_⟩
      rw [starF_more f n m _ (by simp; omega) (by simp; omega)]
      exact h
theorem acc_star (a : RT) (w : List Int) : acc (.star a) w = (w.isEmpty || (List.range w.length).any fun i => acc a (w.take (i + 1)) && acc (.star a) (w.drop (i + 1))) := by
  show starF (acc a) w.length w = _
  cases w with
  | nil => rfl
  | cons x w =>
    rw [List.length_cons]
    conv => lhs; unfold starF
    congr 1
    rw [Bool.eq_iff_iff, List.any_eq_true, List.any_eq_true]
    have key : ∀ i, i < (x :: w).length → starF (acc a) w.length ((x :: w).drop (i + 1)) = acc (.star a) ((x :: w).drop (i + 1)) := fun i hi => by
      show _ = starF (acc a) _ _
      exact starF_more _ _ _ _ (by simp) (Nat.le_refl _)
    constructor
    · rintro ⟨i, hi, h⟩
      rw [key i (List.mem_range.1 hi)] at h
      exact ⟨i, hi, h⟩
    · rintro ⟨i, hi, h⟩
      refine ⟨i, hi, ?_⟩
      rw [key i (List.mem_range.1 hi)]
      exact h
/-- A part of a list. -/
def seg (l : List Int) (f t : Nat) : List Int := (l.take t).drop f
theorem seg_len (l : List Int) (f t : Nat) (ht : t ≤ l.length) : (seg l f t).length = t - f := by simp [seg]; omega
theorem seg_take (l : List Int) (f t i : Nat) (h : f + i ≤ t) : (seg l f t).take i = seg l f (f + i) := by
  unfold seg
  rw [List.take_drop, List.take_take, Nat.min_eq_left (by omega)]
theorem seg_drop (l : List Int) (f t i : Nat) : (seg l f t).drop i = seg l (f + i) t := by
  unfold seg
  rw [List.drop_drop]
theorem seg_empty (l : List Int) (f t : Nat) (hf : f ≤ t) (ht : t ≤ l.length) : (seg l f t).isEmpty = decide (f = t) := by
  rw [Bool.eq_iff_iff, List.isEmpty_iff_length_eq_zero, seg_len l f t ht, decide_eq_true_eq]
  omega
theorem seg_one (l : List Int) (f : Nat) (h : f < l.length) : seg l f (f + 1) = [l[f]] := by
  unfold seg
  rw [List.take_succ_eq_append_getElem h, List.drop_append_of_le_length (by simp; omega), List.drop_of_length_le (by simp; omega)]
  rfl
theorem acc_nil_seg (l : List Int) (f t : Nat) (hf : f ≤ t) (ht : t ≤ l.length) : acc .nil (seg l f t) = decide (f = t) := seg_empty l f t hf ht
theorem acc_set_seg (s : List Int) (l : List Int) (f t : Nat) (hf : f ≤ t) (ht : t ≤ l.length) : acc (.set s) (seg l f t) = if h : t = f + 1 then inS s (l[f]'(by omega)) else false := by
  by_cases h : t = f + 1
  · subst h
    rw [seg_one l f (by omega)]
    simp [acc]
  · rw [dif_neg h]
    have hl := seg_len l f t ht
    unfold acc
    split
    · rename_i x hx
      rw [hx] at hl
      simp at hl
      omega
    · rfl
/-- Over the places between. -/
theorem acc_cat_seg (a b : RT) (l : List Int) (f t : Nat) (hf : f ≤ t) (ht : t ≤ l.length) : acc (.cat a b) (seg l f t) = (List.range (t - f + 1)).any fun i => acc a (seg l f (f + i)) && acc b (seg l (f + i) t) := by
  show (List.range ((seg l f t).length + 1)).any _ = _
  rw [seg_len l f t ht, Bool.eq_iff_iff, List.any_eq_true, List.any_eq_true]
  constructor
  · rintro ⟨i, hi, h⟩
    have := List.mem_range.1 hi
    rw [seg_take l f t i (by omega), seg_drop] at h
    exact ⟨i, hi, h⟩
  · rintro ⟨i, hi, h⟩
    have := List.mem_range.1 hi
    refine ⟨i, hi, ?_⟩
    rw [seg_take l f t i (by omega), seg_drop]
    exact h
theorem acc_star_seg (a : RT) (l : List Int) (f t : Nat) (hf : f ≤ t) (ht : t ≤ l.length) : acc (.star a) (seg l f t) = (decide (f = t) || (List.range (t - f)).any fun i => acc a (seg l f (f + 1 + i)) && acc (.star a) (seg l (f + 1 + i) t)) := by
  rw [acc_star, seg_empty l f t hf ht, seg_len l f t ht]
  congr 1
  rw [Bool.eq_iff_iff, List.any_eq_true, List.any_eq_true]
  constructor
  · rintro ⟨i, hi, h⟩
    have := List.mem_range.1 hi
    rw [seg_take l f t (i + 1) (by omega), seg_drop, show f + (i + 1) = f + 1 + i by omega] at h
    exact ⟨i, hi, h⟩
  · rintro ⟨i, hi, h⟩
    have := List.mem_range.1 hi
    refine ⟨i, hi, ?_⟩
    rw [seg_take l f t (i + 1) (by omega), seg_drop, show f + (i + 1) = f + 1 + i by omega]
    exact h
/-- The tree of a node, of its parts' trees. -/
def mkT (u : Nd) (ks : List RT) : RT :=
  if u.1 = 1 then .nil else if u.1 = 2 then .set u.2 else
  match ks with
  | [a] => if u.1 = 6 then .star a else .not a
  | [a, b] => if u.1 = 3 then .cat a b else if u.1 = 4 then .or a b else .and a b
  | _ => .nil
/-- All trees, in their nodes' order. -/
def getT (ts : List RT) (i : Int) : RT := (ts[i.toNat]?).getD .nil
def bld : List (List Int × Nd) → List RT → List RT
  | [], ts => ts
  | (ks, u) :: r, ts => bld r (ts ++ [mkT u (ks.map (getT ts))])
theorem bld_len : ∀ (r : List (List Int × Nd)) (ts : List RT), (bld r ts).length = ts.length + r.length
  | [], ts => by simp [bld]
  | (ks, u) :: r, ts => by rw [bld, bld_len r]; simp; omega
theorem bld_pre : ∀ (r : List (List Int × Nd)) (ts : List RT) (i : Nat), i < ts.length → (bld r ts)[i]? = ts[i]?
  | [], ts, i, h => rfl
  | (ks, u) :: r, ts, i, h => by
    rw [bld, bld_pre r _ i (by simp; omega), List.getElem?_append_left h]
theorem bld_at : ∀ (r : List (List Int × Nd)) (ts : List RT) (i : Nat) (ks : List Int) (u : Nd), r[i]? = some (ks, u) → (∀ k ∈ ks, 0 ≤ k ∧ k < ts.length + i) → (bld r ts)[ts.length + i]? = some (mkT u (ks.map (getT (bld r ts))))
  | [], ts, i, ks, u, h, _ => by simp at h
  | (ks', u') :: r, ts, 0, ks, u, h, hk => by
    obtain ⟨rfl, rfl⟩ : ks' = ks ∧ u' = u := by simpa using h
    rw [bld, bld_pre r _ _ (by simp)]
    rw [List.getElem?_append_right (by omega)]
    simp only [Nat.add_zero, Nat.sub_self, List.getElem?_cons_zero, Option.some.injEq]
    congr 1
    refine List.map_congr_left fun k hk' => ?_
    have := hk k hk'
    unfold getT
    rw [bld_pre r _ _ (by simp; omega), List.getElem?_append_left (by omega)]
  | (ks', u') :: r, ts, i + 1, ks, u, h, hk => by
    have := bld_at r (ts ++ [mkT u' (ks'.map (getT ts))]) i ks u (by simpa using h) (fun k hk' => by have := hk k hk'; simp; omega)
    rw [bld]
    rw [List.length_append, List.length_singleton, show ts.length + 1 + i = ts.length + (i + 1) by omega] at this
    exact this
def pairs : List Int → List (Int × Int)
  | lo :: hi :: r => (lo, hi) :: pairs r
  | _ => []
theorem pairs_len : ∀ s : List Int, (pairs s).length ≤ s.length
  | [] => by simp [pairs]
  | [x] => by simp [pairs]
  | x :: y :: r => by have := pairs_len r; simp [pairs]; omega
theorem inS_any : ∀ (s : List Int) (x : Int), (pairs s).any (fun u => decide (u.1 ≤ x) && decide (x ≤ u.2)) = inS s x
  | [], x => rfl
  | [_], x => rfl
  | lo :: hi :: r, x => by
    unfold pairs inS
    rw [List.any_cons, inS_any r x]
theorem p_spans_l : ∀ (n : Nat) (rest pre : List Int) (out : List (Int × Int)), rest.length ≤ n → pre.length + rest.length ≤ 1000000 → out.length ≤ pre.length → ∀ k, rest.length < k → impl_spansOf.l1 (pre ++ rest) k out pre.length = some (out ++ pairs rest) := by
  intro n
  induction n with
  | zero =>
    intro rest pre out hn hb ho k hk
    obtain rfl : rest = [] := List.eq_nil_of_length_eq_zero (by omega)
    obtain ⟨k, rfl⟩ := Nat.exists_eq_succ_of_ne_zero (show k ≠ 0 by omega)
    rw [impl_spansOf.l1, wrapN pre.length (by simp at hb; omega), if_neg (by simp; omega)]
    simp [pairs]
  | succ n ih =>
    intro rest pre out hn hb ho k hk
    obtain ⟨k, rfl⟩ := Nat.exists_eq_succ_of_ne_zero (show k ≠ 0 by omega)
    match rest, hn, hb, hk with
    | [], _, hb, _ =>
      rw [impl_spansOf.l1, wrapN pre.length (by simp at hb; omega), if_neg (by simp; omega)]
      simp [pairs]
    | [x], _, hb, _ =>
      rw [impl_spansOf.l1, wrapN pre.length (by simp at hb; omega), if_neg (by simp)]
      simp [pairs]
    | x :: y :: r, hn, hb, hk =>
      simp only [List.length_cons] at hn hb hk
      have ha : pre ++ x :: y :: r = (pre ++ [x]) ++ y :: r := by simp
      have hl1 : ((pre.length + 1 : Nat) : Int) = ((pre ++ [x]).length : Int) := by simp
      have ry : rd? (pre ++ x :: y :: r) ((pre.length + 1 : Nat) : Int) = some y := by rw [hl1, ha, rd_mid]
      rw [impl_spansOf.l1, wrapN pre.length (by omega), if_pos (by rw [decide_eq_true_eq]; simp only [List.length_append, List.length_cons]; omega), rd_mid, ry]
      simp only [Option.bind_some]
      rw [app?_at (by simp; omega)]
      simp only [Option.bind_some]
      have hl2 : IntKind.i64.wrap ((pre.length : Int) + 2) = ((pre ++ [x] ++ [y]).length : Int) := by rw [wrapS (by omega) (by omega)]; simp only [List.length_append, List.length_singleton]; omega
      have ha2 : pre ++ x :: y :: r = (pre ++ [x] ++ [y]) ++ r := by simp
      rw [hl2, ha2, ih r (pre ++ [x] ++ [y]) (out ++ [(x, y)]) (by omega) (by simp; omega) (by simp; omega) k (by omega)]
      simp [pairs]
theorem p_spansOf (s : List Int) (hs : s.length ≤ 1000000) : impl_spansOf.f s = some (pairs s) := by
  unfold impl_spansOf.f
  have := p_spans_l s.length s [] [] (Nat.le_refl _) (by simpa using hs) (Nat.le_refl _) (((s.length : Int) - IntKind.i64.wrap (0 + 1)).toNat + 2) (by rw [wrapS (by omega) (by omega)]; omega)
  rw [List.nil_append, show ((([] : List Int).length : Nat) : Int) = 0 from rfl] at this
  rw [this]
  rfl
theorem p_implIn (s : List Int) (x : Int) (hs : s.length ≤ 1000000) : impl_inSet.f s x = some (inS s x) := by
  unfold impl_inSet.f
  rw [p_spansOf s hs]
  simp only [Option.bind_some]
  unfold slices_ContainsFunc_impl_span_impl_span_impl_inSet_1.f slices_IndexFunc_impl_span_impl_span_impl_inSet_1.f
  have hp : (pairs s).length ≤ big := by have := pairs_len s; unfold big; omega
  generalize hq : pairs s = p at *
  have e1 : ∀ u : Int × Int, impl_inSet_1.f u.1 u.2 x = some (decide (u.1 ≤ x) && decide (x ≤ u.2)) := fun u => by
    unfold impl_inSet_1.f
    simp only [p_inRange, Option.bind_some]
  have := scan_loop p hp (fun u => decide (u.1 ≤ x) && decide (x ≤ u.2)) (fun i _ => i) (slices_IndexFunc_impl_span_impl_span_impl_inSet_1.l1 p x) (fun k i => by rw [slices_IndexFunc_impl_span_impl_span_impl_inSet_1.l1]; simp only [e1, Option.bind_some]) (((p.length : Int) - 0).toNat + 2) 0 (by omega) (by omega)
  rw [show ((0 : Nat) : Int) = 0 from rfl] at this
  rw [this, List.drop_zero]
  have e := inS_any s x
  rw [hq] at e
  rw [← e]
  cases hf : p.findIdx? (fun u => decide (u.1 ≤ x) && decide (x ≤ u.2)) with
  | none =>
    have : p.any (fun u => decide (u.1 ≤ x) && decide (x ≤ u.2)) = false := by
      rw [List.findIdx?_eq_none_iff] at hf
      rw [List.any_eq_false]
      intro u hu
      rw [hf u hu]
      simp
    rw [this]; simp
  | some j =>
    obtain ⟨hj, h1, h2⟩ := List.findIdx?_eq_some_iff_getElem.1 hf
    have : p.any (fun u => decide (u.1 ≤ x) && decide (x ≤ u.2)) = true := List.any_eq_true.2 ⟨_, List.getElem_mem hj, h1⟩
    rw [this]
    simp [hj]
theorem p_specIn_l (x : Int) : ∀ (n : Nat) (rest pre : List Int), rest.length ≤ n → pre.length + rest.length ≤ 1000000 → rest.length % 2 = 0 → ∀ k, rest.length < k → spec_l4In.l1 (pre ++ rest) x k pre.length = some (if inS rest x then .ret true else .go ()) := by
  intro n
  induction n with
  | zero =>
    intro rest pre hn hb he k hk
    obtain rfl : rest = [] := List.eq_nil_of_length_eq_zero (by omega)
    obtain ⟨k, rfl⟩ := Nat.exists_eq_succ_of_ne_zero (show k ≠ 0 by omega)
    rw [spec_l4In.l1, if_neg (by simp)]
    rfl
  | succ n ih =>
    intro rest pre hn hb he k hk
    obtain ⟨k, rfl⟩ := Nat.exists_eq_succ_of_ne_zero (show k ≠ 0 by omega)
    match rest, hn, hb, he, hk with
    | [], _, _, _, _ =>
      rw [spec_l4In.l1, if_neg (by simp)]
      rfl
    | [x], _, _, he, _ => simp at he
    | y :: z :: r, hn, hb, he, hk =>
      simp only [List.length_cons] at hn hb hk he
      have ha : pre ++ y :: z :: r = (pre ++ [y]) ++ z :: r := by simp
      have hl1 : IntKind.i64.wrap ((pre.length : Int) + 1) = ((pre ++ [y]).length : Int) := by rw [wrapS (by omega) (by omega)]; simp
      have ry : rd? (pre ++ y :: z :: r) (IntKind.i64.wrap ((pre.length : Int) + 1)) = some z := by rw [hl1, ha, rd_mid]
      rw [spec_l4In.l1, if_pos (by rw [decide_eq_true_eq]; simp only [List.length_append, List.length_cons]; omega), rd_mid, ry]
      simp only [Option.bind_some, p_l1In]
      unfold inS
      cases hd : (decide (y ≤ x) && decide (x ≤ z)) with
      | true => rfl
      | false =>
        have hl2 : IntKind.i64.wrap ((pre.length : Int) + 2) = ((pre ++ [y] ++ [z]).length : Int) := by rw [wrapS (by omega) (by omega)]; simp only [List.length_append, List.length_singleton]; omega
        have ha2 : pre ++ y :: z :: r = (pre ++ [y] ++ [z]) ++ r := by simp
        rw [hl2, ha2, ih r (pre ++ [y] ++ [z]) (by omega) (by simp; omega) (by omega) k (by omega)]
        simp
theorem p_specIn (s : List Int) (x : Int) (hs : s.length ≤ 1000000) (he : s.length % 2 = 0) : spec_l4In.f s x = some (inS s x) := by
  unfold spec_l4In.f
  have := p_specIn_l x s.length s [] (Nat.le_refl _) (by simpa using hs) he (((s.length : Int) - 0).toNat + 2) (by omega)
  rw [List.nil_append, show ((([] : List Int).length : Nat) : Int) = 0 from rfl] at this
  rw [this]
  cases inS s x <;> rfl
/-- Going back over the part that ends at a place. -/
def Scan (p : List Nd) (r s : Int) : Prop := 0 ≤ s ∧ s ≤ r ∧ r < p.length ∧ ∀ (n : Int) (f : Nat), 0 ≤ n → n + (r - s) ≤ 1000000 → spec_l5First.l1 p (f + (r - s + 1).toNat) (n + 1) r = spec_l5First.l1 p f n (s - 1)
/-- A pile, the last part first: each part's last node, and where the part begins. -/
def Pile (p : List Nd) : Int → List Int → Prop
  | e, [] => e = -1
  | e, r :: rs => r = e ∧ ∃ s, Scan p r s ∧ Pile p (s - 1) rs
theorem Scan.leaf {p : List Nd} (hp : p.length ≤ 1000) (i : Nat) (hi : i < p.length) (h : ar p[i].1 = 0) : Scan p i i := by
  refine ⟨by omega, Int.le_refl _, by omega, fun n f h0 h1 => ?_⟩
  rw [show ((i : Int) - i + 1).toNat = 1 by omega, spec_l5First.l1, if_pos (by simp; omega), rd?_at hi]
  simp only [Option.bind_some, p_arity, h]
  rw [wrapS (n := 0 - 1) (by omega) (by omega), wrapS (by omega) (by omega), wrapS (by omega) (by omega)]
  rw [show n + 1 + (0 - 1) = n by omega]
theorem Scan.one {p : List Nd} (hp : p.length ≤ 1000) (i : Nat) (hi : i < p.length) (h : ar p[i].1 = 1) {s : Int} (hs : Scan p ((i : Int) - 1) s) : Scan p i s := by
  obtain ⟨h1, h2, h3, h4⟩ := hs
  refine ⟨h1, by omega, by omega, fun n f h0 h5 => ?_⟩
  rw [show f + ((i : Int) - s + 1).toNat = (f + ((i : Int) - 1 - s + 1).toNat) + 1 by omega, spec_l5First.l1, if_pos (by simp; omega), rd?_at hi]
  simp only [Option.bind_some, p_arity, h]
  rw [wrapS (n := 1 - 1) (by omega) (by omega), wrapS (by omega) (by omega), wrapS (by omega) (by omega)]
  rw [show n + 1 + (1 - 1) = n + 1 by omega]
  exact h4 n f h0 (by omega)
theorem Scan.two {p : List Nd} (hp : p.length ≤ 1000) (i : Nat) (hi : i < p.length) (h : ar p[i].1 = 2) {s s' : Int} (hs : Scan p ((i : Int) - 1) s) (hs' : Scan p (s - 1) s') : Scan p i s' := by
  obtain ⟨h1, h2, h3, h4⟩ := hs
  obtain ⟨g1, g2, g3, g4⟩ := hs'
  refine ⟨g1, by omega, by omega, fun n f h0 h5 => ?_⟩
  rw [show f + ((i : Int) - s' + 1).toNat = ((f + (s - 1 - s' + 1).toNat) + ((i : Int) - 1 - s + 1).toNat) + 1 by omega, spec_l5First.l1, if_pos (by simp; omega), rd?_at hi]
  simp only [Option.bind_some, p_arity, h]
  rw [wrapS (n := 2 - 1) (by omega) (by omega), wrapS (by omega) (by omega), wrapS (by omega) (by omega)]
  rw [show n + 1 + (2 - 1) = (n + 1) + 1 by omega, h4 (n + 1) _ (by omega) (by omega)]
  exact g4 n f h0 (by omega)
theorem first_of {p : List Nd} (hp : p.length ≤ 1000) (i : Nat) (hi : i < p.length) {s : Int} (hs : Scan p ((i : Int) - 1) s) : spec_l5First.f p i = some (s - 1) := by
  obtain ⟨h1, h2, h3, h4⟩ := hs
  unfold spec_l5First.f
  rw [wrapS (by omega) (by omega)]
  have := h4 0 (p.length + 2 - ((i : Int) - 1 - s + 1).toNat) (by omega) (by omega)
  rw [show p.length + 2 - ((i : Int) - 1 - s + 1).toNat + ((i : Int) - 1 - s + 1).toNat = p.length + 2 by omega, show (0 : Int) + 1 = 1 from rfl] at this
  rw [this]
  obtain ⟨f, hf⟩ := Nat.exists_eq_succ_of_ne_zero (show p.length + 2 - ((i : Int) - 1 - s + 1).toNat ≠ 0 by omega)
  rw [hf, spec_l5First.l1, if_neg (by decide)]
  rfl
def KidOk (p : List Nd) (ks : List Int) (k : Nat) (u : Nd) : Prop := (ar u.1 = 0 → ks = []) ∧ (ar u.1 = 1 → ks = [(k : Int) - 1] ∧ 1 ≤ k) ∧ (ar u.1 = 2 → ∃ f : Int, ks = [f, (k : Int) - 1] ∧ 0 ≤ f ∧ f + 1 < k ∧ spec_l5First.f p k = some f) ∧ 0 ≤ ar u.1
def Kids (p : List Nd) (K : List (List Int)) (n : Nat) : Prop := K.length = n ∧ ∀ (k : Nat) (hk : k < n) (hp : k < p.length), ∃ ks, K[k]? = some ks ∧ KidOk p ks k p[k]
theorem drop_last {α : Type} (l : List α) (a : α) : (l ++ [a]).drop ((l ++ [a]).length - 1) = [a] := by
  rw [List.length_append, List.length_singleton, Nat.add_sub_cancel, List.drop_left]
theorem kids_of (p : List Nd) (hp : p.length ≤ 1000) : ∀ (rest pre : List Nd) (pile : List Int) (out K : List (List Int)) (q : List Int), p = pre ++ rest → Pile p ((pre.length : Int) - 1) pile.reverse → Kids p out pre.length → pileR rest pre.length pile out = some (K, q) → Kids p K p.length ∧ Pile p ((p.length : Int) - 1) q.reverse := by
  intro rest
  induction rest with
  | nil =>
    intro pre pile out K q hpe hP hK h
    rw [List.append_nil] at hpe
    subst hpe
    unfold pileR at h
    injection h with h
    injection h with h1 h2
    subst h1 h2
    exact ⟨hK, hP⟩
  | cons u us ih =>
    intro pre pile out K q hpe hP hK h
    unfold pileR at h
    split at h
    · cases h
    rename_i hn
    have hi : pre.length < p.length := by rw [hpe]; simp
    have hu : p[pre.length] = u := by subst hpe; simp
    have hbd := ar_bd u.1
    have hl : pre.length = out.length := hK.1.symm
    -- the step, told for what is taken off
    have step : ∀ (pile' ks : List Int), pile.take (pile.length - (ar u.1).toNat) = pile' → pile.drop (pile.length - (ar u.1).toNat) = ks → KidOk p ks pre.length u → (∃ s, Scan p pre.length s ∧ Pile p (s - 1) pile'.reverse) → Kids p K p.length ∧ Pile p ((p.length : Int) - 1) q.reverse := by
      intro pile' ks e1 e2 hk ⟨s, hs, hP'⟩
      rw [e1, e2] at h
      refine ih (pre ++ [u]) (pile' ++ [(pre.length : Int)]) (out ++ [ks]) K q (by rw [hpe]; simp) ?_ ⟨by simp [hK.1], fun k hk1 hk2 => ?_⟩ ?_
      · rw [List.reverse_append]
        exact ⟨by simp, s, hs, hP'⟩
      · simp only [List.length_append, List.length_singleton] at hk1
        by_cases hkp : k < pre.length
        · obtain ⟨ks', g1, g2⟩ := hK.2 k hkp hk2
          exact ⟨ks', by rw [List.getElem?_append_left (by omega)]; exact g1, g2⟩
        · obtain rfl : k = pre.length := by omega
          refine ⟨ks, by rw [hl, List.getElem?_append_right (Nat.le_refl _)]; simp, ?_⟩
          rw [hu]; exact hk
      · rw [List.length_append, List.length_singleton]
        exact h
    have hcase : ar u.1 = 0 ∨ ar u.1 = 1 ∨ ar u.1 = 2 := by omega
    rcases hcase with ha | ha | ha
    · refine step pile [] (by rw [ha]; simp) (by rw [ha]; simp) ⟨fun _ => rfl, fun h => by omega, fun h => by omega, by omega⟩ ⟨pre.length, Scan.leaf hp _ hi (by rw [hu]; exact ha), hP⟩
    · rcases List.eq_nil_or_concat pile with rfl | ⟨pl, r, rfl⟩
      · simp at hn; omega
      rw [List.concat_eq_append] at *
      rw [List.reverse_append] at hP
      obtain ⟨hr, s, hs, hP'⟩ := hP
      have hr : r = (pre.length : Int) - 1 := hr
      subst hr
      have h1 : 1 ≤ pre.length := by have := hs.1; have := hs.2.1; omega
      refine step pl [(pre.length : Int) - 1] (by rw [ha]; simp) (by rw [ha]; exact drop_last pl _) ⟨fun h => by omega, fun _ => ⟨rfl, h1⟩, fun h => by omega, by omega⟩ ⟨s, Scan.one hp _ hi (by rw [hu]; exact ha) hs, hP'⟩
    · rcases List.eq_nil_or_concat pile with rfl | ⟨pl, r, rfl⟩
      · simp at hn; omega
      rw [List.concat_eq_append] at *
      rcases List.eq_nil_or_concat pl with rfl | ⟨pl, r2, rfl⟩
      · simp at hn; omega
      rw [List.concat_eq_append] at *
      rw [List.reverse_append, List.reverse_append] at hP
      obtain ⟨hr, s, hs, hr2, s2, hs2, hP'⟩ := hP
      have hr : r = (pre.length : Int) - 1 := hr
      have hr2 : r2 = s - 1 := hr2
      subst hr hr2
      have b1 := hs.1
      have b2 := hs.2.1
      have b3 := hs2.1
      have b4 := hs2.2.1
      refine step pl [s - 1, (pre.length : Int) - 1] (by rw [ha]; simp) (by rw [ha]; simp) ⟨fun h => by omega, fun h => by omega, fun _ => ⟨s - 1, rfl, by omega, by omega, first_of hp _ hi hs⟩, by omega⟩ ⟨s2, Scan.two hp _ hi (by rw [hu]; exact ha) hs hs2, hP'⟩
theorem rd?_get' {α : Type} {xs : List α} {i : Nat} {x : α} (h : xs[i]? = some x) : rd? xs (i : Int) = some x := by
  obtain ⟨h1, h2⟩ := List.getElem?_eq_some_iff.1 h
  rw [rd?_at h1, h2]
/-- The trees of a pattern. -/
def trs (p : List Nd) (K : List (List Int)) : List RT := bld (K.zip p) []
theorem trs_at {p : List Nd} {K : List (List Int)} (hK : Kids p K p.length) {k : Nat} (hk : k < p.length) {ks : List Int} (h : K[k]? = some ks) (hks : ∀ c ∈ ks, 0 ≤ c ∧ c < k) : getT (trs p K) (k : Int) = mkT p[k] (ks.map (getT (trs p K))) := by
  have hz : (K.zip p)[k]? = some (ks, p[k]) := by
    rw [List.getElem?_zip_eq_some]
    exact ⟨h, List.getElem?_eq_getElem hk⟩
  have := bld_at (K.zip p) [] k ks p[k] hz (fun c hc => by have := hks c hc; simp; omega)
  simp only [List.length_nil, Nat.zero_add] at this
  unfold getT
  rw [Int.toNat_natCast]
  show ((bld (K.zip p) [])[k]?).getD .nil = _
  rw [this]
  rfl
theorem ar_cases {k : Int} (h : 0 ≤ ar k) : k = 1 ∨ k = 2 ∨ k = 3 ∨ k = 4 ∨ k = 5 ∨ k = 6 ∨ k = 7 := by
  unfold ar at h
  split at h
  · omega
  · split at h
    · omega
    · split at h
      · omega
      · omega
/-- The greatest place of a stretch that does it. -/
def topF (g : Nat → Bool) (f : Nat) : Nat → Nat
  | 0 => f
  | n + 1 => if g (f + (n + 1)) = true then f + (n + 1) else topF g f n
theorem topF_bd (g : Nat → Bool) (f : Nat) : ∀ n, f ≤ topF g f n ∧ topF g f n ≤ f + n
  | 0 => ⟨Nat.le_refl _, Nat.le_refl _⟩
  | n + 1 => by
    unfold topF
    split
    · omega
    · have := topF_bd g f n
      omega
theorem topF_ok {g : Nat → Bool} {f : Nat} : ∀ {n : Nat}, (∃ i, i ≤ n ∧ g (f + i) = true) → g (topF g f n) = true
  | 0, ⟨i, h1, h2⟩ => by
    obtain rfl : i = 0 := by omega
    exact h2
  | n + 1, ⟨i, h1, h2⟩ => by
    unfold topF
    split
    · assumption
    · rename_i hn
      exact topF_ok ⟨i, by
        rcases Nat.lt_or_ge i (n + 1) with h | h
        · omega
        · obtain rfl : i = n + 1 := by omega
          exact absurd h2 hn, h2⟩
theorem topF_ge {g : Nat → Bool} {f : Nat} : ∀ {n i : Nat}, i ≤ n → g (f + i) = true → f + i ≤ topF g f n
  | 0, i, h1, _ => by
    obtain rfl : i = 0 := by omega
    exact Nat.le_refl _
  | n + 1, i, h1, h2 => by
    unfold topF
    split
    · omega
    · rename_i hn
      refine topF_ge ?_ h2
      rcases Nat.lt_or_ge i (n + 1) with h | h
      · omega
      · obtain rfl : i = n + 1 := by omega
        exact absurd h2 hn
abbrev Sp := Int × Int × Int
def tA (p : List Nd) (K : List (List Int)) (l : List Int) (c : Int) (i j : Nat) : Bool := acc (getT (trs p K) c) (seg l i j)
def kid (K : List (List Int)) (k i : Nat) : Nat := ((((K[k]?).getD [])[i]?).getD 0).toNat
/-- A repetition's parts, one behind the other. -/
def starL (P : Nat → Nat → List Sp) (q : Nat → Nat → Bool) : Nat → Nat → Nat → List Sp
  | 0, _, _ => []
  | n + 1, f, t => if f < t then P f (topF (q f) f (t - f)) ++ starL P q n (topF (q f) f (t - f)) t else []
/-- The parse that is chosen. -/
def prs (p : List Nd) (K : List (List Int)) (l : List Int) : Nat → Nat → Nat → Nat → List Sp
  | 0, _, _, _ => []
  | n + 1, k, f, t => ((k : Int), (f : Int), (t : Int)) ::
    (if ((p[k]?).map (·.1)).getD 0 = 4 then (if tA p K l (kid K k 0) f t = true then prs p K l n (kid K k 0) f t else prs p K l n (kid K k 1) f t)
    else if ((p[k]?).map (·.1)).getD 0 = 3 then
      prs p K l n (kid K k 0) f (topF (fun m => tA p K l (kid K k 0) f m && tA p K l (kid K k 1) m t) f (t - f)) ++ prs p K l n (kid K k 1) (topF (fun m => tA p K l (kid K k 0) f m && tA p K l (kid K k 1) m t) f (t - f)) t
    else if ((p[k]?).map (·.1)).getD 0 = 6 then starL (prs p K l n (kid K k 0)) (fun f m => tA p K l (kid K k 0) f m && tA p K l k m t) (t - f) f t
    else [])
/-- A repetition goes on. -/
theorem star_on {p : List Nd} {K : List (List Int)} {l : List Int} {k a f t : Nat} (hT : getT (trs p K) (k : Int) = .star (getT (trs p K) (a : Int))) (hft : f < t) (ht : t ≤ l.length) (h : tA p K l k f t = true) :
    ∃ i, i ≤ t - f ∧ 0 < i ∧ (tA p K l a f (f + i) && tA p K l k (f + i) t) = true := by
  unfold tA at h ⊢
  rw [hT] at h ⊢
  rw [acc_star_seg _ l f t (by omega) ht, Bool.or_eq_true, List.any_eq_true] at h
  rcases h with h | ⟨i, hi, h⟩
  · simp at h; omega
  · have := List.mem_range.1 hi
    exact ⟨i + 1, by omega, by omega, by rw [show f + (i + 1) = f + 1 + i by omega]; exact h⟩
theorem star_nil {p : List Nd} {K : List (List Int)} {l : List Int} {k a t : Nat} (hT : getT (trs p K) (k : Int) = .star (getT (trs p K) (a : Int))) (ht : t ≤ l.length) : tA p K l k t t = true := by
  unfold tA
  rw [hT, acc_star_seg _ l t t (Nat.le_refl _) ht]
  simp
theorem cat_on {p : List Nd} {K : List (List Int)} {l : List Int} {k a b f t : Nat} (hT : getT (trs p K) (k : Int) = .cat (getT (trs p K) (a : Int)) (getT (trs p K) (b : Int))) (hft : f ≤ t) (ht : t ≤ l.length) (h : tA p K l k f t = true) :
    ∃ i, i ≤ t - f ∧ (tA p K l a f (f + i) && tA p K l b (f + i) t) = true := by
  unfold tA at h ⊢
  rw [hT, acc_cat_seg _ _ l f t hft ht, List.any_eq_true] at h
  obtain ⟨i, hi, h⟩ := h
  have := List.mem_range.1 hi
  exact ⟨i, by omega, h⟩
/-- What a node's parse is: how long at most, what the code finds. -/
structure PrsOk (p : List Nd) (K : List (List Int)) (l : List Int) (I : Nat → List Sp → Nat → Nat → Nat → Option (List Sp)) (S : Nat → Nat → Nat → Nat → Option (List Sp)) (k kr : Nat) (sz : Nat) : Prop where
  len : ∀ f t, f ≤ t → t ≤ l.length → tA p K l k f t = true → (prs p K l kr k f t).length ≤ sz * max 1 (t - f)
  impl : ∀ f t out, f ≤ t → t ≤ l.length → tA p K l k f t = true → out.length + sz * max 1 (t - f) ≤ 1000000 → I kr out k f t = some (out ++ prs p K l kr k f t)
  spec : ∀ f t, f ≤ t → t ≤ l.length → tA p K l k f t = true → S kr k f t = some (prs p K l kr k f t)
theorem okRe_facts {p : List Nd} (h : okRe p = true) : 1 ≤ p.length ∧ p.length ≤ 40 ∧ (∀ u ∈ p, u.2.length ≤ 24 ∧ u.2.length % 2 = 0) ∧ ∃ K q, pileR p 0 [] [] = some (K, q) := by
  unfold okRe at h
  simp only [Bool.and_eq_true, decide_eq_true_eq] at h
  obtain ⟨⟨⟨h1, h2⟩, h3⟩, h4⟩ := h
  refine ⟨by omega, by omega, fun u hu => ?_, ?_⟩
  · have := List.all_eq_true.1 h3 u hu
    unfold okNd at this
    simp only [Bool.and_eq_true] at this
    have := this.1.1
    unfold okSet at this
    simp only [Bool.and_eq_true, decide_eq_true_eq] at this
    exact ⟨this.2, this.1.2⟩
  · cases hq : pileR p 0 [] [] with
    | none => rw [hq] at h4; cases h4
    | some o => exact ⟨o.1, o.2, rfl⟩
/-- A repetition's spans taken off. -/
def chkS (C : List Sp → Nat → Option (List Sp × Nat)) (t : Nat) : Nat → List Sp → Nat → Option (List Sp × Nat)
  | 0, _, _ => none
  | n + 1, s, f => if f < t then (C s f).bind fun o => if o.2 = f then none else chkS C t n o.1 o.2 else if f = t then some (s, t) else none
/-- The spans of a parse taken off: what is left, and where it ends. -/
def chk (p : List Nd) (K : List (List Int)) (l : List Int) : Nat → List Sp → Nat → Nat → Option (List Sp × Nat)
  | 0, _, _, _ => none
  | _ + 1, [], _, _ => none
  | n + 1, u :: rest, k, f =>
    if u.1 = (k : Int) ∧ u.2.1 = (f : Int) ∧ (f : Int) ≤ u.2.2 ∧ u.2.2 ≤ (l.length : Int) then
      if ((p[k]?).map (·.1)).getD 0 = 1 then (if f = u.2.2.toNat then some (rest, u.2.2.toNat) else none)
      else if ((p[k]?).map (·.1)).getD 0 = 2 then (if u.2.2.toNat = f + 1 ∧ inS (((p[k]?).map (·.2)).getD []) ((l[f]?).getD 0) = true then some (rest, u.2.2.toNat) else none)
      else if ((p[k]?).map (·.1)).getD 0 = 4 then (chk p K l n rest (if (rest.head?).map (·.1) = some ((kid K k 0 : Nat) : Int) then kid K k 0 else kid K k 1) f).bind fun o => if o.2 = u.2.2.toNat then some o else none
      else if ((p[k]?).map (·.1)).getD 0 = 3 then (chk p K l n rest (kid K k 0) f).bind fun o => (chk p K l n o.1 (kid K k 1) o.2).bind fun o' => if o'.2 = u.2.2.toNat then some o' else none
      else chkS (fun s f => chk p K l n s (kid K k 0) f) u.2.2.toNat (u.2.2.toNat - f + 1) rest f
    else none
theorem chkS_end {C : List Sp → Nat → Option (List Sp × Nat)} {t : Nat} {r : List Sp} {e : Nat} : ∀ {n : Nat} {s : List Sp} {f : Nat}, chkS C t n s f = some (r, e) → e = t
  | 0, s, f, h => by cases h
  | n + 1, s, f, h => by
    unfold chkS at h
    split at h
    · cases hc : C s f with
      | none => rw [hc] at h; cases h
      | some o =>
        rw [hc] at h
        simp only [Option.bind_some] at h
        split at h
        · cases h
        · exact chkS_end h
    · split at h
      · injection h with h; injection h with _ h; exact h.symm
      · cases h
theorem chk_facts {p : List Nd} {K : List (List Int)} {l : List Int} {n k f : Nat} {s r : List Sp} {e : Nat} (h : chk p K l n s k f = some (r, e)) : f ≤ e ∧ e ≤ l.length ∧ ∃ u rest, s = u :: rest ∧ u.1 = (k : Int) ∧ u.2.2 = (e : Int) ∧ u.2.1 = (f : Int) := by
  cases n with
  | zero => cases h
  | succ n =>
    cases s with
    | nil => cases h
    | cons u rest =>
      unfold chk at h
      split at h
      case isFalse => cases h
      rename_i hc
      obtain ⟨c1, c2, c3, c4⟩ := hc
      have key : e = u.2.2.toNat := by
        split at h
        · split at h
          · injection h with h; injection h with _ h; exact h.symm
          · cases h
        · split at h
          · split at h
            · injection h with h; injection h with _ h; exact h.symm
            · cases h
          · split at h
            · obtain ⟨o, ho, h⟩ := Option.bind_eq_some_iff.1 h
              split at h
              · rename_i he
                injection h with h
                rw [h] at he
                exact he
              · cases h
            · split at h
              · obtain ⟨o, ho, h⟩ := Option.bind_eq_some_iff.1 h
                obtain ⟨o', ho', h⟩ := Option.bind_eq_some_iff.1 h
                split at h
                · rename_i he
                  injection h with h
                  rw [h] at he
                  exact he
                · cases h
              · exact chkS_end h
      exact ⟨by omega, by omega, u, rest, rfl, c1, by omega, c2⟩
theorem chk_eq {p : List Nd} {K : List (List Int)} {l : List Int} {n k f : Nat} {u : Sp} {rest : List Sp} (hk : k < p.length) : chk p K l (n + 1) (u :: rest) k f =
    if u.1 = (k : Int) ∧ u.2.1 = (f : Int) ∧ (f : Int) ≤ u.2.2 ∧ u.2.2 ≤ (l.length : Int) then
      if p[k].1 = 1 then (if f = u.2.2.toNat then some (rest, u.2.2.toNat) else none)
      else if p[k].1 = 2 then (if u.2.2.toNat = f + 1 ∧ inS p[k].2 ((l[f]?).getD 0) = true then some (rest, u.2.2.toNat) else none)
      else if p[k].1 = 4 then (chk p K l n rest (if (rest.head?).map (·.1) = some ((kid K k 0 : Nat) : Int) then kid K k 0 else kid K k 1) f).bind fun o => if o.2 = u.2.2.toNat then some o else none
      else if p[k].1 = 3 then (chk p K l n rest (kid K k 0) f).bind fun o => (chk p K l n o.1 (kid K k 1) o.2).bind fun o' => if o'.2 = u.2.2.toNat then some o' else none
      else chkS (fun s f => chk p K l n s (kid K k 0) f) u.2.2.toNat (u.2.2.toNat - f + 1) rest f
    else none := by
  have hop : ((p[k]?).map (·.1)).getD 0 = p[k].1 := by rw [List.getElem?_eq_getElem hk]; rfl
  have hos : ((p[k]?).map (·.2)).getD [] = p[k].2 := by rw [List.getElem?_eq_getElem hk]; rfl
  conv => lhs; unfold chk
  rw [hop, hos]
/-- What the one side answers, of what was taken off. -/
def SpecAns (o : Option (List Sp × Nat)) (x : Option (List Sp × Int × Bool)) : Prop := match o with
  | some (r, e) => x = some (r, (e : Int), true)
  | none => ∃ r e, x = some (r, e, false)
def ImplAns (o : Option (List Sp × Nat)) (t : Nat) (x : Option (Bool × List Sp)) : Prop := match o with
  | some (r, e) => if e = t then x = some (true, r) else ∃ r', x = some (false, r')
  | none => ∃ r', x = some (false, r')
theorem cut_tail (u : Sp) (rest : List Sp) : cut? (u :: rest) 1 (((u :: rest).length : Nat) : Int) = some rest := by
  have := cut?_at (xs := u :: rest) (a := 1) (b := (u :: rest).length) (by simp) (Nat.le_refl _)
  rw [show ((1 : Nat) : Int) = 1 from rfl] at this
  rw [this]
  simp
section
variable {p : List Nd} {K : List (List Int)} {l : List Int}
theorem p_chkStar {self : List Nd → List Int → List Sp → Int → Int → Option (List Sp × Int × Bool)} {C : List Sp → Nat → Option (List Sp × Nat)} {k a t : Nat} {u : Sp} (hu : u.2.2 = (t : Int)) (hw : IntKind.i64.wrap ((k : Int) - 1) = (a : Int)) (hl : t ≤ l.length) (hC : ∀ s f, f ≤ l.length → SpecAns (C s f) (self p l s (a : Int) f)) (hC2 : ∀ s f r e, C s f = some (r, e) → f ≤ e ∧ e ≤ l.length) : ∀ (n kf f : Nat) (s : List Sp), f ≤ l.length → t - f < n → t - f < kf →
    (∃ r e b, spec_l14Check.l1 p l (k : Int) self u kf s f = some (.ret (r, e, b)) ∧ b = false ∧ chkS C t n s f = none) ∨ ∃ r e, spec_l14Check.l1 p l (k : Int) self u kf s f = some (.go (r, ((e : Nat) : Int))) ∧ chkS C t n s f = if e = t then some (r, t) else none := by
  intro n
  induction n with
  | zero => intro kf f s _ h; omega
  | succ n ih =>
    intro kf f s hf hn hk
    obtain ⟨kf, rfl⟩ := Nat.exists_eq_succ_of_ne_zero (show kf ≠ 0 by omega)
    rw [spec_l14Check.l1, hu]
    unfold chkS
    by_cases hft : f < t
    · rw [if_pos (by simpa using hft), if_pos hft, hw]
      have h1 := hC s f hf
      unfold SpecAns at h1
      cases hc : C s f with
      | none =>
        rw [hc] at h1
        obtain ⟨r, e, h1⟩ := h1
        rw [h1]
        exact .inl ⟨_, _, _, rfl, rfl, rfl⟩
      | some o =>
        obtain ⟨r, e⟩ := o
        rw [hc] at h1
        have h1 : self p l s (a : Int) f = some (r, (e : Int), true) := h1
        have h2 := hC2 s f r e hc
        rw [h1]
        simp only [Option.bind_some, Bool.not_true, Bool.false_eq_true, if_false]
        by_cases he : e = f
        · subst he
          simp only [beq_self_eq_true, if_true]
          exact .inl ⟨_, _, _, rfl, rfl, by first | rfl | trivial⟩
        · rw [if_neg he]
          have : ((e : Int) == (f : Int)) = false := by simp; omega
          simp only [this, Bool.false_eq_true, if_false]
          exact ih kf e r (by omega) (by omega) (by omega)
    · rw [if_neg (by simpa using hft), if_neg hft]
      exact .inr ⟨s, f, rfl, rfl⟩
theorem p_chkSpec (hp : p.length ≤ 1000) (hset : ∀ u ∈ p, u.2.length ≤ 1000 ∧ u.2.length % 2 = 0) (hl : l.length ≤ 1000) (hK : Kids p K p.length) (hpl : ∀ u ∈ p, u.1 ≠ 5 ∧ u.1 ≠ 7) : ∀ (n k f : Nat) (s : List Sp), k < n → k < p.length → f ≤ l.length → SpecAns (chk p K l n s k f) (spec_l14Check.r n p l s (k : Int) (f : Int)) := by
  intro n
  induction n with
  | zero => intro k f s h; omega
  | succ n ih =>
    intro k f s hkn hk hf
    have rp : rd? p (k : Int) = some p[k] := rd?_at hk
    have hne := hpl _ (List.getElem_mem hk)
    obtain ⟨ks, hks, k0, k1, k2, k3⟩ := hK.2 k hk hk
    rw [spec_l14Check.r, spec_l14Check.b]
    cases s with
    | nil => exact ⟨_, _, rfl⟩
    | cons u rest =>
      have c0 : ((((u :: rest).length : Nat) : Int) == 0) = false := by simp; omega
      have rs : rd? (u :: rest) 0 = some u := rfl
      rw [chk_eq hk, c0]
      simp only [Bool.false_eq_true, if_false, rs, Option.bind_some, p_l1In, cut_tail, rp]
      by_cases hc : u.1 = (k : Int) ∧ u.2.1 = (f : Int) ∧ (f : Int) ≤ u.2.2 ∧ u.2.2 ≤ (l.length : Int)
      case neg =>
        rw [if_neg hc]
        have e : (if (u.1 != (k : Int)) = true then some true else if (u.2.1 != (f : Int)) = true then some true else some (!(decide ((f : Int) ≤ u.2.2) && decide (u.2.2 ≤ (l.length : Int))))) = some true := by
          by_cases h1 : u.1 = (k : Int)
          · by_cases h2 : u.2.1 = (f : Int)
            · have : ¬ ((f : Int) ≤ u.2.2 ∧ u.2.2 ≤ (l.length : Int)) := fun h => hc ⟨h1, h2, h⟩
              have h3 : (decide ((f : Int) ≤ u.2.2) && decide (u.2.2 ≤ (l.length : Int))) = false := by
                rw [Bool.and_eq_false_iff]
                simp only [decide_eq_false_iff_not]
                omega
              simp [h1, h2, h3]
            · simp [h1, h2]
          · simp [h1]
        rw [e]
        exact ⟨_, _, rfl⟩
      rw [if_pos hc]
      obtain ⟨c1, c2, c3, c4⟩ := hc
      obtain ⟨t, ht⟩ := Int.eq_ofNat_of_zero_le (show 0 ≤ u.2.2 by omega)
      have x1 : (u.1 != (k : Int)) = false := by simp [c1]
      have x2 : (u.2.1 != (f : Int)) = false := by simp [c2]
      have x3 : decide ((f : Int) ≤ (t : Int)) = true := by simp; omega
      have x4 : decide ((t : Int) ≤ (l.length : Int)) = true := by simp; omega
      rw [ht] at c3 c4
      simp only [x1, x2, Bool.false_eq_true, if_false, ht, x3, x4, Bool.and_self, Bool.not_true, Option.bind_some, Int.toNat_natCast]
      rcases ar_cases k3 with h | h | h | h | h | h | h
      · simp only [h, beq_self_eq_true, if_true]
        by_cases hft : f = t
        · subst hft
          rw [if_pos rfl]
          simp [SpecAns]
        · rw [if_neg hft]
          have : ((f : Int) == (t : Int)) = false := by simp; omega
          rw [this]
          exact ⟨_, _, rfl⟩
      · have b1 : ((2 : Int) == 1) = false := by decide
        have n1 : ¬ ((2 : Int) = 1) := by decide
        simp only [h, b1, n1, Bool.false_eq_true, if_false, beq_self_eq_true, if_true]
        have hsk := hset _ (List.getElem_mem hk)
        rw [wrapN f (by omega)]
        by_cases hft : t = f + 1
        · subst hft
          have d1 : (((f + 1 : Nat) : Int) == ((f + 1 : Nat) : Int)) = true := by simp
          simp only [d1, if_true, rd?_at (show f < l.length by omega), Option.bind_some]
          rw [p_specIn _ _ (by omega) hsk.2, List.getElem?_eq_getElem (show f < l.length by omega), Option.getD_some]
          cases inS p[k].2 l[f]
          · rw [if_neg (by simp)]; exact ⟨_, _, rfl⟩
          · rw [if_pos (by simp)]; rfl
        · have d1 : ((t : Int) == ((f + 1 : Nat) : Int)) = false := by simp; omega
          simp only [d1, Bool.false_eq_true, if_false]
          rw [if_neg (fun h => hft h.1)]
          exact ⟨_, _, rfl⟩
      · -- one behind the other
        have b1 : ((3 : Int) == 1) = false := by decide
        have b2 : ((3 : Int) == 2) = false := by decide
        have b4 : ((3 : Int) == 4) = false := by decide
        have n1 : ¬ ((3 : Int) = 1) := by decide
        have n2 : ¬ ((3 : Int) = 2) := by decide
        have n4 : ¬ ((3 : Int) = 4) := by decide
        obtain ⟨g, e1, g0, g1, g2⟩ := k2 (by rw [h]; rfl)
        obtain ⟨g, rfl⟩ := Int.eq_ofNat_of_zero_le g0
        have hw : IntKind.i64.wrap ((k : Int) - 1) = ((k - 1 : Nat) : Int) := by rw [wrapS (by omega) (by omega)]; omega
        have q0 : kid K k 0 = g := by unfold kid; rw [hks, e1]; simp
        have q1 : kid K k 1 = k - 1 := by unfold kid; rw [hks, e1]; simp
        simp only [h, b1, b2, b4, n1, n2, n4, Bool.false_eq_true, if_false, beq_self_eq_true, if_true, g2, Option.bind_some, q0, q1, hw]
        have A := ih g f rest (by omega) (by omega) hf
        unfold SpecAns at A
        cases ha : chk p K l n rest g f with
        | none =>
          rw [ha] at A
          obtain ⟨r, e, A⟩ := A
          rw [A]
          exact ⟨_, _, rfl⟩
        | some o =>
          obtain ⟨r, e⟩ := o
          rw [ha] at A
          have A : spec_l14Check.r n p l rest (g : Int) (f : Int) = some (r, (e : Int), true) := A
          have he := chk_facts ha
          rw [A]
          simp only [Option.bind_some, Bool.not_true, Bool.false_eq_true, if_false]
          have B := ih (k - 1) e r (by omega) (by omega) he.2.1
          unfold SpecAns at B
          cases hb : chk p K l n r (k - 1) e with
          | none =>
            rw [hb] at B
            obtain ⟨r2, e2, B⟩ := B
            rw [B]
            exact ⟨_, _, rfl⟩
          | some o =>
            obtain ⟨r2, e2⟩ := o
            rw [hb] at B
            have B : spec_l14Check.r n p l r ((k - 1 : Nat) : Int) (e : Int) = some (r2, (e2 : Int), true) := B
            rw [B]
            simp only [Option.bind_some, if_true]
            by_cases h3 : e2 = t
            · subst h3; rw [if_pos rfl]; simp [SpecAns]
            · rw [if_neg h3]
              have : ((e2 : Int) == (t : Int)) = false := by simp; omega
              rw [this]
              exact ⟨_, _, rfl⟩
      · -- one or the other
        have b1 : ((4 : Int) == 1) = false := by decide
        have b2 : ((4 : Int) == 2) = false := by decide
        have n1 : ¬ ((4 : Int) = 1) := by decide
        have n2 : ¬ ((4 : Int) = 2) := by decide
        obtain ⟨g, e1, g0, g1, g2⟩ := k2 (by rw [h]; rfl)
        obtain ⟨g, rfl⟩ := Int.eq_ofNat_of_zero_le g0
        have hw : IntKind.i64.wrap ((k : Int) - 1) = ((k - 1 : Nat) : Int) := by rw [wrapS (by omega) (by omega)]; omega
        have q0 : kid K k 0 = g := by unfold kid; rw [hks, e1]; simp
        have q1 : kid K k 1 = k - 1 := by unfold kid; rw [hks, e1]; simp
        simp only [h, b1, b2, n1, n2, Bool.false_eq_true, if_false, beq_self_eq_true, if_true, g2, Option.bind_some, q0, q1, hw]
        have part : ((if decide ((rest.length : Int) > 0) = true then (rd? rest 0).bind fun u83 => some (u83.1 == (g : Int)) else some false).bind fun o => if o = true then some (g : Int) else some ((k - 1 : Nat) : Int)) = some (((if (rest.head?).map (·.1) = some (g : Int) then g else k - 1 : Nat)) : Int) := by
          cases rest with
          | nil => simp
          | cons v vs =>
            have : rd? (v :: vs) 0 = some v := rfl
            rw [if_pos (by simp), this]
            simp only [Option.bind_some, List.head?_cons, Option.map_some, Option.some.injEq, beq_iff_eq]
            split <;> rfl
        rw [part]
        simp only [Option.bind_some]
        generalize hpt : (if (rest.head?).map (·.1) = some (g : Int) then g else k - 1 : Nat) = c
        have hc : c < k := by rw [← hpt]; split <;> omega
        have A := ih c f rest (by omega) (by omega) hf
        unfold SpecAns at A
        cases ha : chk p K l n rest c f with
        | none =>
          rw [ha] at A
          obtain ⟨r, e, A⟩ := A
          rw [A]
          exact ⟨_, _, rfl⟩
        | some o =>
          obtain ⟨r, e⟩ := o
          rw [ha] at A
          have A : spec_l14Check.r n p l rest (c : Int) (f : Int) = some (r, (e : Int), true) := A
          rw [A]
          simp only [Option.bind_some, if_true]
          by_cases h3 : e = t
          · subst h3; rw [if_pos rfl]; simp [SpecAns]
          · rw [if_neg h3]
            have : ((e : Int) == (t : Int)) = false := by simp; omega
            rw [this]
            exact ⟨_, _, rfl⟩
      · exact absurd h hne.1
      · -- again and again
        have b1 : ((6 : Int) == 1) = false := by decide
        have b2 : ((6 : Int) == 2) = false := by decide
        have b3 : ((6 : Int) == 3) = false := by decide
        have b4 : ((6 : Int) == 4) = false := by decide
        have n1 : ¬ ((6 : Int) = 1) := by decide
        have n2 : ¬ ((6 : Int) = 2) := by decide
        have n3 : ¬ ((6 : Int) = 3) := by decide
        have n4 : ¬ ((6 : Int) = 4) := by decide
        obtain ⟨e1, g1⟩ := k1 (by rw [h]; rfl)
        have hw : IntKind.i64.wrap ((k : Int) - 1) = ((k - 1 : Nat) : Int) := by rw [wrapS (by omega) (by omega)]; omega
        have q0 : kid K k 0 = k - 1 := by unfold kid; rw [hks, e1]; simp
        simp only [h, b1, b2, b3, b4, n1, n2, n3, n4, Bool.false_eq_true, if_false, q0]
        rcases p_chkStar (p := p) (l := l) (self := spec_l14Check.r n) (C := fun s f => chk p K l n s (k - 1) f) (k := k) (u := u) ht hw (by omega) (fun s f hf => ih (k - 1) f s (by omega) (by omega) hf) (fun s f r e he => ⟨(chk_facts he).1, (chk_facts he).2.1⟩) (t - f + 1) (((t : Int) - (f : Int)).toNat + 2) f rest hf (by omega) (by omega) with ⟨r, e, b, h1, rfl, h3⟩ | ⟨r, e, h1, h3⟩
        · rw [h1, h3]
          exact ⟨_, _, rfl⟩
        · rw [h1, h3]
          simp only [Option.bind_some]
          by_cases h4 : e = t
          · subst h4; rw [if_pos rfl]; simp [SpecAns]
          · rw [if_neg h4]
            have : ((e : Int) == (t : Int)) = false := by simp; omega
            rw [this]
            exact ⟨_, _, rfl⟩
      · exact absurd h hne.2
end
def fst0 (s : List Sp) : Int × Int × Int × Bool := match s with
  | [] => (0, 0, 0, false)
  | u :: _ => (u.1, u.2.1, u.2.2, true)
section
variable {p : List Nd} {K : List (List Int)} {l : List Int} {tb : List (List (List Bool))}
theorem p_first (s : List Sp) : impl_spanReader_first.f p K l tb s = some (fst0 s) := by
  unfold impl_spanReader_first.f
  cases s with
  | nil => rfl
  | cons u rest =>
    have c0 : ((((u :: rest).length : Nat) : Int) == 0) = false := by simp; omega
    rw [c0]
    rfl
theorem p_has2 (a b x : Int) : slices_Contains_int_int.f [a, b] x = some (x == a || x == b) := by
  have r0 : rd? [a, b] 0 = some a := rfl
  have r1 : rd? [a, b] (IntKind.i64.wrap (0 + 1)) = some b := by rw [wrapS (by omega) (by omega)]; rfl
  have l0 : decide ((0 : Int) < (([a, b].length : Nat) : Int)) = true := by simp
  have l1 : decide (IntKind.i64.wrap (0 + 1) < (([a, b].length : Nat) : Int)) = true := by rw [wrapS (by omega) (by omega)]; simp
  have l2 : decide (IntKind.i64.wrap (IntKind.i64.wrap (0 + 1) + 1) < (([a, b].length : Nat) : Int)) = false := by rw [wrapS (n := 0 + 1) (by omega) (by omega), wrapS (by omega) (by omega)]; simp
  unfold slices_Contains_int_int.f slices_Index_int_int.f
  rw [show ((([a, b].length : Nat) : Int) - 0).toNat + 2 = 4 from rfl, slices_Index_int_int.l1, l0, if_pos rfl, r0]
  simp only [Option.bind_some]
  by_cases h1 : x = a
  · have : (x == a) = true := by simpa using h1
    simp [this]
  · have : (x == a) = false := by simpa using h1
    rw [this, slices_Index_int_int.l1, l1, if_pos rfl, r1]
    simp only [Option.bind_some, Bool.false_eq_true, if_false]
    by_cases h2 : x = b
    · have : (x == b) = true := by simpa using h2
      rw [this, wrapS (n := 0 + 1) (by omega) (by omega)]
      rfl
    · have : (x == b) = false := by simpa using h2
      rw [this, slices_Index_int_int.l1, l2]
      rfl
theorem p_implStar {self : List Nd → List (List Int) → List Int → List (List (List Bool)) → List Sp → Int → Int → Int → Option (Bool × List Sp)} {C : List Sp → Nat → Option (List Sp × Nat)} {ks : List Int} {a t : Nat} (h0 : rd? ks 0 = some (a : Int)) (hl : l.length ≤ 1000) (ht : t ≤ l.length) (hC : ∀ s f t, f ≤ t → t ≤ l.length → ImplAns (C s f) t (self p K l tb s (a : Int) f t))
    (hC2 : ∀ s f r e, C s f = some (r, e) → f ≤ e ∧ ∃ u rest, s = u :: rest ∧ u.2.2 = (e : Int)) : ∀ (n kf f : Nat) (s : List Sp), f ≤ t → t - f < n → t - f < kf →
    match chkS C t n s f with
    | some (r, _) => impl_spanReader_take.l1 p K l tb t self ks kf f s = some (.go r)
    | none => ∃ r', impl_spanReader_take.l1 p K l tb t self ks kf f s = some (.ret (false, r')) := by
  intro n
  induction n with
  | zero => intro kf f s _ h; omega
  | succ n ih =>
    intro kf f s hf hn hk
    obtain ⟨kf, rfl⟩ := Nat.exists_eq_succ_of_ne_zero (show kf ≠ 0 by omega)
    unfold chkS
    by_cases hft : f < t
    · have c0 : decide ((f : Int) < (t : Int)) = true := by simpa using hft
      rw [if_pos hft, impl_spanReader_take.l1, if_pos c0, p_first]
      simp only [Option.bind_some]
      cases s with
      | nil =>
        have hc : C [] f = none := by
          cases hc : C [] f with
          | none => rfl
          | some o =>
            obtain ⟨_, u, rest, h1, _⟩ := hC2 [] f o.1 o.2 hc
            cases h1
        rw [hc]
        exact ⟨_, rfl⟩
      | cons u rest =>
        simp only [fst0, Bool.not_true, Bool.false_eq_true, if_false, p_inRange, Option.bind_some]
        rw [wrapN f (by omega)]
        by_cases hr : ((f + 1 : Nat) : Int) ≤ u.2.2 ∧ u.2.2 ≤ (t : Int)
        · obtain ⟨τ, hτ⟩ := Int.eq_ofNat_of_zero_le (show 0 ≤ u.2.2 by omega)
          have x1 : decide (((f + 1 : Nat) : Int) ≤ (τ : Int)) = true := by simp; omega
          have x2 : decide ((τ : Int) ≤ (t : Int)) = true := by simp; omega
          have hA := hC (u :: rest) f τ (by omega) (by omega)
          simp only [hτ, x1, x2, Bool.and_self, Bool.not_true, Bool.false_eq_true, if_false, h0, Option.bind_some]
          unfold ImplAns at hA
          cases hc : C (u :: rest) f with
          | none =>
            rw [hc] at hA
            obtain ⟨r', hA⟩ := hA
            rw [hA]
            exact ⟨_, rfl⟩
          | some o =>
            obtain ⟨r, e⟩ := o
            obtain ⟨g1, u', rest', g2, g3⟩ := hC2 _ _ _ _ hc
            injection g2 with g2 _
            subst g2
            have he : e = τ := by omega
            subst he
            rw [hc] at hA
            simp only [if_true] at hA
            rw [hA]
            simp only [Option.bind_some, Bool.not_true, Bool.false_eq_true, if_false]
            rw [if_neg (show ¬ e = f by omega)]
            exact ih kf e r (by omega) (by omega) (by omega)
        · have x1 : (decide (((f + 1 : Nat) : Int) ≤ u.2.2) && decide (u.2.2 ≤ (t : Int))) = false := by
            rw [Bool.and_eq_false_iff]
            simp only [decide_eq_false_iff_not]
            omega
          simp only [x1, Bool.not_false, if_true, Option.bind_some]
          cases hc : C (u :: rest) f with
          | none => exact ⟨_, rfl⟩
          | some o =>
            obtain ⟨r, e⟩ := o
            obtain ⟨g1, u', rest', g2, g3⟩ := hC2 _ _ _ _ hc
            injection g2 with g2 _
            subst g2
            simp only [Option.bind_some]
            by_cases he : e = f
            · rw [if_pos he]
              exact ⟨_, rfl⟩
            · rw [if_neg he]
              have : chkS C t n r e = none := by
                cases n with
                | zero => rfl
                | succ n =>
                  unfold chkS
                  rw [if_neg (by omega), if_neg (by omega)]
              rw [this]
              exact ⟨_, rfl⟩
    · have c0 : decide ((f : Int) < (t : Int)) = false := by simpa using hft
      rw [if_neg hft, if_pos (show f = t by omega), impl_spanReader_take.l1, c0]
      rfl
theorem ImplAns.of {o : Option (List Sp × Nat)} {t : Nat} {x y : Option (Bool × List Sp)} (h : ImplAns o t x) (e : x = y) : ImplAns o t y := e ▸ h
theorem ImplAns.no {o : Option (List Sp × Nat)} {t : Nat} {r : List Sp} (h : ∀ r e, o = some (r, e) → e ≠ t) : ImplAns o t (some (false, r)) := by
  cases o with
  | none => exact ⟨_, rfl⟩
  | some o =>
    obtain ⟨r', e⟩ := o
    simp only [ImplAns, if_neg (h r' e rfl)]
    exact ⟨_, rfl⟩
theorem p_chkImpl (hp : p.length ≤ 1000) (hset : ∀ u ∈ p, u.2.length ≤ 1000 ∧ u.2.length % 2 = 0) (hl : l.length ≤ 1000) (hK : Kids p K p.length) (hpl : ∀ u ∈ p, u.1 ≠ 5 ∧ u.1 ≠ 7) : ∀ (n k f t : Nat) (s : List Sp), k < n → k < p.length → f ≤ t → t ≤ l.length → ImplAns (chk p K l n s k f) t (impl_spanReader_take.r n p K l tb s (k : Int) (f : Int) (t : Int)) := by
  intro n
  induction n with
  | zero => intro k f t s h; omega
  | succ n ih =>
    intro k f t s hkn hk hft htl
    have rp : rd? p (k : Int) = some p[k] := rd?_at hk
    have hne := hpl _ (List.getElem_mem hk)
    obtain ⟨ks, hks, k0, k1, k2, k3⟩ := hK.2 k hk hk
    have rk : rd? K (k : Int) = some ks := rd?_get' hks
    rw [impl_spanReader_take.r, impl_spanReader_take.b, p_first]
    simp only [Option.bind_some]
    cases s with
    | nil => exact ⟨_, rfl⟩
    | cons u rest =>
      simp only [fst0, Bool.not_true, Bool.false_eq_true, if_false, Option.bind_some]
      by_cases hc : u.1 = (k : Int) ∧ u.2.1 = (f : Int) ∧ u.2.2 = (t : Int)
      case neg =>
        have x : (u.1 == (k : Int) && (u.2.1 == (f : Int) && (u.2.2 == (t : Int) && true))) = false := by
          rw [Bool.eq_false_iff]
          intro h
          simp only [Bool.and_eq_true, beq_iff_eq, and_true] at h
          exact hc h
        simp only [x, Bool.not_false, if_true]
        refine ImplAns.no fun r e he hee => ?_
        obtain ⟨_, _, u', rest', g1, g2, g3, g4⟩ := chk_facts he
        injection g1 with g1 _
        subst g1
        exact hc ⟨g2, g4, by rw [g3, hee]⟩
      obtain ⟨c1, c2, c3⟩ := hc
      have x : (u.1 == (k : Int) && (u.2.1 == (f : Int) && (u.2.2 == (t : Int) && true))) = true := by simp [c1, c2, c3]
      rw [chk_eq hk, if_pos ⟨c1, c2, by rw [c3]; omega, by rw [c3]; omega⟩]
      simp only [x, Bool.not_true, Bool.false_eq_true, if_false]
      simp only [cut_tail, Option.bind_some, rk, rp, c3, Int.toNat_natCast]
      rcases ar_cases k3 with h | h | h | h | h | h | h
      · simp only [h, beq_self_eq_true, if_true]
        by_cases he : f = t
        · subst he
          simp [ImplAns]
        · rw [if_neg he]
          have : ((f : Int) == (t : Int)) = false := by simp; omega
          rw [this]
          exact ⟨_, rfl⟩
      · have b1 : ((2 : Int) == 1) = false := by decide
        have n1 : ¬ ((2 : Int) = 1) := by decide
        simp only [h, b1, n1, Bool.false_eq_true, if_false, beq_self_eq_true, if_true]
        have hsk := hset _ (List.getElem_mem hk)
        rw [wrapN f (by omega)]
        by_cases he : t = f + 1
        · subst he
          have d1 : (((f + 1 : Nat) : Int) == ((f + 1 : Nat) : Int)) = true := by simp
          simp only [d1, if_true, rd?_at (show f < l.length by omega), Option.bind_some]
          rw [p_implIn _ _ (by omega), List.getElem?_eq_getElem (show f < l.length by omega), Option.getD_some]
          cases inS p[k].2 l[f]
          · rw [if_neg (by simp)]; exact ⟨_, rfl⟩
          · rw [if_pos (by simp)]; simp [ImplAns]
        · have d1 : ((t : Int) == ((f + 1 : Nat) : Int)) = false := by simp; omega
          simp only [d1, Bool.false_eq_true, if_false]
          rw [if_neg (fun h => he h.1)]
          exact ⟨_, rfl⟩
      · -- one behind the other
        have b1 : ((3 : Int) == 1) = false := by decide
        have b2 : ((3 : Int) == 2) = false := by decide
        have b4 : ((3 : Int) == 4) = false := by decide
        have n1 : ¬ ((3 : Int) = 1) := by decide
        have n2 : ¬ ((3 : Int) = 2) := by decide
        have n4 : ¬ ((3 : Int) = 4) := by decide
        obtain ⟨g, e1, g0, g1, g2⟩ := k2 (by rw [h]; rfl)
        obtain ⟨g, rfl⟩ := Int.eq_ofNat_of_zero_le g0
        have e2 : ((k : Int) - 1) = ((k - 1 : Nat) : Int) := by omega
        rw [e2] at e1
        have q0 : kid K k 0 = g := by unfold kid; rw [hks, e1]; simp
        have q1 : kid K k 1 = k - 1 := by unfold kid; rw [hks, e1]; simp
        have r0 : rd? ks 0 = some (g : Int) := by rw [e1]; rfl
        have r1 : rd? ks 1 = some ((k - 1 : Nat) : Int) := by rw [e1]; rfl
        simp only [h, b1, b2, b4, n1, n2, n4, Bool.false_eq_true, if_false, beq_self_eq_true, if_true, q0, q1, p_first, Option.bind_some]
        cases rest with
        | nil =>
          have : chk p K l n [] g f = none := by cases n <;> rfl
          rw [this]
          exact ⟨_, rfl⟩
        | cons v vs =>
          simp only [fst0, if_true, p_inRange, Option.bind_some]
          by_cases hr : (f : Int) ≤ v.2.2 ∧ v.2.2 ≤ (t : Int)
          · obtain ⟨m, hm⟩ := Int.eq_ofNat_of_zero_le (show 0 ≤ v.2.2 by omega)
            have x1 : decide ((f : Int) ≤ (m : Int)) = true := by simp; omega
            have x2 : decide ((m : Int) ≤ (t : Int)) = true := by simp; omega
            have A := ih g f m (v :: vs) (by omega) (by omega) (by omega) (by omega)
            simp only [hm, x1, x2, Bool.and_self, if_true, r0, r1, Option.bind_some]
            unfold ImplAns at A
            cases ha : chk p K l n (v :: vs) g f with
            | none =>
              rw [ha] at A
              obtain ⟨r', A⟩ := A
              rw [A]
              exact ⟨_, rfl⟩
            | some o =>
              obtain ⟨r, e⟩ := o
              obtain ⟨_, _, v', vs', y1, y2, y3, y4⟩ := chk_facts ha
              injection y1 with y1 _
              subst y1
              have he : e = m := by omega
              subst he
              rw [ha] at A
              simp only [if_true] at A
              rw [A]
              simp only [Option.bind_some, if_true]
              have B := ih (k - 1) e t r (by omega) (by omega) (by omega) htl
              unfold ImplAns at B
              cases hb : chk p K l n r (k - 1) e with
              | none =>
                rw [hb] at B
                obtain ⟨r', B⟩ := B
                rw [B]
                exact ⟨_, rfl⟩
              | some o =>
                obtain ⟨r2, e2⟩ := o
                rw [hb] at B
                simp only [Option.bind_some]
                by_cases h3 : e2 = t
                · subst h3
                  simp only [if_true] at B
                  rw [B, if_pos rfl]
                  simp [ImplAns]
                · simp only [h3, if_false] at B
                  obtain ⟨r', B⟩ := B
                  rw [B, if_neg h3]
                  exact ⟨_, rfl⟩
          · have x1 : (decide ((f : Int) ≤ v.2.2) && decide (v.2.2 ≤ (t : Int))) = false := by
              rw [Bool.and_eq_false_iff]
              simp only [decide_eq_false_iff_not]
              omega
            simp only [x1, Bool.false_eq_true, if_false]
            refine ImplAns.no fun r e he hee => ?_
            obtain ⟨o, ho, he⟩ := Option.bind_eq_some_iff.1 he
            obtain ⟨o', ho', he⟩ := Option.bind_eq_some_iff.1 he
            obtain ⟨z1, z2, v', vs', y1, y2, y3, y4⟩ := chk_facts (r := o.1) (e := o.2) ho
            injection y1 with y1 _
            subst y1
            have z3 := chk_facts (r := o'.1) (e := o'.2) ho'
            split at he
            · rename_i h5
              exact hr ⟨by omega, by omega⟩
            · cases he
      · -- one or the other
        have b1 : ((4 : Int) == 1) = false := by decide
        have b2 : ((4 : Int) == 2) = false := by decide
        have n1 : ¬ ((4 : Int) = 1) := by decide
        have n2 : ¬ ((4 : Int) = 2) := by decide
        obtain ⟨g, e1, g0, g1, g2⟩ := k2 (by rw [h]; rfl)
        obtain ⟨g, rfl⟩ := Int.eq_ofNat_of_zero_le g0
        have e2 : ((k : Int) - 1) = ((k - 1 : Nat) : Int) := by omega
        rw [e2] at e1
        have q0 : kid K k 0 = g := by unfold kid; rw [hks, e1]; simp
        have q1 : kid K k 1 = k - 1 := by unfold kid; rw [hks, e1]; simp
        simp only [h, b1, b2, n1, n2, Bool.false_eq_true, if_false, beq_self_eq_true, if_true, q0, q1, p_first, Option.bind_some]
        have fin : ∀ (c : Nat) (s : List Sp), c < k → ImplAns ((chk p K l n s c f).bind fun o => if o.2 = t then some o else none) t ((impl_spanReader_take.r n p K l tb s (c : Int) (f : Int) (t : Int)).bind fun u53 => some (u53.1, u53.2)) := fun c s hc => by
          have A := ih c f t s (by omega) (by omega) hft htl
          unfold ImplAns at A
          cases ha : chk p K l n s c f with
          | none =>
            rw [ha] at A
            obtain ⟨r', A⟩ := A
            rw [A]
            exact ⟨_, rfl⟩
          | some o =>
            obtain ⟨r, e⟩ := o
            rw [ha] at A
            simp only [Option.bind_some]
            by_cases h3 : e = t
            · subst h3
              simp only [if_true] at A
              rw [A, if_pos rfl]
              simp [ImplAns]
            · simp only [h3, if_false] at A
              obtain ⟨r', A⟩ := A
              rw [A, if_neg h3]
              exact ⟨_, rfl⟩
        cases rest with
        | nil =>
          have : ∀ c, chk p K l n [] c f = none := fun c => by cases n <;> rfl
          rw [this]
          exact ⟨_, rfl⟩
        | cons v vs =>
          simp only [fst0, if_true, List.head?_cons, Option.map_some, Option.some.injEq]
          rw [e1, p_has2]
          simp only [Option.bind_some]
          by_cases h5 : v.1 = (g : Int)
          · have x1 : (v.1 == (g : Int) || v.1 == ((k - 1 : Nat) : Int)) = true := by simp [h5]
            rw [if_pos h5, x1, if_pos rfl, h5]
            exact fin g (v :: vs) (by omega)
          · by_cases h6 : v.1 = ((k - 1 : Nat) : Int)
            · have x1 : (v.1 == (g : Int) || v.1 == ((k - 1 : Nat) : Int)) = true := by simp [h6]
              rw [if_neg h5, x1, if_pos rfl, h6]
              exact fin (k - 1) (v :: vs) (by omega)
            · have x1 : (v.1 == (g : Int) || v.1 == ((k - 1 : Nat) : Int)) = false := by
                rw [Bool.or_eq_false_iff]
                exact ⟨by simpa using h5, by simpa using h6⟩
              rw [if_neg h5, x1]
              refine ImplAns.no fun r e he hee => ?_
              obtain ⟨o, ho, he⟩ := Option.bind_eq_some_iff.1 he
              obtain ⟨z1, z2, v', vs', y1, y2, y3, y4⟩ := chk_facts (r := o.1) (e := o.2) ho
              injection y1 with y1 _
              subst y1
              exact h6 y2
      · exact absurd h hne.1
      · -- again and again
        have b1 : ((6 : Int) == 1) = false := by decide
        have b2 : ((6 : Int) == 2) = false := by decide
        have b3 : ((6 : Int) == 3) = false := by decide
        have b4 : ((6 : Int) == 4) = false := by decide
        have n1 : ¬ ((6 : Int) = 1) := by decide
        have n2 : ¬ ((6 : Int) = 2) := by decide
        have n3 : ¬ ((6 : Int) = 3) := by decide
        have n4 : ¬ ((6 : Int) = 4) := by decide
        obtain ⟨e1, g1⟩ := k1 (by rw [h]; rfl)
        have e2 : ((k : Int) - 1) = ((k - 1 : Nat) : Int) := by omega
        rw [e2] at e1
        have q0 : kid K k 0 = k - 1 := by unfold kid; rw [hks, e1]; simp
        have r0 : rd? ks 0 = some ((k - 1 : Nat) : Int) := by rw [e1]; rfl
        simp only [h, b1, b2, b3, b4, n1, n2, n3, n4, Bool.false_eq_true, if_false, q0]
        have S := p_implStar (p := p) (K := K) (l := l) (tb := tb) (self := impl_spanReader_take.r n) (C := fun s f => chk p K l n s (k - 1) f) (t := t) r0 hl htl (fun s f t h1 h2 => ih (k - 1) f t s (by omega) (by omega) h1 h2) (fun s f r e he => by
          obtain ⟨z1, _, u, rest, y1, _, y3, _⟩ := chk_facts he
          exact ⟨z1, u, rest, y1, y3⟩) (t - f + 1) (((t : Int) - (f : Int)).toNat + 2) f rest hft (by omega) (by omega)
        cases hs : chkS (fun s f => chk p K l n s (k - 1) f) t (t - f + 1) rest f with
        | none =>
          rw [hs] at S
          obtain ⟨r', S⟩ := S
          rw [S]
          exact ⟨_, rfl⟩
        | some o =>
          obtain ⟨r, e⟩ := o
          have he := chkS_end hs
          subst he
          rw [hs] at S
          have S : impl_spanReader_take.l1 _ _ _ _ _ _ _ _ _ _ = some (.go r) := S
          rw [S]
          simp [ImplAns]
      · exact absurd h hne.2
end
theorem p_areRunes (p : List Int) (n : Int) (hp : p.length ≤ big) : impl_areRunes.f p n = some (decide ((p.length : Int) ≤ n) && p.all okRune) := by
  unfold impl_areRunes.f slices_ContainsFunc_int_int_impl_areRunes_1.f slices_IndexFunc_int_int_impl_areRunes_1.f
  by_cases h : (p.length : Int) ≤ n
  · rw [if_pos (by simpa using h)]
    have := scan_loop p hp (fun u => !okRune u) (fun i _ => i) (slices_IndexFunc_int_int_impl_areRunes_1.l1 p) (fun k i => by rw [slices_IndexFunc_int_int_impl_areRunes_1.l1]; simp only [impl_areRunes_1.f, p_implRune, Option.bind_some]) (((p.length : Int) - 0).toNat + 2) 0 (by omega) (by omega)
    rw [show ((0 : Nat) : Int) = 0 from rfl] at this
    rw [this, List.drop_zero]
    have e : p.all okRune = !(p.any fun u => !okRune u) := List.all_eq_not_any_not
    rw [e]
    cases hf : p.findIdx? (fun u => !okRune u) with
    | none =>
      have : p.any (fun u => !okRune u) = false := by
        rw [List.findIdx?_eq_none_iff] at hf
        simpa using hf
      rw [this]; simp [h]
    | some j =>
      obtain ⟨hj, h1, h2⟩ := List.findIdx?_eq_some_iff_getElem.1 hf
      have : p.any (fun u => !okRune u) = true := List.any_eq_true.2 ⟨_, List.getElem_mem hj, h1⟩
      rw [this]
      simp [hj]
  · rw [if_neg (by simpa using h)]
    simp [h]
def okPl (u : Nd) : Bool := !(u.1 == 5 || u.1 == 7)
theorem p_implPlain (p : List Nd) (hp : p.length ≤ big) : impl_isPlain.f p = some (p.all okPl) := by
  unfold impl_isPlain.f slices_ContainsFunc_impl_Re_impl_Re_impl_isPlain_1.f slices_IndexFunc_impl_Re_impl_Re_impl_isPlain_1.f
  have e1 : ∀ u : Nd, impl_isPlain_1.f u.1 u.2 = some (!okPl u) := fun u => by
    unfold impl_isPlain_1.f okPl
    by_cases h5 : u.1 = 5
    · simp [h5]
    · simp [h5]
  have := scan_loop p hp (fun u => !okPl u) (fun i _ => i) (slices_IndexFunc_impl_Re_impl_Re_impl_isPlain_1.l1 p) (fun k i => by rw [slices_IndexFunc_impl_Re_impl_Re_impl_isPlain_1.l1]; simp only [e1, Option.bind_some]) (((p.length : Int) - 0).toNat + 2) 0 (by omega) (by omega)
  rw [show ((0 : Nat) : Int) = 0 from rfl] at this
  rw [this, List.drop_zero]
  have e : p.all okPl = !(p.any fun u => !okPl u) := List.all_eq_not_any_not
  rw [e]
  cases hf : p.findIdx? (fun u => !okPl u) with
  | none =>
    have : p.any (fun u => !okPl u) = false := by
      rw [List.findIdx?_eq_none_iff] at hf
      simpa using hf
    rw [this]; simp
  | some j =>
    obtain ⟨hj, h1, h2⟩ := List.findIdx?_eq_some_iff_getElem.1 hf
    have : p.any (fun u => !okPl u) = true := List.any_eq_true.2 ⟨_, List.getElem_mem hj, h1⟩
    rw [this]
    simp [hj]
theorem p_specPlain (p : List Nd) (hp : p.length ≤ big) (hq : ∀ u ∈ p, u.2.length ≤ big) : spec_IsPlain.f p = some (okRe p && p.all okPl, okRe p) := by
  unfold spec_IsPlain.f
  rw [p_specRe p hp hq]
  simp only [Option.bind_some]
  cases okRe p with
  | false => rfl
  | true =>
    simp only [Bool.not_true, Bool.false_eq_true, if_false, Bool.true_and]
    have := all_loop p hp (fun u => !okPl u) (false, true) (spec_IsPlain.l1 p) (fun k i => by
      rw [spec_IsPlain.l1]
      split
      · cases rd? p i with
        | none => rfl
        | some u =>
          simp only [Option.bind_some]
          unfold okPl
          by_cases h5 : u.1 = 5
          · simp [h5]
          · by_cases h7 : u.1 = 7 <;> simp [h5, h7]
      · rfl) (((p.length : Int) - 0).toNat + 2) 0 (by omega) (by omega)
    rw [show ((0 : Nat) : Int) = 0 from rfl] at this
    rw [this, List.drop_zero]
    have e : p.any (fun u => !okPl u) = !p.all okPl := by rw [List.all_eq_not_any_not]; simp
    rw [e]
    cases p.all okPl <;> simp
theorem p_eqIntS (p q : List Int) (hp : p.length ≤ big) : laws_eqIntS.f p q = some (decide (p = q)) :=
  eq_all p q hp (laws_eqIntS.l1 p q) _ (by omega) fun _ _ _ => rfl
theorem p_toIntS_l (p : List Int) (hp : p.length ≤ big) : ∀ (k i : Nat) (x : List Int), i ≤ p.length → p.length - i < k → x.length = p.length → x.take i = p.take i → laws_toIntS.l1 p k x i = some p := by
  intro k
  induction k with
  | zero => intro i x _ h; omega
  | succ k ih =>
    intro i x hi hk hl ht
    rw [laws_toIntS.l1]
    by_cases h : i < p.length
    · rw [if_pos (by simpa using h), rd?_at h]
      simp only [Option.bind_some]
      rw [rd?_at (by omega : i < x.length)]
      simp only [Option.bind_some]
      rw [st?_at p[i] (by omega : i < x.length)]
      simp only [Option.bind_some]
      rw [wrapN i (by unfold big at hp; omega)]
      refine ih (i + 1) _ h (by omega) (by simpa using hl) ?_
      rw [List.take_add_one, List.take_add_one, List.take_set_of_le (Nat.le_refl i), ht]
      simp [h, hl]
    · rw [if_neg (by simpa using h)]
      obtain rfl : i = p.length := by omega
      rw [List.take_length, ← hl, List.take_length] at ht
      rw [ht]
theorem p_toIntS (p : List Int) (hp : p.length ≤ big) : laws_toIntS.f p = some p := by
  unfold laws_toIntS.f
  rw [mk?_at (by unfold big at hp; omega)]
  simp only [Option.bind_some]
  have := p_toIntS_l p hp (((p.length : Int) - 0).toNat + 2) 0 (List.replicate p.length 0) (by omega) (by omega) (by simp) (by simp)
  rw [show ((0 : Nat) : Int) = 0 from rfl] at this
  rw [this]
  rfl
theorem p_szIntS (p : List Int) (n : Int) (h0 : 0 ≤ n) (h1 : n ≤ 1048576) (hp : p.length ≤ maxN) : laws_szIntS.f p n = some (if (p.length : Int) ≤ n then n - p.length else -1) := by
  unfold laws_szIntS.f
  unfold maxN at hp
  rw [wrapS (by omega) (by omega)]
  by_cases h : (p.length : Int) ≤ n
  · rw [if_neg (by simp; omega), if_pos h]
  · rw [if_pos (by simp; omega), if_neg h]
def marks (k : Int) (n : Nat) : List Int := (List.range n).map fun i : Nat => k + i
theorem marks_len (k : Int) (n : Nat) : (marks k n).length = n := by simp [marks]
theorem marks_get (k : Int) (n i : Nat) (h : i < n) : (marks k n)[i]? = some (k + i) := by simp [marks, h]
theorem sz_IntS (p : List Int) (hp : okL okZ p) (n : Int) (h0 : 0 ≤ n) (h1 : n ≤ 1048576) : ∃ r, laws_szIntS.f p n = some r ∧ (r < 0 ∨ 0 ≤ r ∧ r + wL wZ p ≤ n) := by
  rw [p_szIntS p n h0 h1 hp.1, wL_int]
  by_cases h : (p.length : Int) ≤ n
  · rw [if_pos h]; exact ⟨_, rfl, .inr ⟨by omega, by omega⟩⟩
  · rw [if_neg h]; exact ⟨_, rfl, .inl (by decide)⟩
theorem to_IntS (p : List Int) (hp : wL wZ p ≤ 1000000000) : laws_toIntS.f p = some p := p_toIntS p (wL_big wZ_pos hp)
theorem eq_IntS (p q : List Int) (hp : wL wZ p ≤ 1000000000) : laws_eqIntS.f p q = some (decide (p = q)) := p_eqIntS p q (wL_big wZ_pos hp)
def w_Re (u : (Int) × (List (Int))) : Int := (wL wZ) u.2
def okw_Re (u : (Int) × (List (Int))) : Prop := (okL okZ) u.2
theorem w_Re_pos (u : (Int) × (List (Int))) : 0 ≤ w_Re u := by
  unfold w_Re
  have := (wL_pos wZ_pos) u.2
  omega
theorem sz_Re (u : (Int) × (List (Int))) (hu : okw_Re u) (n : Int) (h0 : 0 ≤ n) (h1 : n ≤ 1048576) : ∃ r, laws_szRe.f u.1 u.2 n = some r ∧ (r < 0 ∨ 0 ≤ r ∧ r + w_Re u ≤ n) := by
  have p0 := (wL_pos wZ_pos) u.2
  unfold laws_szRe.f w_Re
  obtain ⟨r0, e0, g0⟩ := sz_IntS u.2 hu n (by omega) (by omega)
  rw [e0]
  simp only [Option.bind_some]
  by_cases n0 : r0 < 0
  · rw [if_pos (by simpa using n0)]; exact ⟨-1, rfl, .inl (by decide)⟩
  rw [if_neg (by simpa using n0)]
  replace g0 := g0.resolve_left n0
  exact ⟨_, rfl, .inr ⟨by omega, by omega⟩⟩
theorem to_Re (u : (Int) × (List (Int))) (hu : w_Re u ≤ 1000000000) : laws_toRe.f u.1 u.2 = some u := by
  have p0 := (wL_pos wZ_pos) u.2
  unfold laws_toRe.f
  unfold w_Re at hu
  rw [to_IntS u.2 (by omega)]
  rfl
theorem eq_Re (u v : (Int) × (List (Int))) (hu : w_Re u ≤ 1000000000) : laws_eqRe.f u.1 u.2 v.1 v.2 = some (decide (u = v)) := by
  have p0 := (wL_pos wZ_pos) u.2
  unfold laws_eqRe.f
  unfold w_Re at hu
  rw [eq_IntS u.2 v.2 (by omega)]
  clear hu p0
  obtain ⟨a0, a1⟩ := u
  obtain ⟨b0, b1⟩ := v
  by_cases h0 : a0 = b0
  case neg => simp [h0]
  by_cases h1 : a1 = b1
  case neg => simp [h0, h1]
  simp [h0, h1]
theorem sz_ReS (p : List ((Int) × (List (Int)))) (hp : okL okw_Re p) (n : Int) (h0 : 0 ≤ n) (h1 : n ≤ 1048576) : ∃ r, laws_szReS.f p n = some r ∧ (r < 0 ∨ 0 ≤ r ∧ r + wL w_Re p ≤ n) :=
  sz_all p hp.1 n h0 h1 (fun u n => laws_szRe.f u.1 u.2 n) w_Re (fun u hu n a b => sz_Re u (hp.2 u hu) n a b) (fun u _ => w_Re_pos u) (laws_szReS.l1 p) (((p.length : Int) - 0).toNat + 2) (by omega) fun _ _ _ => rfl
theorem to_ReS (p : List ((Int) × (List (Int)))) (hp : wL w_Re p ≤ 1000000000) : laws_toReS.f p = some p :=
  copy_all p (wL_big w_Re_pos hp) (fun u K => (laws_toRe.f u.1 u.2).bind fun v => K (v.1, v.2)) (fun u hu K => by rw [to_Re u (wL_mem w_Re_pos hp hu)]; rfl) (laws_toReS.l1 p) _ (((p.length : Int) - 0).toNat + 2) 4398046511104 (by omega) (wL_cap w_Re_pos hp (by decide)) fun _ _ _ => rfl
theorem eq_ReS (p q : List ((Int) × (List (Int)))) (hp : wL w_Re p ≤ 1000000000) : laws_eqReS.f p q = some (decide (p = q)) :=
  eqS_all p q (wL_big w_Re_pos hp) (fun u v => laws_eqRe.f u.1 u.2 v.1 v.2) (fun u hu v => eq_Re u v (wL_mem w_Re_pos hp hu)) (laws_eqReS.l1 p q) (((p.length : Int) - 0).toNat + 2) (by omega) fun _ _ => rfl
def w_Span (u : (Int) × (Int) × (Int)) : Int := 0
def okw_Span (u : (Int) × (Int) × (Int)) : Prop := True
theorem w_Span_pos (u : (Int) × (Int) × (Int)) : 0 ≤ w_Span u := by
  unfold w_Span
  exact Int.le_refl _
theorem to_Span (u : (Int) × (Int) × (Int)) (hu : w_Span u ≤ 1000000000) : laws_toSpan.f u.1 u.2.1 u.2.2 = some u := by
  unfold laws_toSpan.f
  rfl
theorem eq_Span (u v : (Int) × (Int) × (Int)) (hu : w_Span u ≤ 1000000000) : laws_eqSpan.f u.1 u.2.1 u.2.2 v.1 v.2.1 v.2.2 = some (decide (u = v)) := by
  unfold laws_eqSpan.f
  clear hu
  obtain ⟨a0, a1, a2⟩ := u
  obtain ⟨b0, b1, b2⟩ := v
  by_cases h0 : a0 = b0
  case neg => simp [h0]
  by_cases h1 : a1 = b1
  case neg => simp [h0, h1]
  by_cases h2 : a2 = b2
  case neg => simp [h0, h1, h2]
  simp [h0, h1, h2]
theorem sz_SpanS (p : List ((Int) × (Int) × (Int))) (hp : okL okw_Span p) (n : Int) (h0 : 0 ≤ n) (h1 : n ≤ 1048576) : ∃ r, laws_szSpanS.f p n = some r ∧ (r < 0 ∨ 0 ≤ r ∧ r + wL w_Span p ≤ n) := by
  unfold laws_szSpanS.f
  have hm := hp.1
  unfold maxN at hm
  rw [wrapS (by omega) (by omega)]
  have hw : wL w_Span p = p.length := by
    have := sumW_zero (w := w_Span) p (fun u => rfl)
    unfold wL
    omega
  by_cases h : n - (p.length : Int) < 0
  · rw [if_pos (by simpa using h)]; exact ⟨_, rfl, .inl (by decide)⟩
  · rw [if_neg (by simpa using h)]; exact ⟨_, rfl, .inr ⟨by omega, by omega⟩⟩
theorem to_SpanS (p : List ((Int) × (Int) × (Int))) (hp : wL w_Span p ≤ 1000000000) : laws_toSpanS.f p = some p :=
  copy_all p (wL_big w_Span_pos hp) (fun u K => (laws_toSpan.f u.1 u.2.1 u.2.2).bind fun v => K (v.1, v.2.1, v.2.2)) (fun u hu K => by rw [to_Span u (wL_mem w_Span_pos hp hu)]; rfl) (laws_toSpanS.l1 p) _ (((p.length : Int) - 0).toNat + 2) 5864062014805 (by omega) (wL_cap w_Span_pos hp (by decide)) fun _ _ _ => rfl
theorem eq_SpanS (p q : List ((Int) × (Int) × (Int))) (hp : wL w_Span p ≤ 1000000000) : laws_eqSpanS.f p q = some (decide (p = q)) :=
  eqS_all p q (wL_big w_Span_pos hp) (fun u v => laws_eqSpan.f u.1 u.2.1 u.2.2 v.1 v.2.1 v.2.2) (fun u hu v => eq_Span u v (wL_mem w_Span_pos hp hu)) (laws_eqSpanS.l1 p q) (((p.length : Int) - 0).toNat + 2) (by omega) fun _ _ => rfl
theorem okPl_ne {p : List Nd} (h : p.all okPl = true) : ∀ u ∈ p, u.1 ≠ 5 ∧ u.1 ≠ 7 := fun u hu => by
  have := List.all_eq_true.1 h u hu
  unfold okPl at this
  simp at this
  exact this
theorem p_CheckParse (p : List Nd) (l : List Int) (s : List Sp) (hp : p.length ≤ big) (hq : ∀ u ∈ p, u.2.length ≤ big) (hl : l.length ≤ big) : ∃ r : Bool × Bool, impl_CheckParse.f p l s = some r ∧ spec_CheckParse.f p l s = some r := by
  unfold impl_CheckParse.f spec_CheckParse.f impl_canParse.f spec_l14Asked.f
  rw [p_implRe p hp hq, p_specPlain p hp hq, p_implPlain p hp]
  simp only [Option.bind_some]
  cases h1 : okRe p with
  | false => exact ⟨(false, false), rfl, rfl⟩
  | true =>
    cases h2 : p.all okPl with
    | false => exact ⟨(false, false), rfl, rfl⟩
    | true =>
      simp only [if_true, Bool.and_self]
      rw [p_areRunes l 40 hl, p_allRunes l hl]
      simp only [Option.bind_some]
      cases h3 : l.all okRune with
      | false =>
        simp only [Bool.and_false, Bool.false_and, Bool.false_eq_true, if_false, Option.bind_some, Bool.not_false, if_true]
        exact ⟨(false, false), rfl, rfl⟩
      | true =>
        simp only [Bool.and_true, Bool.true_and]
        by_cases h4 : (l.length : Int) ≤ 40
        · have c1 : decide (l.length ≤ 1000) = true := by simp; omega
          have c2 : decide ((l.length : Int) ≤ 40) = true := by simpa using h4
          simp only [c1, c2, if_true, Option.bind_some, Bool.not_true, Bool.false_eq_true, if_false]
          cases h6 : decide ((s.length : Int) > 200) with
          | true => exact ⟨(false, false), rfl, rfl⟩
          | false =>
          simp only [Bool.false_eq_true, if_false]
          obtain ⟨q1, q2, q3, K, q, q4⟩ := okRe_facts h1
          have hset : ∀ u ∈ p, u.2.length ≤ 1000 ∧ u.2.length % 2 = 0 := fun u hu => ⟨by have := q3 u hu; omega, (q3 u hu).2⟩
          have hne := okPl_ne h2
          have hK : Kids p K p.length := (kids_of p (by omega) p [] [] [] K q rfl rfl ⟨rfl, fun k hk => by simp at hk⟩ q4).1
          have hw : IntKind.i64.wrap ((p.length : Int) - 1) = ((p.length - 1 : Nat) : Int) := by rw [wrapS (by omega) (by omega)]; omega
          have A := p_chkImpl (tb := []) (l := l) (by omega) hset (by omega) hK hne (p.length - 1 + 2) (p.length - 1) 0 l.length s (by omega) (by omega) (Nat.zero_le _) (Nat.le_refl _)
          have B := p_chkSpec (l := l) (by omega) hset (by omega) hK hne (p.length - 1 + 2) (p.length - 1) 0 s (by omega) (by omega) (Nat.zero_le _)
          rw [show ((0 : Nat) : Int) = 0 from rfl] at A B
          rw [p_parts p (by omega), q4]
          simp only [Option.bind_some]
          unfold impl_spanReader_take.f spec_l14Check.f
          rw [hw, show (((p.length - 1 : Nat) : Int)).toNat = p.length - 1 by omega]
          unfold ImplAns at A
          unfold SpecAns at B
          cases hc : chk p K l (p.length - 1 + 2) s (p.length - 1) 0 with
          | none =>
            rw [hc] at A B
            obtain ⟨r', A⟩ := A
            obtain ⟨r2, e2, B⟩ := B
            rw [A, B]
            exact ⟨(false, true), rfl, rfl⟩
          | some o =>
            obtain ⟨r, e⟩ := o
            rw [hc] at A B
            have B : spec_l14Check.r (p.length - 1 + 2) p l s ((p.length - 1 : Nat) : Int) 0 = some (r, (e : Int), true) := B
            rw [B]
            simp only [Option.bind_some, if_true]
            by_cases h5 : e = l.length
            · subst h5
              simp only [if_true] at A
              rw [A]
              simp
            · simp only [h5, if_false] at A
              obtain ⟨r', A⟩ := A
              have : ((e : Int) == (l.length : Int)) = false := by simp; omega
              rw [A, this]
              exact ⟨(false, true), rfl, rfl⟩
        · have c2 : decide ((l.length : Int) ≤ 40) = false := by simpa using h4
          by_cases h5 : l.length ≤ 1000
          · have c1 : decide (l.length ≤ 1000) = true := by simpa using h5
            simp only [c1, c2, if_true, Option.bind_some, Bool.not_false]
            exact ⟨(false, false), rfl, rfl⟩
          · have c1 : decide (l.length ≤ 1000) = false := by simpa using h5
            simp only [c1, c2, Bool.false_eq_true, if_false, Option.bind_some, Bool.not_false, if_true]
            exact ⟨(false, false), rfl, rfl⟩
theorem law_CheckParse (p : List Nd) (l : List Int) (s : List Sp) (hp : allW (fun a => inK .i64 a.1 ∧ allW (inK .i64) a.2) p) (hl : allW (inK .i64) l) (hs : allW (fun a => inK .i64 a.1 ∧ inK .i64 a.2.1 ∧ inK .i64 a.2.2) s) : laws_FnExactCheckParse.f p l s = some true := by
  unfold laws_FnExactCheckParse.f
  by_cases h9 : (l.length : Int) > 1048576
  · rw [if_pos (by simpa using h9)]
  rw [if_neg (by simpa using h9)]
  obtain ⟨u, e, hu⟩ := sz_ReS p ⟨hp.1, fun u hu => ⟨(hp.2 u hu).2.1, fun _ _ => trivial⟩⟩ 1048576 (by decide) (by decide)
  rw [e]
  simp only [Option.bind_some]
  by_cases h0 : u < 0
  · rw [if_pos (by simpa using h0)]
  rw [if_neg (by simpa using h0)]
  replace hu := hu.resolve_left h0
  have w1 := wL_pos w_Re_pos p
  obtain ⟨v, e2, hv⟩ := sz_SpanS s ⟨hs.1, fun _ _ => trivial⟩ u hu.1 (by omega)
  rw [e2]
  simp only [Option.bind_some]
  by_cases h1 : v < 0
  · rw [if_pos (by simpa using h1)]
  rw [if_neg (by simpa using h1)]
  replace hv := hv.resolve_left h1
  have w2 := wL_int l
  have w3 := wL_pos w_Span_pos s
  have hpb := wL_big w_Re_pos (p := p) (by omega)
  have hlb : l.length ≤ big := by unfold big; omega
  have hqb : ∀ u ∈ p, u.2.length ≤ big := fun u hu => by
    have := wL_mem w_Re_pos (p := p) (by omega) hu
    exact wL_big wZ_pos this
  obtain ⟨r, f1, f2⟩ := p_CheckParse p l s hpb hqb hlb
  simp [to_ReS p (by omega), to_IntS l (by omega), to_SpanS s (by omega), f1, f2, eq_SpanS s s (by omega), eq_ReS p p (by omega), eq_IntS l l (by omega)]
end Go.Proofs.Ytkieinlcpkpcjaa
