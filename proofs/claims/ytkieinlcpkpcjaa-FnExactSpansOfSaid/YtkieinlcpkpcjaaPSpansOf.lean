/- Plain laws of the printed functions. Conditions as each lemma says. -/
import Derived.Test.YtkieinlcpkpcjaaPB
import Derived.Test.YtkieinlcpkpcjaaWSpansOf2
set_option linter.unusedVariables false
set_option linter.unusedSimpArgs false
namespace Go.Proofs.Ytkieinlcpkpcjaa
open Go Go.Proofs.GL
theorem p_l1In (a b c : Int) : spec_l1In.f a b c = some (decide (b ≤ a) && decide (a ≤ c)) := by
  unfold spec_l1In.f
  by_cases h : b ≤ a
  · rw [if_pos (by simpa using h)]; simp [h]
  · rw [if_neg (by simpa using h)]; simp [h]
theorem p_inRange (a b c : Int) : impl_inRange.f a b c = some (decide (b ≤ a) && decide (a ≤ c)) := by
  unfold impl_inRange.f
  by_cases h : b ≤ a
  · rw [if_pos (by simpa using h)]; simp [h]
  · rw [if_neg (by simpa using h)]; simp [h]
def wZ {α : Type} (_ : α) : Int := 0
def wStr (s : ByteArray) : Int := s.size
def wL {α : Type} (w : α → Int) (p : List α) : Int := p.length + sumW w p
def okZ {α : Type} (_ : α) : Prop := True
def okStr (s : ByteArray) : Prop := s.size ≤ maxN
def okL {α : Type} (ok : α → Prop) (p : List α) : Prop := p.length ≤ maxN ∧ ∀ u ∈ p, ok u
theorem wZ_pos {α : Type} (u : α) : 0 ≤ wZ u := Int.le_refl _
theorem wStr_pos (s : ByteArray) : 0 ≤ wStr s := by unfold wStr; omega
theorem wL_pos {α : Type} {w : α → Int} (h : ∀ u, 0 ≤ w u) (p : List α) : 0 ≤ wL w p := by
  have := sumW_pos (w := w) (us := p) fun u _ => h u
  unfold wL
  omega
theorem wL_len {α : Type} {w : α → Int} (h : ∀ u, 0 ≤ w u) (p : List α) : (p.length : Int) ≤ wL w p := by
  have := sumW_pos (w := w) (us := p) fun u _ => h u
  unfold wL
  omega
theorem wL_big {α : Type} {w : α → Int} (h : ∀ u, 0 ≤ w u) {p : List α} (hp : wL w p ≤ 1000000000) : p.length ≤ big := by
  have := wL_len h p
  unfold big
  omega
theorem wL_cap {α : Type} {w : α → Int} (h : ∀ u, 0 ≤ w u) {p : List α} (hp : wL w p ≤ 1000000000) {n : Nat} (hn : 1000000000 ≤ n) : p.length ≤ n := by
  have := wL_len h p
  omega
theorem wL_mem {α : Type} {w : α → Int} (h : ∀ u, 0 ≤ w u) {p : List α} (hp : wL w p ≤ 1000000000) {u : α} (hu : u ∈ p) : w u ≤ 1000000000 := by
  have := sumW_mem (w := w) (us := p) (fun u _ => h u) u hu
  unfold wL at hp
  omega
theorem sumW_zero {α : Type} {w : α → Int} : ∀ p : List α, (∀ u, w u = 0) → sumW w p = 0
  | [], _ => rfl
  | u :: us, h => by
    have := sumW_zero us h
    have := h u
    unfold sumW
    omega
theorem wL_int (p : List Int) : wL wZ p = p.length := by
  have := sumW_zero (w := wZ) p fun _ => rfl
  unfold wL
  omega
theorem rd_mid {α : Type} (pre : List α) (u : α) (us : List α) : rd? (pre ++ u :: us) (pre.length : Int) = some u := by rw [rd?_at (by simp)]; simp
theorem st_mid {α : Type} (pre : List α) (u v : α) (us : List α) : st? (pre ++ u :: us) (pre.length : Int) v = some (pre ++ v :: us) := by rw [st?_at _ (by simp)]; simp
theorem p_l1All (p : List Int) (a b : Int) (hp : p.length ≤ big) : spec_l1All.f p a b = some (p.all fun u => decide (a ≤ u) && decide (u ≤ b)) := by
  unfold spec_l1All.f
  have := all_loop p hp (fun u => !(decide (a ≤ u) && decide (u ≤ b))) false (spec_l1All.l1 p a b) (fun k i => by rw [spec_l1All.l1]; simp only [p_l1In, Option.bind_some]) (((p.length : Int) - 0).toNat + 2) 0 (by omega) (by omega)
  rw [show ((0 : Nat) : Int) = 0 from rfl] at this
  rw [this, List.drop_zero]
  have e : p.any (fun u => !(decide (a ≤ u) && decide (u ≤ b))) = !p.all fun u => decide (a ≤ u) && decide (u ≤ b) := by rw [List.all_eq_not_any_not]; simp
  rw [e]
  cases h : p.all fun u => decide (a ≤ u) && decide (u ≤ b) <;> simp
def okT : Int → List Int → Bool
  | _, [] => true
  | L, [x] => decide (L ≤ x) && decide (x ≤ 1114111)
  | L, x :: y :: r => (decide (L ≤ x) && decide (x ≤ 1114111)) && (decide (x ≤ y) && decide (y ≤ 1114111)) && okT (y + 2) r
def okSet (s : List Int) : Bool := okT 0 s && decide (s.length % 2 = 0) && decide (s.length ≤ 24)
theorem okT_all : ∀ (s : List Int) (L : Int), 0 ≤ L → okT L s = true → ∀ x ∈ s, 0 ≤ x ∧ x ≤ 1114111
  | [], L, _, _, x, hx => by cases hx
  | [y], L, h0, h, x, hx => by
    simp only [okT, Bool.and_eq_true, decide_eq_true_eq] at h
    rw [List.mem_singleton.1 hx]
    omega
  | y :: z :: r, L, h0, h, x, hx => by
    simp only [okT, Bool.and_eq_true, decide_eq_true_eq] at h
    rcases List.mem_cons.1 hx with rfl | hx
    · omega
    · rcases List.mem_cons.1 hx with rfl | hx
      · omega
      · exact okT_all r (z + 2) (by omega) h.2 x hx
theorem rem2 (n : Nat) : rem? (n : Int) 2 = some (((n % 2 : Nat)) : Int) := by
  unfold rem?
  rw [if_neg (by decide), Int.tmod_eq_emod_of_nonneg (by omega)]
  congr 1
theorem p_implSet_l : ∀ (n : Nat) (rest pre : List Int) (L : Int), rest.length ≤ n → pre.length + rest.length ≤ big → pre.length % 2 = 0 → (pre = [] ∧ L = 0 ∨ ∃ q l, pre = q ++ [l] ∧ L = l + 2 ∧ 0 ≤ l ∧ l ≤ 1114111) → ∀ k, rest.length < k → impl_GoodSet.l1 (pre ++ rest) k pre.length = some (if okT L rest then .go () else .ret false) := by
  intro n
  induction n with
  | zero =>
    intro rest pre L hn hb he hL k hk
    obtain rfl : rest = [] := List.eq_nil_of_length_eq_zero (by omega)
    obtain ⟨k, rfl⟩ := Nat.exists_eq_succ_of_ne_zero (show k ≠ 0 by omega)
    rw [impl_GoodSet.l1, if_neg (by simp)]
    rfl
  | succ n ih =>
    intro rest pre L hn hb he hL k hk
    obtain ⟨k, rfl⟩ := Nat.exists_eq_succ_of_ne_zero (show k ≠ 0 by omega)
    cases rest with
    | nil =>
      rw [impl_GoodSet.l1, if_neg (by simp)]
      rfl
    | cons x r =>
      unfold big at hb
      simp only [List.length_cons] at hn hb hk
      rw [impl_GoodSet.l1, if_pos (by rw [decide_eq_true_eq]; simp only [List.length_append, List.length_cons]; omega), rd_mid]
      simp only [Option.bind_some]
      -- the first of two
      have e1 : ((if (decide ((pre.length : Int) > 0)) = true then ((rem? (pre.length : Int) 2).bind fun u437 => some (u437 == 0)) else (some false)).bind fun (o : Bool) => match o with | x435 => (if x435 = true then ((rd? (pre ++ x :: r) (IntKind.i64.wrap ((pre.length : Int) - 1))).bind fun u440 => some (IntKind.i64.wrap (u440 + 2))) else (if (decide ((pre.length : Int) > 0)) = true then ((rd? (pre ++ x :: r) (IntKind.i64.wrap ((pre.length : Int) - 1))).bind fun u443 => some u443) else (some 0)))) = some L := by
        rcases hL with ⟨rfl, rfl⟩ | ⟨q, l, rfl, rfl, l0, l1⟩
        · rfl
        · rw [rem2, he]
          have hp : decide ((((q ++ [l]).length : Nat) : Int) > 0) = true := by simp
          rw [hp]
          simp only [if_true, Option.bind_some]
          rw [if_pos (by decide), wrapS (n := (((q ++ [l]).length : Nat) : Int) - 1) (by simp <;> omega) (by simp at hb ⊢; omega)]
          have : (((q ++ [l]).length : Nat) : Int) - 1 = (q.length : Int) := by simp
          rw [this, List.append_assoc]
          show ((rd? (q ++ l :: (x :: r)) (q.length : Int)).bind _) = _
          rw [rd_mid]
          simp only [Option.bind_some]
          rw [wrapS (by omega) (by omega)]
      rw [e1]
      simp only [Option.bind_some, p_inRange]
      have hL0 : 0 ≤ L := by
        rcases hL with ⟨_, rfl⟩ | ⟨_, l, _, rfl, l0, l1⟩ <;> omega
      by_cases hx : L ≤ x ∧ x ≤ 1114111
      · have c1 : (decide (L ≤ x) && decide (x ≤ 1114111)) = true := by simp [hx]
        rw [c1]
        simp only [Bool.not_true, Bool.false_eq_true, if_false]
        rw [wrapN pre.length (by omega)]
        cases r with
        | nil =>
          obtain ⟨k, rfl⟩ := Nat.exists_eq_succ_of_ne_zero (show k ≠ 0 by simp at hk; omega)
          rw [impl_GoodSet.l1, if_neg (by simp)]
          simp only [okT, c1, if_true]
        | cons y r =>
          simp only [List.length_cons] at hn hb hk
          obtain ⟨k, rfl⟩ := Nat.exists_eq_succ_of_ne_zero (show k ≠ 0 by omega)
          have hl1 : ((pre.length + 1 : Nat) : Int) = ((pre ++ [x]).length : Int) := by simp
          have ha : pre ++ x :: y :: r = (pre ++ [x]) ++ y :: r := by simp
          rw [impl_GoodSet.l1, hl1, ha, if_pos (by rw [decide_eq_true_eq]; simp only [List.length_append, List.length_cons]; omega), rd_mid]
          simp only [Option.bind_some]
          have e2 : ((if (decide ((((pre ++ [x]).length : Nat) : Int) > 0)) = true then ((rem? (((pre ++ [x]).length : Nat) : Int) 2).bind fun u437 => some (u437 == 0)) else (some false)).bind fun (o : Bool) => match o with | x435 => (if x435 = true then ((rd? ((pre ++ [x]) ++ y :: r) (IntKind.i64.wrap ((((pre ++ [x]).length : Nat) : Int) - 1))).bind fun u440 => some (IntKind.i64.wrap (u440 + 2))) else (if (decide ((((pre ++ [x]).length : Nat) : Int) > 0)) = true then ((rd? ((pre ++ [x]) ++ y :: r) (IntKind.i64.wrap ((((pre ++ [x]).length : Nat) : Int) - 1))).bind fun u443 => some u443) else (some 0)))) = some x := by
            rw [rem2]
            have hp : decide ((((pre ++ [x]).length : Nat) : Int) > 0) = true := by simp
            have hm : (pre ++ [x]).length % 2 = 1 := by simp; omega
            rw [hp, hm]
            simp only [if_true, Option.bind_some]
            rw [if_neg (by decide), wrapS (n := (((pre ++ [x]).length : Nat) : Int) - 1) (by simp <;> omega) (by simp <;> omega)]
            have : (((pre ++ [x]).length : Nat) : Int) - 1 = (pre.length : Int) := by simp
            rw [this, List.append_assoc]
            show ((rd? (pre ++ x :: (y :: r)) (pre.length : Int)).bind _) = _
            rw [rd_mid]
            rfl
          rw [e2]
          simp only [Option.bind_some, p_inRange]
          by_cases hy : x ≤ y ∧ y ≤ 1114111
          · have c2 : (decide (x ≤ y) && decide (y ≤ 1114111)) = true := by simp [hy]
            rw [c2]
            simp only [Bool.not_true, Bool.false_eq_true, if_false]
            have hl2 : IntKind.i64.wrap ((((pre ++ [x]).length : Nat) : Int) + 1) = ((pre ++ [x] ++ [y]).length : Int) := by rw [wrapS (by simp <;> omega) (by simp <;> omega)]; simp only [List.length_append, List.length_singleton]; omega
            have ha2 : (pre ++ [x]) ++ y :: r = (pre ++ [x] ++ [y]) ++ r := by simp
            rw [hl2, ha2, ih r (pre ++ [x] ++ [y]) (y + 2) (by omega) (by simp [big]; omega) (by simp; omega) (.inr ⟨pre ++ [x], y, rfl, rfl, by omega, by omega⟩) k (by omega)]
            simp only [okT, c1, c2, Bool.and_self, Bool.true_and]
          · have c2 : (decide (x ≤ y) && decide (y ≤ 1114111)) = false := by
              rw [Bool.and_eq_false_iff, decide_eq_false_iff_not, decide_eq_false_iff_not]; omega
            rw [c2]
            simp only [okT, c1, c2, Bool.false_and, Bool.and_false, Bool.not_false, if_true, Option.bind_some, Bool.false_eq_true, if_false]
      · have c1 : (decide (L ≤ x) && decide (x ≤ 1114111)) = false := by
          rw [Bool.and_eq_false_iff, decide_eq_false_iff_not, decide_eq_false_iff_not]; omega
        rw [c1]
        have : okT L (x :: r) = false := by
          cases r with
          | nil => simp only [okT, c1]
          | cons y r => simp only [okT, c1, Bool.false_and]
        rw [this]
        rfl
theorem p_implSet (s : List Int) (hs : s.length ≤ big) : impl_GoodSet.f s = some (okSet s) := by
  unfold impl_GoodSet.f
  have := p_implSet_l s.length s [] 0 (Nat.le_refl _) (by simpa using hs) rfl (.inl ⟨rfl, rfl⟩) (((s.length : Int) - 0).toNat + 2) (by omega)
  rw [List.nil_append, show ((([] : List Int).length : Nat) : Int) = 0 from rfl] at this
  rw [this, rem2]
  unfold okSet
  cases okT 0 s with
  | false => rfl
  | true =>
    simp only [if_true, Option.bind_some, Bool.true_and]
    by_cases h : s.length % 2 = 0
    · rw [h, if_pos (by decide)]
      simp
      omega
    · rw [if_neg (by simp; omega)]
      simp [h]
theorem p_specSet_l : ∀ (n : Nat) (rest pre : List Int) (L : Int), rest.length ≤ n → pre.length + rest.length ≤ big → rest.length % 2 = 0 → (∀ x ∈ rest, 0 ≤ x ∧ x ≤ 1114111) → (pre = [] ∧ L = 0 ∨ ∃ q l, pre = q ++ [l] ∧ L = l + 2 ∧ 0 ≤ l ∧ l ≤ 1114111) → ∀ k, rest.length < k → spec_GoodSet.l1 (pre ++ rest) k pre.length = some (if okT L rest then .go () else .ret false) := by
  intro n
  induction n with
  | zero =>
    intro rest pre L hn hb he hr hL k hk
    obtain rfl : rest = [] := List.eq_nil_of_length_eq_zero (by omega)
    obtain ⟨k, rfl⟩ := Nat.exists_eq_succ_of_ne_zero (show k ≠ 0 by omega)
    rw [spec_GoodSet.l1, if_neg (by simp)]
    rfl
  | succ n ih =>
    intro rest pre L hn hb he hr hL k hk
    obtain ⟨k, rfl⟩ := Nat.exists_eq_succ_of_ne_zero (show k ≠ 0 by omega)
    match rest, hn, hb, he, hr, hk with
    | [], _, _, _, _, _ =>
      rw [spec_GoodSet.l1, if_neg (by simp)]
      rfl
    | [x], _, _, he, _, _ => simp at he
    | x :: y :: r, hn, hb, he, hr, hk =>
      unfold big at hb
      simp only [List.length_cons] at hn hb hk he
      have hx := hr x (by simp)
      have hy := hr y (by simp)
      have ha : pre ++ x :: y :: r = (pre ++ [x]) ++ y :: r := by simp
      have hl1 : IntKind.i64.wrap ((pre.length : Int) + 1) = ((pre ++ [x]).length : Int) := by rw [wrapS (by omega) (by omega)]; simp only [List.length_append, List.length_singleton]; omega
      have ry : rd? (pre ++ x :: y :: r) (IntKind.i64.wrap ((pre.length : Int) + 1)) = some y := by rw [hl1, ha, rd_mid]
      rw [spec_GoodSet.l1, if_pos (by rw [decide_eq_true_eq]; simp only [List.length_append, List.length_cons]; omega), rd_mid, ry]
      simp only [Option.bind_some]
      have e1 : (if (decide ((pre.length : Int) > 0)) = true then ((rd? (pre ++ x :: y :: r) (IntKind.i64.wrap ((pre.length : Int) - 1))).bind fun u269 => some (decide (x < (IntKind.i64.wrap (u269 + 2))))) else (some false)) = some (decide (x < L)) := by
        rcases hL with ⟨rfl, rfl⟩ | ⟨q, l, rfl, rfl, l0, l1⟩
        · have : decide (x < 0) = false := by simp; omega
          rw [this]; rfl
        · rw [if_pos (by simp), wrapS (n := (((q ++ [l]).length : Nat) : Int) - 1) (by simp <;> omega) (by simp at hb ⊢; omega)]
          have : (((q ++ [l]).length : Nat) : Int) - 1 = (q.length : Int) := by simp
          rw [this, List.append_assoc]
          show ((rd? (q ++ l :: (x :: y :: r)) (q.length : Int)).bind _) = _
          rw [rd_mid]
          simp only [Option.bind_some]
          rw [wrapS (by omega) (by omega)]
      rw [e1]
      have c0 : decide (x ≤ 1114111) = true := by simp; omega
      have c3 : decide (y ≤ 1114111) = true := by simp; omega
      by_cases hxy : x > y
      · rw [if_pos (by simpa using hxy)]
        have : decide (x ≤ y) = false := by simp; omega
        simp only [okT, this, Bool.false_and, Bool.and_false, Option.bind_some, if_true, Bool.false_eq_true, if_false]
      · have c1 : decide (x ≤ y) = true := by simp; omega
        rw [if_neg (by simpa using hxy)]
        simp only [Option.bind_some]
        by_cases hxl : x < L
        · have c2 : decide (L ≤ x) = false := by simp; omega
          rw [if_pos (by simpa using hxl)]
          simp only [okT, c2, Bool.false_and, Option.bind_some, Bool.false_eq_true, if_false]
        · have c2 : decide (L ≤ x) = true := by simp; omega
          rw [if_neg (by simpa using hxl)]
          have hl2 : IntKind.i64.wrap ((pre.length : Int) + 2) = ((pre ++ [x] ++ [y]).length : Int) := by rw [wrapS (by omega) (by omega)]; simp only [List.length_append, List.length_singleton]; omega
          have ha2 : pre ++ x :: y :: r = (pre ++ [x] ++ [y]) ++ r := by simp
          rw [hl2, ha2, ih r (pre ++ [x] ++ [y]) (y + 2) (by omega) (by simp [big]; omega) (by omega) (fun z hz => hr z (by simp [hz])) (.inr ⟨pre ++ [x], y, rfl, rfl, by omega, by omega⟩) k (by omega)]
          simp only [okT, c0, c1, c2, c3, Bool.and_self, Bool.true_and]
theorem p_specSet (s : List Int) (hs : s.length ≤ big) : spec_GoodSet.f s = some (okSet s) := by
  unfold spec_GoodSet.f
  rw [rem2, p_l1All s 0 1114111 hs]
  unfold okSet
  by_cases h1 : s.length % 2 = 1
  · rw [h1]
    simp [h1]
  · have h2 : s.length % 2 = 0 := by omega
    rw [h2]
    simp only [Option.bind_some]
    rw [if_neg (by decide)]
    by_cases h3 : (s.length : Int) > 24
    · rw [if_pos (by simpa using h3)]
      have : decide (s.length ≤ 24) = false := by simp; omega
      rw [this, Bool.and_false]
      rfl
    · have d3 : decide (s.length ≤ 24) = true := by simp; omega
      rw [if_neg (by simpa using h3), d3]
      simp only [Option.bind_some]
      cases h4 : (s.all fun u => decide (0 ≤ u) && decide (u ≤ 1114111)) with
      | false =>
        have : okT 0 s = false := by
          by_cases h : okT 0 s = true
          · have h5 := okT_all s 0 (by omega) h
            have : (s.all fun u => decide (0 ≤ u) && decide (u ≤ 1114111)) = true := by
              rw [List.all_eq_true]
              intro x hx
              have := h5 x hx
              simp; omega
            rw [this] at h4; cases h4
          · simpa using h
        rw [this]
        rfl
      | true =>
        have hr : ∀ x ∈ s, 0 ≤ x ∧ x ≤ 1114111 := fun x hx => by
          have := (List.all_eq_true.1 h4) x hx
          simpa using this
        have := p_specSet_l s.length s [] 0 (Nat.le_refl _) (by simpa using hs) h2 hr (.inl ⟨rfl, rfl⟩) (((s.length : Int) - 0).toNat + 2) (by omega)
        rw [List.nil_append, show ((([] : List Int).length : Nat) : Int) = 0 from rfl] at this
        simp only [Bool.not_true, Bool.false_eq_true, if_false, this, Option.bind_some]
        cases okT 0 s <;> simp
def okRune (r : Int) : Bool := decide (0 ≤ r) && decide (r ≤ 1114111) && !(decide (55296 ≤ r) && decide (r ≤ 57343))
theorem p_specRune (r : Int) : spec_GoodRune.f r = some (okRune r) := by
  unfold spec_GoodRune.f okRune
  simp only [p_l1In, Option.bind_some]
  cases (decide (0 ≤ r) && decide (r ≤ 1114111)) <;> rfl
theorem p_implRune (r : Int) : impl_GoodRune.f r = some (okRune r) := by
  unfold impl_GoodRune.f okRune
  simp only [p_inRange, Option.bind_some]
  cases (decide (0 ≤ r) && decide (r ≤ 1114111)) <;> rfl
theorem p_allRunes (p : List Int) (hp : p.length ≤ big) : spec_l1AllRunes.f p = some (p.all okRune && decide (p.length ≤ 1000)) := by
  unfold spec_l1AllRunes.f
  have := all_loop p hp (fun u => !okRune u) false (spec_l1AllRunes.l1 p) (fun k i => by rw [spec_l1AllRunes.l1]; simp only [p_specRune, Option.bind_some]) (((p.length : Int) - 0).toNat + 2) 0 (by omega) (by omega)
  rw [show ((0 : Nat) : Int) = 0 from rfl] at this
  rw [this, List.drop_zero]
  have e : p.any (fun u => !okRune u) = !p.all okRune := by rw [List.all_eq_not_any_not]; simp
  rw [e]
  cases h : p.all okRune <;> simp
  omega
abbrev Nd := Int × List Int
/-- How many parts a node has. -/
def ar (k : Int) : Int := if k = 1 ∨ k = 2 then 0 else if k = 6 ∨ k = 7 then 1 else if k = 3 ∨ k = 4 ∨ k = 5 then 2 else -1
theorem p_partsOf (k : Int) : impl_partsOf.f k = some (ar k) := by
  unfold impl_partsOf.f ar
  by_cases h1 : k = 1
  · subst h1; rfl
  · by_cases h2 : k = 2
    · subst h2; rfl
    · by_cases h6 : k = 6
      · subst h6; rfl
      · by_cases h7 : k = 7
        · subst h7; rfl
        · by_cases h3 : k = 3
          · subst h3; rfl
          · by_cases h4 : k = 4
            · subst h4; rfl
            · by_cases h5 : k = 5
              · subst h5; rfl
              · simp [h1, h2, h3, h4, h5, h6, h7]
theorem p_arity (k : Int) : spec_l5Arity.f k = some (ar k) := by
  unfold spec_l5Arity.f ar
  by_cases h1 : k = 1
  · subst h1; rfl
  · by_cases h2 : k = 2
    · subst h2; rfl
    · by_cases h6 : k = 6
      · subst h6; rfl
      · by_cases h7 : k = 7
        · subst h7; rfl
        · by_cases h3 : k = 3
          · subst h3; rfl
          · by_cases h4 : k = 4
            · subst h4; rfl
            · by_cases h5 : k = 5
              · subst h5; rfl
              · simp [h1, h2, h3, h4, h5, h6, h7]
theorem ar_bd (k : Int) : -1 ≤ ar k ∧ ar k ≤ 2 := by unfold ar; split <;> (try split) <;> (try split) <;> omega
def okNd (u : Nd) : Bool := okSet u.2 && u.2.all okRune && (u.1 == 2 || decide (u.2.length = 0))
theorem okSet_len {s : List Int} (h : okSet s = true) : s.length ≤ 24 := by
  simp only [okSet, Bool.and_eq_true, decide_eq_true_eq] at h
  exact h.2
theorem p_implNd_1 (p : List Int) (hp : p.length ≤ big) : slices_ContainsFunc_int_int_impl_GoodRe_1_1.f p = some (!p.all okRune) := by
  unfold slices_ContainsFunc_int_int_impl_GoodRe_1_1.f slices_IndexFunc_int_int_impl_GoodRe_1_1.f
  have := scan_loop p hp (fun u => !okRune u) (fun i _ => i) (slices_IndexFunc_int_int_impl_GoodRe_1_1.l1 p) (fun k i => by rw [slices_IndexFunc_int_int_impl_GoodRe_1_1.l1]; simp only [impl_GoodRe_1_1.f, p_implRune, Option.bind_some]) (((p.length : Int) - 0).toNat + 2) 0 (by omega) (by omega)
  rw [show ((0 : Nat) : Int) = 0 from rfl] at this
  rw [this, List.drop_zero]
  have e : p.all okRune = !(p.any fun u => !okRune u) := List.all_eq_not_any_not
  rw [e, Bool.not_not]
  cases hf : p.findIdx? (fun u => !okRune u) with
  | none =>
    have : p.any (fun u => !okRune u) = false := by
      rw [List.findIdx?_eq_none_iff] at hf
      simpa using hf
    rw [this]; simp
  | some j =>
    obtain ⟨hj, h1, h2⟩ := List.findIdx?_eq_some_iff_getElem.1 hf
    have : p.any (fun u => !okRune u) = true := List.any_eq_true.2 ⟨_, List.getElem_mem hj, h1⟩
    rw [this]
    simp [hj]
theorem p_implNd (u : Nd) (hu : u.2.length ≤ big) : impl_GoodRe_1.f u.1 u.2 = some (!okNd u) := by
  unfold impl_GoodRe_1.f okNd
  rw [p_implSet u.2 hu, p_implNd_1 u.2 hu]
  simp only [Option.bind_some]
  cases okSet u.2 with
  | false => rfl
  | true =>
    cases u.2.all okRune with
    | false => rfl
    | true =>
      simp only [Bool.not_true, Bool.false_eq_true, if_false, Bool.true_and]
      by_cases h : u.1 = 2
      · simp [h]
      · have h1 : (u.1 != 2) = true := by simpa using h
        have h2 : (u.1 == 2) = false := by simpa using h
        rw [h1, h2]
        simp only [if_true, Bool.false_or]
        by_cases hl : u.2.length = 0
        · simp [hl]
        · have := Nat.pos_of_ne_zero hl
          simp [hl, this]
theorem p_specNd (u : Nd) (hu : u.2.length ≤ big) : spec_l5Node.f u.1 u.2 = some (decide (0 ≤ ar u.1) && okNd u) := by
  unfold spec_l5Node.f okNd
  rw [p_arity, p_specSet u.2 hu, p_allRunes u.2 hu]
  simp only [Option.bind_some]
  by_cases ha : ar u.1 < 0
  · have h0 : decide (0 ≤ ar u.1) = false := by simp; omega
    rw [if_pos (by simpa using ha), h0]
    rfl
  · have h0 : decide (0 ≤ ar u.1) = true := by simp; omega
    rw [if_neg (by simpa using ha), h0]
    cases hs : okSet u.2 with
    | false =>
      simp only [Bool.false_and, Bool.and_false]
      by_cases h : u.1 = 2
      · simp [h]
      · by_cases hl : (u.2.length : Int) > 0 <;> simp [h, hl]
    | true =>
      have hl := okSet_len hs
      have d : decide (u.2.length ≤ 1000) = true := by simp; omega
      rw [d, Bool.and_true]
      by_cases h : u.1 = 2
      · simp [h]
      · by_cases hl2 : u.2.length = 0
        · simp [h, hl2]
        · have h1 : (u.1 == 2) = false := by simpa using h
          have := Nat.pos_of_ne_zero hl2
          simp [h, h1, hl2, this]
/-- Nodes, put on a pile of their last parts. -/
def pileR : List Nd → Int → List Int → List (List Int) → Option (List (List Int) × List Int)
  | [], _, pile, out => some (out, pile)
  | u :: us, i, pile, out => if ar u.1 < 0 ∨ ar u.1 > pile.length then none else pileR us (i + 1) (pile.take (pile.length - (ar u.1).toNat) ++ [i]) (out ++ [pile.drop (pile.length - (ar u.1).toNat)])
def okRe (p : List Nd) : Bool := (decide (1 ≤ (p.length : Int)) && decide ((p.length : Int) ≤ 40)) && p.all okNd && (match pileR p 0 [] [] with | some (_, pile) => ((pile.length : Int) == 1) | none => false)
theorem p_parts_l : ∀ (rest pre : List Nd) (pile : List Int) (out : List (List Int)), pre.length + rest.length ≤ 1000000 → pile.length ≤ pre.length → out.length = pre.length → ∀ k, rest.length < k → impl_parts.l1 (pre ++ rest) k out pile pre.length = some (match pileR rest pre.length pile out with | some (o, q) => .go (o, q) | none => .ret ([], false)) := by
  intro rest
  induction rest with
  | nil =>
    intro pre pile out hb hp ho k hk
    obtain ⟨k, rfl⟩ := Nat.exists_eq_succ_of_ne_zero (show k ≠ 0 by omega)
    rw [impl_parts.l1, if_neg (by simp)]
    rfl
  | cons u us ih =>
    intro pre pile out hb hp ho k hk
    obtain ⟨k, rfl⟩ := Nat.exists_eq_succ_of_ne_zero (show k ≠ 0 by omega)
    simp only [List.length_cons] at hb hk
    rw [impl_parts.l1, if_pos (by rw [decide_eq_true_eq]; simp only [List.length_append, List.length_cons]; omega), rd_mid]
    simp only [Option.bind_some, p_partsOf]
    unfold pileR
    have hbd := ar_bd u.1
    by_cases h1 : ar u.1 < 0
    · rw [if_pos (by simpa using h1), if_pos (.inl h1)]
      rfl
    · rw [if_neg (by simpa using h1)]
      simp only [Option.bind_some]
      by_cases h2 : ar u.1 > pile.length
      · rw [if_pos (by simpa using h2), if_pos (.inr h2)]
        try rfl
      · rw [if_neg (by simpa using h2), if_neg (by omega)]
        obtain ⟨m, hm⟩ := Int.eq_ofNat_of_zero_le (show 0 ≤ ar u.1 by omega)
        rw [hm] at h2 ⊢
        have hml : m ≤ pile.length := by omega
        rw [wrapS (n := (pile.length : Int) - m) (by omega) (by omega), show (pile.length : Int) - m = ((pile.length - m : Nat) : Int) by omega, Int.toNat_natCast]
        have c1 := cut?_at (xs := pile) (a := pile.length - m) (b := pile.length) (by omega) (Nat.le_refl _)
        have c2 := cut?_at (xs := pile) (a := 0) (b := pile.length - m) (by omega) (by omega)
        rw [show ((0 : Nat) : Int) = 0 from rfl] at c2
        rw [c1, c2]
        simp only [Option.bind_some, List.take_length, List.drop_zero, slices_Clone_int_int.f]
        rw [app?_at (by simp; omega)]
        simp only [Option.bind_some, List.nil_append]
        rw [app?_at (by simp; omega)]
        simp only [Option.bind_some]
        rw [app?_at (by simp; omega)]
        simp only [Option.bind_some]
        rw [wrapN pre.length (by omega)]
        have := ih (pre ++ [u]) (pile.take (pile.length - m) ++ [(pre.length : Int)]) (out ++ [pile.drop (pile.length - m)]) (by simp; omega) (by simp; omega) (by simp [ho]) k (by omega)
        simp only [List.length_append, List.length_cons, List.length_nil, Nat.zero_add, List.append_assoc, List.cons_append, List.nil_append] at this
        rw [this]
        rfl
theorem p_parts (p : List Nd) (hp : p.length ≤ 1000000) : impl_parts.f p = some (match pileR p 0 [] [] with | some (o, q) => (o, ((q.length : Int) == 1)) | none => ([], false)) := by
  unfold impl_parts.f
  have := p_parts_l p [] [] [] (by simpa using hp) (Nat.le_refl _) rfl (((p.length : Int) - 0).toNat + 2) (by omega)
  rw [List.nil_append, show ((([] : List Nd).length : Nat) : Int) = 0 from rfl] at this
  rw [this]
  cases pileR p 0 [] [] with
  | none => rfl
  | some o => rfl
theorem p_implRe (p : List Nd) (hp : p.length ≤ big) (hq : ∀ u ∈ p, u.2.length ≤ big) : impl_GoodRe.f p = some (okRe p) := by
  unfold impl_GoodRe.f okRe
  simp only [p_inRange, Option.bind_some]
  cases h1 : (decide (1 ≤ (p.length : Int)) && decide ((p.length : Int) ≤ 40)) with
  | false => rfl
  | true =>
    have hl : p.length ≤ 40 := by simp only [Bool.and_eq_true, decide_eq_true_eq] at h1; omega
    simp only [Bool.not_true, Bool.false_eq_true, if_false, Bool.true_and]
    have key : slices_ContainsFunc_impl_Re_impl_Re_impl_GoodRe_1.f p = some (!p.all okNd) := by
      unfold slices_ContainsFunc_impl_Re_impl_Re_impl_GoodRe_1.f slices_IndexFunc_impl_Re_impl_Re_impl_GoodRe_1.f
      have key : ∀ (k i : Nat), i ≤ p.length → p.length - i < k → ∃ o, slices_IndexFunc_impl_Re_impl_Re_impl_GoodRe_1.l1 p k i = some o ∧ (if (p.drop i).all okNd then o = .go () else ∃ n : Int, 0 ≤ n ∧ o = .ret n) := by
        intro k
        induction k with
        | zero => intro i _ h; omega
        | succ k ih =>
          intro i hi hk
          rw [slices_IndexFunc_impl_Re_impl_Re_impl_GoodRe_1.l1]
          by_cases h : i < p.length
          · rw [if_pos (by simpa using h), rd?_at h]
            simp only [Option.bind_some]
            rw [p_implNd _ (hq _ (List.getElem_mem h))]
            simp only [Option.bind_some]
            rw [List.drop_eq_getElem_cons h, List.all_cons]
            cases hr : okNd p[i] with
            | false => exact ⟨.ret i, by simp, by simp⟩
            | true =>
              simp only [Bool.not_true, Bool.false_eq_true, if_false, Bool.true_and]
              rw [wrapN i (by omega)]
              exact ih (i + 1) h (by omega)
          · rw [if_neg (by simpa using h)]
            exact ⟨_, rfl, by simp [List.drop_eq_nil_of_le (by omega : p.length ≤ i)]⟩
      obtain ⟨o, g1, g2⟩ := key (((p.length : Int) - 0).toNat + 2) 0 (by omega) (by omega)
      rw [show ((0 : Nat) : Int) = 0 from rfl] at g1
      rw [g1]
      rw [List.drop_zero] at g2
      cases hr : p.all okNd with
      | true =>
        rw [hr, if_pos rfl] at g2
        subst g2
        rfl
      | false =>
        rw [hr] at g2
        obtain ⟨m, hm, rfl⟩ := g2
        simp [hm]
    rw [key]
    simp only [Option.bind_some]
    cases p.all okNd with
    | false => rfl
    | true =>
      simp only [Bool.not_true, Bool.false_eq_true, if_false, Bool.true_and]
      rw [p_parts p (by omega)]
      cases pileR p 0 [] [] with
      | none => rfl
      | some o => rfl
/-- The pile's height alone. -/
def highR : List Nd → Int → Option Int
  | [], n => some n
  | u :: us, n => if ar u.1 < 0 ∨ ar u.1 > n then none else highR us (n + (1 - ar u.1))
theorem pile_high : ∀ (us : List Nd) (i : Int) (pile : List Int) (out : List (List Int)), (pileR us i pile out).map (fun o => (o.2.length : Int)) = highR us pile.length
  | [], i, pile, out => rfl
  | u :: us, i, pile, out => by
    unfold pileR highR
    split
    · rfl
    · rename_i h
      rw [pile_high us]
      congr 1
      simp
      omega
theorem high_bd : ∀ (us : List Nd) (n d : Int), 0 ≤ n → highR us n = some d → 0 ≤ d ∧ d ≤ n + us.length
  | [], n, d, h0, h => by
    obtain rfl := Option.some.inj h
    simp; omega
  | u :: us, n, d, h0, h => by
    unfold highR at h
    split at h
    · cases h
    · have := ar_bd u.1
      have := high_bd us _ d (by omega) h
      simp only [List.length_cons]
      omega
theorem p_l5Good_l : ∀ (rest pre : List Nd) (n : Int), pre.length + rest.length ≤ 1000000 → 0 ≤ n → n ≤ pre.length → (∀ u ∈ rest, u.2.length ≤ big) → ∀ k, rest.length < k → spec_l5Good.l1 (pre ++ rest) k n pre.length = some (if rest.all okNd then (match highR rest n with | some d => .go d | none => .ret false) else .ret false) := by
  intro rest
  induction rest with
  | nil =>
    intro pre n hb h0 h1 hq k hk
    obtain ⟨k, rfl⟩ := Nat.exists_eq_succ_of_ne_zero (show k ≠ 0 by omega)
    rw [spec_l5Good.l1, if_neg (by simp)]
    rfl
  | cons u us ih =>
    intro pre n hb h0 h1 hq k hk
    obtain ⟨k, rfl⟩ := Nat.exists_eq_succ_of_ne_zero (show k ≠ 0 by omega)
    simp only [List.length_cons] at hb hk
    rw [spec_l5Good.l1, if_pos (by rw [decide_eq_true_eq]; simp only [List.length_append, List.length_cons]; omega), rd_mid]
    simp only [Option.bind_some]
    rw [p_specNd u (hq u (by simp)), p_arity]
    simp only [Option.bind_some]
    have hbd := ar_bd u.1
    rw [List.all_cons]
    unfold highR
    cases hn : okNd u with
    | false =>
      simp only [Bool.and_false, Bool.not_false, if_true, Option.bind_some, Bool.false_and, Bool.false_eq_true, if_false]
    | true =>
      simp only [Bool.and_true, Bool.true_and]
      by_cases ha : ar u.1 < 0
      · have : decide (0 ≤ ar u.1) = false := by simp; omega
        rw [this, if_pos (show ar u.1 < 0 ∨ ar u.1 > n from .inl ha)]
        simp only [Bool.not_false, if_true, Option.bind_some]
        split <;> rfl
      · have : decide (0 ≤ ar u.1) = true := by simp; omega
        rw [this]
        simp only [Bool.not_true, Bool.false_eq_true, if_false, Option.bind_some]
        by_cases hg : n < ar u.1
        · rw [if_pos (by simpa using hg), if_pos (show ar u.1 < 0 ∨ ar u.1 > n by omega)]
          simp only [Option.bind_some]
          split <;> rfl
        · rw [if_neg (by simpa using hg), if_neg (show ¬ (ar u.1 < 0 ∨ ar u.1 > n) by omega)]
          rw [wrapS (n := 1 - ar u.1) (by omega) (by omega), wrapS (n := n + (1 - ar u.1)) (by omega) (by omega), wrapN pre.length (by omega)]
          have := ih (pre ++ [u]) (n + (1 - ar u.1)) (by simp; omega) (by omega) (by simp; omega) (fun v hv => hq v (List.mem_cons_of_mem _ hv)) k (by omega)
          simp only [List.length_append, List.length_cons, List.length_nil, Nat.zero_add, List.append_assoc, List.cons_append, List.nil_append] at this
          exact this
theorem p_specRe (p : List Nd) (hp : p.length ≤ big) (hq : ∀ u ∈ p, u.2.length ≤ big) : spec_GoodRe.f p = some (okRe p) := by
  unfold spec_GoodRe.f okRe
  by_cases h : (p.length : Int) ≤ 40
  · have d1 : decide ((p.length : Int) ≤ 40) = true := by simpa using h
    rw [if_pos (by simpa using h), d1, Bool.and_true]
    unfold spec_l5Good.f
    have := p_l5Good_l p [] 0 (by simp; omega) (Int.le_refl _) (Int.le_refl _) hq (((p.length : Int) - 0).toNat + 2) (by omega)
    rw [List.nil_append, show ((([] : List Nd).length : Nat) : Int) = 0 from rfl] at this
    rw [this]
    have hh := pile_high p 0 [] []
    rw [show ((([] : List Int).length : Nat) : Int) = 0 from rfl] at hh
    cases p.all okNd with
    | false => simp
    | true =>
      simp only [if_true, Option.bind_some, Bool.and_true]
      cases hp0 : pileR p 0 [] [] with
      | none =>
        rw [hp0] at hh
        rw [← hh]
        simp
      | some o =>
        rw [hp0] at hh
        rw [← hh]
        simp only [Option.map_some]
        by_cases hz : 1 ≤ (p.length : Int)
        · have : decide (1 ≤ (p.length : Int)) = true := by simpa using hz
          rw [this]
          rfl
        · have hnil : p = [] := List.eq_nil_of_length_eq_zero (by omega)
          subst hnil
          have : o = ([], []) := (Option.some.inj hp0).symm
          subst this
          rfl
  · have d1 : decide ((p.length : Int) ≤ 40) = false := by simpa using h
    rw [if_neg (by simpa using h), d1, Bool.and_false]
    rfl
def okPl (u : Nd) : Bool := !(u.1 == 5 || u.1 == 7)
theorem p_implPlain (p : List Nd) (hp : p.length ≤ big) : impl_isPlain.f p = some (p.all okPl) := by
  unfold impl_isPlain.f slices_ContainsFunc_impl_Re_impl_Re_impl_isPlain_1.f slices_IndexFunc_impl_Re_impl_Re_impl_isPlain_1.f
  have e1 : ∀ u : Nd, impl_isPlain_1.f u.1 u.2 = some (!okPl u) := fun u => by
    unfold impl_isPlain_1.f okPl
    by_cases h5 : u.1 = 5
    · simp [h5]
    · simp [h5]
  have := scan_loop p hp (fun u => !okPl u) (fun i _ => i) (slices_IndexFunc_impl_Re_impl_Re_impl_isPlain_1.l1 p) (fun k i => by rw [slices_IndexFunc_impl_Re_impl_Re_impl_isPlain_1.l1]; simp only [e1, Option.bind_some]) (((p.length : Int) - 0).toNat + 2) 0 (by omega) (by omega)
  rw [show ((0 : Nat) : Int) = 0 from rfl] at this
  rw [this, List.drop_zero]
  have e : p.all okPl = !(p.any fun u => !okPl u) := List.all_eq_not_any_not
  rw [e]
  cases hf : p.findIdx? (fun u => !okPl u) with
  | none =>
    have : p.any (fun u => !okPl u) = false := by
      rw [List.findIdx?_eq_none_iff] at hf
      simpa using hf
    rw [this]; simp
  | some j =>
    obtain ⟨hj, h1, h2⟩ := List.findIdx?_eq_some_iff_getElem.1 hf
    have : p.any (fun u => !okPl u) = true := List.any_eq_true.2 ⟨_, List.getElem_mem hj, h1⟩
    rw [this]
    simp [hj]
theorem p_specPlain (p : List Nd) (hp : p.length ≤ big) (hq : ∀ u ∈ p, u.2.length ≤ big) : spec_IsPlain.f p = some (okRe p && p.all okPl, okRe p) := by
  unfold spec_IsPlain.f
  rw [p_specRe p hp hq]
  simp only [Option.bind_some]
  cases okRe p with
  | false => rfl
  | true =>
    simp only [Bool.not_true, Bool.false_eq_true, if_false, Bool.true_and]
    have := all_loop p hp (fun u => !okPl u) (false, true) (spec_IsPlain.l1 p) (fun k i => by
      rw [spec_IsPlain.l1]
      split
      · cases rd? p i with
        | none => rfl
        | some u =>
          simp only [Option.bind_some]
          unfold okPl
          by_cases h5 : u.1 = 5
          · simp [h5]
          · by_cases h7 : u.1 = 7 <;> simp [h5, h7]
      · rfl) (((p.length : Int) - 0).toNat + 2) 0 (by omega) (by omega)
    rw [show ((0 : Nat) : Int) = 0 from rfl] at this
    rw [this, List.drop_zero]
    have e : p.any (fun u => !okPl u) = !p.all okPl := by rw [List.all_eq_not_any_not]; simp
    rw [e]
    cases p.all okPl <;> simp
theorem p_eqIntS (p q : List Int) (hp : p.length ≤ big) : laws_eqIntS.f p q = some (decide (p = q)) :=
  eq_all p q hp (laws_eqIntS.l1 p q) _ (by omega) fun _ _ _ => rfl
theorem p_toIntS_l (p : List Int) (hp : p.length ≤ big) : ∀ (k i : Nat) (x : List Int), i ≤ p.length → p.length - i < k → x.length = p.length → x.take i = p.take i → laws_toIntS.l1 p k x i = some p := by
  intro k
  induction k with
  | zero => intro i x _ h; omega
  | succ k ih =>
    intro i x hi hk hl ht
    rw [laws_toIntS.l1]
    by_cases h : i < p.length
    · rw [if_pos (by simpa using h), rd?_at h]
      simp only [Option.bind_some]
      rw [rd?_at (by omega : i < x.length)]
      simp only [Option.bind_some]
      rw [st?_at p[i] (by omega : i < x.length)]
      simp only [Option.bind_some]
      rw [wrapN i (by unfold big at hp; omega)]
      refine ih (i + 1) _ h (by omega) (by simpa using hl) ?_
      rw [List.take_add_one, List.take_add_one, List.take_set_of_le (Nat.le_refl i), ht]
      simp [h, hl]
    · rw [if_neg (by simpa using h)]
      obtain rfl : i = p.length := by omega
      rw [List.take_length, ← hl, List.take_length] at ht
      rw [ht]
theorem p_toIntS (p : List Int) (hp : p.length ≤ big) : laws_toIntS.f p = some p := by
  unfold laws_toIntS.f
  rw [mk?_at (by unfold big at hp; omega)]
  simp only [Option.bind_some]
  have := p_toIntS_l p hp (((p.length : Int) - 0).toNat + 2) 0 (List.replicate p.length 0) (by omega) (by omega) (by simp) (by simp)
  rw [show ((0 : Nat) : Int) = 0 from rfl] at this
  rw [this]
  rfl
theorem p_szIntS (p : List Int) (n : Int) (h0 : 0 ≤ n) (h1 : n ≤ 1048576) (hp : p.length ≤ maxN) : laws_szIntS.f p n = some (if (p.length : Int) ≤ n then n - p.length else -1) := by
  unfold laws_szIntS.f
  unfold maxN at hp
  rw [wrapS (by omega) (by omega)]
  by_cases h : (p.length : Int) ≤ n
  · rw [if_neg (by simp; omega), if_pos h]
  · rw [if_pos (by simp; omega), if_neg h]
def marks (k : Int) (n : Nat) : List Int := (List.range n).map fun i : Nat => k + i
theorem marks_len (k : Int) (n : Nat) : (marks k n).length = n := by simp [marks]
theorem marks_get (k : Int) (n i : Nat) (h : i < n) : (marks k n)[i]? = some (k + i) := by simp [marks, h]
theorem p_markIntS_l (p : List Int) (k0 : Int) (h0 : 0 ≤ k0) (h1 : k0 ≤ 1000000000000) (hp : p.length ≤ big) : ∀ (k i : Nat) (x : List Int), i ≤ p.length → p.length - i < k → x.length = p.length → x.take i = (marks k0 p.length).take i → laws_markIntS.l1 p k x (k0 + i) i = some (k0 + p.length, marks k0 p.length) := by
  intro k
  induction k with
  | zero => intro i x _ h; omega
  | succ k ih =>
    intro i x hi hk hl ht
    rw [laws_markIntS.l1]
    by_cases h : i < p.length
    · rw [if_pos (by simpa using h), rd?_at (by omega : i < x.length)]
      simp only [Option.bind_some]
      rw [st?_at _ (by omega : i < x.length)]
      simp only [Option.bind_some]
      unfold big at hp
      rw [wrapN i (by omega), wrapS (by omega) (by omega), show k0 + (i : Int) + 1 = k0 + ((i + 1 : Nat) : Int) by omega]
      refine ih (i + 1) _ h (by omega) (by simpa using hl) ?_
      rw [List.take_add_one, List.take_add_one, List.take_set_of_le (Nat.le_refl i), ht, marks_get _ _ _ h]
      simp [h, hl]
    · rw [if_neg (by simpa using h)]
      obtain rfl : i = p.length := by omega
      rw [List.take_of_length_le (l := x) (by omega), List.take_of_length_le (l := marks k0 p.length) (by rw [marks_len]; omega)] at ht
      rw [ht]
theorem p_markIntS (p : List Int) (k0 : Int) (h0 : 0 ≤ k0) (h1 : k0 ≤ 1000000000000) (hp : p.length ≤ big) : laws_markIntS.f p k0 = some (k0 + p.length, marks k0 p.length) := by
  unfold laws_markIntS.f
  have := p_markIntS_l p k0 h0 h1 hp (((p.length : Int) - 0).toNat + 2) 0 p (by omega) (by omega) rfl (by simp)
  rw [show ((0 : Nat) : Int) = 0 from rfl, Int.add_zero] at this
  rw [this]
  rfl
theorem sz_IntS (p : List Int) (hp : okL okZ p) (n : Int) (h0 : 0 ≤ n) (h1 : n ≤ 1048576) : ∃ r, laws_szIntS.f p n = some r ∧ (r < 0 ∨ 0 ≤ r ∧ r + wL wZ p ≤ n) := by
  rw [p_szIntS p n h0 h1 hp.1, wL_int]
  by_cases h : (p.length : Int) ≤ n
  · rw [if_pos h]; exact ⟨_, rfl, .inr ⟨by omega, by omega⟩⟩
  · rw [if_neg h]; exact ⟨_, rfl, .inl (by decide)⟩
theorem to_IntS (p : List Int) (hp : wL wZ p ≤ 1000000000) : laws_toIntS.f p = some p := p_toIntS p (wL_big wZ_pos hp)
theorem eq_IntS (p q : List Int) (hp : wL wZ p ≤ 1000000000) : laws_eqIntS.f p q = some (decide (p = q)) := p_eqIntS p q (wL_big wZ_pos hp)
theorem mk0_IntS (p : List Int) (c : Int) (h0 : 0 ≤ c) (h1 : c + 8 * wL wZ p ≤ 1000000000000) (h2 : wL wZ p ≤ 1000000000) : ∃ (c' : Int) (m : List Int), laws_markIntS.f p c = some (c', m) ∧ c ≤ c' ∧ c' ≤ c + 8 * wL wZ p := by
  have hl := wL_int p
  have hb := wL_big wZ_pos h2
  exact ⟨_, _, p_markIntS p c h0 (by omega) hb, by omega, by omega⟩
def w_Re (u : (Int) × (List (Int))) : Int := (wL wZ) u.2
def okw_Re (u : (Int) × (List (Int))) : Prop := (okL okZ) u.2
theorem w_Re_pos (u : (Int) × (List (Int))) : 0 ≤ w_Re u := by
  unfold w_Re
  have := (wL_pos wZ_pos) u.2
  omega
theorem sz_Re (u : (Int) × (List (Int))) (hu : okw_Re u) (n : Int) (h0 : 0 ≤ n) (h1 : n ≤ 1048576) : ∃ r, laws_szRe.f u.1 u.2 n = some r ∧ (r < 0 ∨ 0 ≤ r ∧ r + w_Re u ≤ n) := by
  have p0 := (wL_pos wZ_pos) u.2
  unfold laws_szRe.f w_Re
  obtain ⟨r0, e0, g0⟩ := sz_IntS u.2 hu n (by omega) (by omega)
  rw [e0]
  simp only [Option.bind_some]
  by_cases n0 : r0 < 0
  · rw [if_pos (by simpa using n0)]; exact ⟨-1, rfl, .inl (by decide)⟩
  rw [if_neg (by simpa using n0)]
  replace g0 := g0.resolve_left n0
  exact ⟨_, rfl, .inr ⟨by omega, by omega⟩⟩
theorem to_Re (u : (Int) × (List (Int))) (hu : w_Re u ≤ 1000000000) : laws_toRe.f u.1 u.2 = some u := by
  have p0 := (wL_pos wZ_pos) u.2
  unfold laws_toRe.f
  unfold w_Re at hu
  rw [to_IntS u.2 (by omega)]
  rfl
theorem eq_Re (u v : (Int) × (List (Int))) (hu : w_Re u ≤ 1000000000) : laws_eqRe.f u.1 u.2 v.1 v.2 = some (decide (u = v)) := by
  have p0 := (wL_pos wZ_pos) u.2
  unfold laws_eqRe.f
  unfold w_Re at hu
  rw [eq_IntS u.2 v.2 (by omega)]
  clear hu p0
  obtain ⟨a0, a1⟩ := u
  obtain ⟨b0, b1⟩ := v
  by_cases h0 : a0 = b0
  case neg => simp [h0]
  by_cases h1 : a1 = b1
  case neg => simp [h0, h1]
  simp [h0, h1]
theorem sz_ReS (p : List ((Int) × (List (Int)))) (hp : okL okw_Re p) (n : Int) (h0 : 0 ≤ n) (h1 : n ≤ 1048576) : ∃ r, laws_szReS.f p n = some r ∧ (r < 0 ∨ 0 ≤ r ∧ r + wL w_Re p ≤ n) :=
  sz_all p hp.1 n h0 h1 (fun u n => laws_szRe.f u.1 u.2 n) w_Re (fun u hu n a b => sz_Re u (hp.2 u hu) n a b) (fun u _ => w_Re_pos u) (laws_szReS.l1 p) (((p.length : Int) - 0).toNat + 2) (by omega) fun _ _ _ => rfl
theorem to_ReS (p : List ((Int) × (List (Int)))) (hp : wL w_Re p ≤ 1000000000) : laws_toReS.f p = some p :=
  copy_all p (wL_big w_Re_pos hp) (fun u K => (laws_toRe.f u.1 u.2).bind fun v => K (v.1, v.2)) (fun u hu K => by rw [to_Re u (wL_mem w_Re_pos hp hu)]; rfl) (laws_toReS.l1 p) _ (((p.length : Int) - 0).toNat + 2) 4398046511104 (by omega) (wL_cap w_Re_pos hp (by decide)) fun _ _ _ => rfl
theorem eq_ReS (p q : List ((Int) × (List (Int)))) (hp : wL w_Re p ≤ 1000000000) : laws_eqReS.f p q = some (decide (p = q)) :=
  eqS_all p q (wL_big w_Re_pos hp) (fun u v => laws_eqRe.f u.1 u.2 v.1 v.2) (fun u hu v => eq_Re u v (wL_mem w_Re_pos hp hu)) (laws_eqReS.l1 p q) (((p.length : Int) - 0).toNat + 2) (by omega) fun _ _ => rfl
theorem mk0_ReS_l (n : Nat) (hn : n ≤ big) : ∀ (us : List ((Int) × (List (Int)))) (c : Int), 0 ≤ c → c + 8 * wL w_Re us ≤ 1000000000000 → wL w_Re us ≤ 1000000000 → ∃ (c' : Int) (ms : List ((Int) × (List (Int)))), ms.length = us.length ∧ c ≤ c' ∧ c' ≤ c + 8 * wL w_Re us ∧
    (∀ (d pre : List ((Int) × (List (Int)))) (k : Nat), d.length = n → pre.length + us.length = n → us.length < k → laws_markReS.l1 d k (pre ++ us) c pre.length = some (c', pre ++ ms)) := by
  intro us
  induction us with
  | nil =>
    intro c h0 h1 h2
    refine ⟨c, [], rfl, Int.le_refl _, by simp [wL, sumW], fun d pre k hd hl hk => ?_⟩
    · obtain ⟨k, rfl⟩ := Nat.exists_eq_succ_of_ne_zero (show k ≠ 0 by omega)
      rw [laws_markReS.l1, if_neg (by simp at hl ⊢; omega)]
  | cons u us ih =>
    intro c h0 h1 h2
    have hw : wL w_Re (u :: us) = 1 + w_Re u + wL w_Re us := by simp only [wL, sumW, List.length_cons]; omega
    have hu0 := w_Re_pos u
    have hus := wL_pos w_Re_pos us
    rw [hw] at h1 h2
    have key : ∃ (c1 : Int) (m : (Int) × (List (Int))), c ≤ c1 ∧ c1 ≤ c + 8 * (1 + w_Re u) ∧
        (∀ (d pre : List ((Int) × (List (Int)))) (k : Nat), d.length = n → pre.length + us.length + 1 = n → laws_markReS.l1 d (k + 1) (pre ++ u :: us) c pre.length = laws_markReS.l1 d k (pre ++ m :: us) c1 ((pre.length + 1 : Nat) : Int)) := by
      have hwu : w_Re u = (wL wZ) u.2 := rfl
      rw [hwu] at hu0 h1 h2 ⊢
      have := (wL_pos wZ_pos) u.2
      have w0 : IntKind.i64.wrap (c + 1) = c + 1 := wrapS (by omega) (by omega)
      obtain ⟨c1, m1, e1, f1, l1⟩ := mk0_IntS u.2 (c + 1) (by omega) (by omega) (by omega)
      have z1 : ¬ (c1 < 0) := by omega
      refine ⟨c1, (c, m1), by omega, by omega, fun d pre k hd hl => ?_⟩
      · rw [laws_markReS.l1, if_pos (by rw [decide_eq_true_eq]; omega), wrapN pre.length (by unfold big at hn; omega)]
        simp only [rd_mid, st_mid, Option.bind_some, w0, e1]
    obtain ⟨c1, m, k1, k2, k3⟩ := key
    obtain ⟨c', ms, i1, i2, i3, i4⟩ := ih c1 (by omega) (by omega) (by omega)
    refine ⟨c', m :: ms, by simp [i1], by omega, by rw [hw]; omega, fun d pre k hd hl hk => ?_⟩
    · obtain ⟨k, rfl⟩ := Nat.exists_eq_succ_of_ne_zero (show k ≠ 0 by omega)
      simp only [List.length_cons] at hl hk
      rw [k3 d pre k hd (by omega)]
      have := i4 d (pre ++ [m]) k hd (by simp; omega) (by omega)
      simp only [List.length_append, List.length_cons, List.length_nil, Nat.zero_add, List.append_assoc, List.cons_append, List.nil_append] at this
      exact this
theorem mk0_ReS (d : List ((Int) × (List (Int)))) (c : Int) (h0 : 0 ≤ c) (h1 : c + 8 * wL w_Re d ≤ 1000000000000) (h2 : wL w_Re d ≤ 1000000000) : ∃ (c' : Int) (m : List ((Int) × (List (Int)))), laws_markReS.f d c = some (c', m) ∧ c ≤ c' ∧ c' ≤ c + 8 * wL w_Re d := by
  obtain ⟨c', ms, i1, i2, i3, i4⟩ := mk0_ReS_l d.length (wL_big w_Re_pos h2) d c h0 h1 h2
  refine ⟨c', ms, ?_, i2, i3⟩
  · unfold laws_markReS.f
    have := i4 d [] (((d.length : Int) - 0).toNat + 2) rfl (by simp) (by omega)
    rw [List.nil_append, List.nil_append] at this
    rw [show ((([] : List ((Int) × (List (Int)))).length : Nat) : Int) = 0 from rfl] at this
    rw [this]
    rfl
def w_Span (u : (Int) × (Int) × (Int)) : Int := 0
def okw_Span (u : (Int) × (Int) × (Int)) : Prop := True
theorem w_Span_pos (u : (Int) × (Int) × (Int)) : 0 ≤ w_Span u := by
  unfold w_Span
  exact Int.le_refl _
theorem to_Span (u : (Int) × (Int) × (Int)) (hu : w_Span u ≤ 1000000000) : laws_toSpan.f u.1 u.2.1 u.2.2 = some u := by
  unfold laws_toSpan.f
  rfl
theorem eq_Span (u v : (Int) × (Int) × (Int)) (hu : w_Span u ≤ 1000000000) : laws_eqSpan.f u.1 u.2.1 u.2.2 v.1 v.2.1 v.2.2 = some (decide (u = v)) := by
  unfold laws_eqSpan.f
  clear hu
  obtain ⟨a0, a1, a2⟩ := u
  obtain ⟨b0, b1, b2⟩ := v
  by_cases h0 : a0 = b0
  case neg => simp [h0]
  by_cases h1 : a1 = b1
  case neg => simp [h0, h1]
  by_cases h2 : a2 = b2
  case neg => simp [h0, h1, h2]
  simp [h0, h1, h2]
theorem sz_SpanS (p : List ((Int) × (Int) × (Int))) (hp : okL okw_Span p) (n : Int) (h0 : 0 ≤ n) (h1 : n ≤ 1048576) : ∃ r, laws_szSpanS.f p n = some r ∧ (r < 0 ∨ 0 ≤ r ∧ r + wL w_Span p ≤ n) := by
  unfold laws_szSpanS.f
  have hm := hp.1
  unfold maxN at hm
  rw [wrapS (by omega) (by omega)]
  have hw : wL w_Span p = p.length := by
    have := sumW_zero (w := w_Span) p (fun u => rfl)
    unfold wL
    omega
  by_cases h : n - (p.length : Int) < 0
  · rw [if_pos (by simpa using h)]; exact ⟨_, rfl, .inl (by decide)⟩
  · rw [if_neg (by simpa using h)]; exact ⟨_, rfl, .inr ⟨by omega, by omega⟩⟩
theorem to_SpanS (p : List ((Int) × (Int) × (Int))) (hp : wL w_Span p ≤ 1000000000) : laws_toSpanS.f p = some p :=
  copy_all p (wL_big w_Span_pos hp) (fun u K => (laws_toSpan.f u.1 u.2.1 u.2.2).bind fun v => K (v.1, v.2.1, v.2.2)) (fun u hu K => by rw [to_Span u (wL_mem w_Span_pos hp hu)]; rfl) (laws_toSpanS.l1 p) _ (((p.length : Int) - 0).toNat + 2) 5864062014805 (by omega) (wL_cap w_Span_pos hp (by decide)) fun _ _ _ => rfl
theorem eq_SpanS (p q : List ((Int) × (Int) × (Int))) (hp : wL w_Span p ≤ 1000000000) : laws_eqSpanS.f p q = some (decide (p = q)) :=
  eqS_all p q (wL_big w_Span_pos hp) (fun u v => laws_eqSpan.f u.1 u.2.1 u.2.2 v.1 v.2.1 v.2.2) (fun u hu v => eq_Span u v (wL_mem w_Span_pos hp hu)) (laws_eqSpanS.l1 p q) (((p.length : Int) - 0).toNat + 2) (by omega) fun _ _ => rfl
theorem mk0_SpanS_l (n : Nat) (hn : n ≤ big) : ∀ (us : List ((Int) × (Int) × (Int))) (c : Int), 0 ≤ c → c + 8 * wL w_Span us ≤ 1000000000000 → wL w_Span us ≤ 1000000000 → ∃ (c' : Int) (ms : List ((Int) × (Int) × (Int))), ms.length = us.length ∧ c ≤ c' ∧ c' ≤ c + 8 * wL w_Span us ∧
    (∀ (d pre : List ((Int) × (Int) × (Int))) (k : Nat), d.length = n → pre.length + us.length = n → us.length < k → laws_markSpanS.l1 d k (pre ++ us) c pre.length = some (c', pre ++ ms)) := by
  intro us
  induction us with
  | nil =>
    intro c h0 h1 h2
    refine ⟨c, [], rfl, Int.le_refl _, by simp [wL, sumW], fun d pre k hd hl hk => ?_⟩
    · obtain ⟨k, rfl⟩ := Nat.exists_eq_succ_of_ne_zero (show k ≠ 0 by omega)
      rw [laws_markSpanS.l1, if_neg (by simp at hl ⊢; omega)]
  | cons u us ih =>
    intro c h0 h1 h2
    have hw : wL w_Span (u :: us) = 1 + w_Span u + wL w_Span us := by simp only [wL, sumW, List.length_cons]; omega
    have hu0 := w_Span_pos u
    have hus := wL_pos w_Span_pos us
    rw [hw] at h1 h2
    have key : ∃ (c1 : Int) (m : (Int) × (Int) × (Int)), c ≤ c1 ∧ c1 ≤ c + 8 * (1 + w_Span u) ∧
        (∀ (d pre : List ((Int) × (Int) × (Int))) (k : Nat), d.length = n → pre.length + us.length + 1 = n → laws_markSpanS.l1 d (k + 1) (pre ++ u :: us) c pre.length = laws_markSpanS.l1 d k (pre ++ m :: us) c1 ((pre.length + 1 : Nat) : Int)) := by
      have hwu : w_Span u = 0 := rfl
      rw [hwu] at hu0 h1 h2 ⊢

      have w0 : IntKind.i64.wrap (c + 1) = c + 1 := wrapS (by omega) (by omega)
      have w1 : IntKind.i64.wrap (c + 1 + 1) = c + 1 + 1 := wrapS (by omega) (by omega)
      have w2 : IntKind.i64.wrap (c + 1 + 1 + 1) = c + 1 + 1 + 1 := wrapS (by omega) (by omega)
      refine ⟨c + 1 + 1 + 1, (c, c + 1, c + 1 + 1), by omega, by omega, fun d pre k hd hl => ?_⟩
      · rw [laws_markSpanS.l1, if_pos (by rw [decide_eq_true_eq]; omega), wrapN pre.length (by unfold big at hn; omega)]
        simp only [rd_mid, st_mid, Option.bind_some, w0, w1, w2]
    obtain ⟨c1, m, k1, k2, k3⟩ := key
    obtain ⟨c', ms, i1, i2, i3, i4⟩ := ih c1 (by omega) (by omega) (by omega)
    refine ⟨c', m :: ms, by simp [i1], by omega, by rw [hw]; omega, fun d pre k hd hl hk => ?_⟩
    · obtain ⟨k, rfl⟩ := Nat.exists_eq_succ_of_ne_zero (show k ≠ 0 by omega)
      simp only [List.length_cons] at hl hk
      rw [k3 d pre k hd (by omega)]
      have := i4 d (pre ++ [m]) k hd (by simp; omega) (by omega)
      simp only [List.length_append, List.length_cons, List.length_nil, Nat.zero_add, List.append_assoc, List.cons_append, List.nil_append] at this
      exact this
theorem mk0_SpanS (d : List ((Int) × (Int) × (Int))) (c : Int) (h0 : 0 ≤ c) (h1 : c + 8 * wL w_Span d ≤ 1000000000000) (h2 : wL w_Span d ≤ 1000000000) : ∃ (c' : Int) (m : List ((Int) × (Int) × (Int))), laws_markSpanS.f d c = some (c', m) ∧ c ≤ c' ∧ c' ≤ c + 8 * wL w_Span d := by
  obtain ⟨c', ms, i1, i2, i3, i4⟩ := mk0_SpanS_l d.length (wL_big w_Span_pos h2) d c h0 h1 h2
  refine ⟨c', ms, ?_, i2, i3⟩
  · unfold laws_markSpanS.f
    have := i4 d [] (((d.length : Int) - 0).toNat + 2) rfl (by simp) (by omega)
    rw [List.nil_append, List.nil_append] at this
    rw [show ((([] : List ((Int) × (Int) × (Int))).length : Nat) : Int) = 0 from rfl] at this
    rw [this]
    rfl
theorem mk_SpanS_l (n : Nat) (hn : n ≤ big) : ∀ (us : List ((Int) × (Int) × (Int))) (c : Int), 0 ≤ c → c + 8 * wL w_Span us ≤ 1000000000000 → wL w_Span us ≤ 1000000000 → ∃ (c' : Int) (ms : List ((Int) × (Int) × (Int))), ms.length = us.length ∧ c ≤ c' ∧ c' ≤ c + 8 * wL w_Span us ∧
    (∀ (d pre : List ((Int) × (Int) × (Int))) (k : Nat), d.length = n → pre.length + us.length = n → us.length < k → laws_markSpanS.l1 d k (pre ++ us) c pre.length = some (c', pre ++ ms)) ∧
    ∀ (pre post : List ((Int) × (Int) × (Int))) (k : Nat), pre.length + us.length ≤ n → us.length < k → post = [] → laws_heldSpanS.l1 (pre ++ ms ++ post) k c pre.length = some (.go c') := by
  intro us
  induction us with
  | nil =>
    intro c h0 h1 h2
    refine ⟨c, [], rfl, Int.le_refl _, by simp [wL, sumW], fun d pre k hd hl hk => ?_, fun pre post k hl hk hp => ?_⟩
    · obtain ⟨k, rfl⟩ := Nat.exists_eq_succ_of_ne_zero (show k ≠ 0 by omega)
      rw [laws_markSpanS.l1, if_neg (by simp at hl ⊢; omega)]
    · obtain ⟨k, rfl⟩ := Nat.exists_eq_succ_of_ne_zero (show k ≠ 0 by omega)
      subst hp
      rw [laws_heldSpanS.l1, if_neg (by simp)]
  | cons u us ih =>
    intro c h0 h1 h2
    have hw : wL w_Span (u :: us) = 1 + w_Span u + wL w_Span us := by simp only [wL, sumW, List.length_cons]; omega
    have hu0 := w_Span_pos u
    have hus := wL_pos w_Span_pos us
    rw [hw] at h1 h2
    have key : ∃ (c1 : Int) (m : (Int) × (Int) × (Int)), c ≤ c1 ∧ c1 ≤ c + 8 * (1 + w_Span u) ∧
        (∀ (d pre : List ((Int) × (Int) × (Int))) (k : Nat), d.length = n → pre.length + us.length + 1 = n → laws_markSpanS.l1 d (k + 1) (pre ++ u :: us) c pre.length = laws_markSpanS.l1 d k (pre ++ m :: us) c1 ((pre.length + 1 : Nat) : Int)) ∧
        ∀ (pre post : List ((Int) × (Int) × (Int))) (k : Nat), pre.length + 1 ≤ n → laws_heldSpanS.l1 (pre ++ m :: post) (k + 1) c pre.length = laws_heldSpanS.l1 (pre ++ m :: post) k c1 ((pre.length + 1 : Nat) : Int) := by
      have hwu : w_Span u = 0 := rfl
      rw [hwu] at hu0 h1 h2 ⊢

      have w0 : IntKind.i64.wrap (c + 1) = c + 1 := wrapS (by omega) (by omega)
      have w1 : IntKind.i64.wrap (c + 1 + 1) = c + 1 + 1 := wrapS (by omega) (by omega)
      have w2 : IntKind.i64.wrap (c + 1 + 1 + 1) = c + 1 + 1 + 1 := wrapS (by omega) (by omega)
      refine ⟨c + 1 + 1 + 1, (c, c + 1, c + 1 + 1), by omega, by omega, fun d pre k hd hl => ?_, fun pre post k hl => ?_⟩
      · rw [laws_markSpanS.l1, if_pos (by rw [decide_eq_true_eq]; omega), wrapN pre.length (by unfold big at hn; omega)]
        simp only [rd_mid, st_mid, Option.bind_some, w0, w1, w2]
      · rw [laws_heldSpanS.l1, if_pos (by rw [decide_eq_true_eq]; simp only [List.length_append, List.length_cons]; omega), wrapN pre.length (by unfold big at hn; omega)]
        simp only [rd_mid, Option.bind_some, w0, w1, w2, bne_self_eq_false, Bool.false_eq_true, if_false, decide_eq_true_eq]
    obtain ⟨c1, m, k1, k2, k3, k4⟩ := key
    obtain ⟨c', ms, i1, i2, i3, i4, i5⟩ := ih c1 (by omega) (by omega) (by omega)
    refine ⟨c', m :: ms, by simp [i1], by omega, by rw [hw]; omega, fun d pre k hd hl hk => ?_, fun pre post k hl hk hp => ?_⟩
    · obtain ⟨k, rfl⟩ := Nat.exists_eq_succ_of_ne_zero (show k ≠ 0 by omega)
      simp only [List.length_cons] at hl hk
      rw [k3 d pre k hd (by omega)]
      have := i4 d (pre ++ [m]) k hd (by simp; omega) (by omega)
      simp only [List.length_append, List.length_cons, List.length_nil, Nat.zero_add, List.append_assoc, List.cons_append, List.nil_append] at this
      exact this
    · obtain ⟨k, rfl⟩ := Nat.exists_eq_succ_of_ne_zero (show k ≠ 0 by omega)
      subst hp
      simp only [List.length_cons] at hl hk
      have e : pre ++ m :: ms ++ [] = pre ++ m :: ms := by simp
      rw [e, k4 pre ms k (by omega)]
      have := i5 (pre ++ [m]) [] k (by simp; omega) (by omega) rfl
      simp only [List.length_append, List.length_cons, List.length_nil, Nat.zero_add, List.append_assoc, List.cons_append, List.nil_append, List.append_nil] at this
      exact this
theorem mk_SpanS (d : List ((Int) × (Int) × (Int))) (c : Int) (h0 : 0 ≤ c) (h1 : c + 8 * wL w_Span d ≤ 1000000000000) (h2 : wL w_Span d ≤ 1000000000) : ∃ (c' : Int) (m : List ((Int) × (Int) × (Int))), laws_markSpanS.f d c = some (c', m) ∧ c ≤ c' ∧ c' ≤ c + 8 * wL w_Span d ∧ laws_heldSpanS.f m c = some c' := by
  obtain ⟨c', ms, i1, i2, i3, i4, i5⟩ := mk_SpanS_l d.length (wL_big w_Span_pos h2) d c h0 h1 h2
  refine ⟨c', ms, ?_, i2, i3, ?_⟩
  · unfold laws_markSpanS.f
    have := i4 d [] (((d.length : Int) - 0).toNat + 2) rfl (by simp) (by omega)
    rw [List.nil_append, List.nil_append] at this
    rw [show ((([] : List ((Int) × (Int) × (Int))).length : Nat) : Int) = 0 from rfl] at this
    rw [this]
    rfl
  · unfold laws_heldSpanS.f
    have := i5 [] [] (((ms.length : Int) - 0).toNat + 2) (by simp) (by omega) rfl
    rw [List.nil_append, List.append_nil] at this
    rw [show ((([] : List ((Int) × (Int) × (Int))).length : Nat) : Int) = 0 from rfl] at this
    rw [this]
    rfl
abbrev Sp := Int × Int × Int
theorem filS_pos {u : Sp} {us : List Sp} {n : Int} (h : (u.1 == n) = true) : (u :: us).filter (fun u => u.1 == n) = u :: us.filter (fun u => u.1 == n) := List.filter_cons_of_pos (p := fun u : Sp => u.1 == n) h
theorem filS_neg {u : Sp} {us : List Sp} {n : Int} (h : ¬ (u.1 == n) = true) : (u :: us).filter (fun u => u.1 == n) = us.filter (fun u => u.1 == n) := List.filter_cons_of_neg (p := fun u : Sp => u.1 == n) h
theorem p_keepSpans (p : List Sp) (n : Int) (hp : p.length ≤ 200) : spec_SpansOf.l1 p n (((p.length : Int) - 0).toNat + 2) [] 0 = some (p.filter fun u => u.1 == n) := by
  have key : ∀ (rest pre out : List Sp), pre.length + rest.length ≤ 200 → out.length ≤ pre.length → ∀ k, rest.length < k → spec_SpansOf.l1 (pre ++ rest) n k out pre.length = some (out ++ rest.filter fun u => u.1 == n) := by
    intro rest
    induction rest with
    | nil =>
      intro pre out hb ho k hk
      obtain ⟨k, rfl⟩ := Nat.exists_eq_succ_of_ne_zero (show k ≠ 0 by omega)
      rw [spec_SpansOf.l1, if_neg (by simp)]
      simp
    | cons u us ih =>
      intro pre out hb ho k hk
      obtain ⟨k, rfl⟩ := Nat.exists_eq_succ_of_ne_zero (show k ≠ 0 by omega)
      simp only [List.length_cons] at hb hk
      rw [spec_SpansOf.l1, if_pos (by rw [decide_eq_true_eq]; simp only [List.length_append, List.length_cons]; omega), rd_mid]
      simp only [Option.bind_some]
      have step : ∀ out' : List Sp, out'.length ≤ pre.length + 1 → spec_SpansOf.l1 (pre ++ u :: us) n k out' (IntKind.i64.wrap ((pre.length : Int) + 1)) = some (out' ++ us.filter fun u => u.1 == n) := by
        intro out' h
        rw [wrapN pre.length (by omega)]
        have := ih (pre ++ [u]) out' (by simp; omega) (by simp; omega) k (by omega)
        simp only [List.length_append, List.length_cons, List.length_nil, Nat.zero_add, List.append_assoc, List.cons_append, List.nil_append] at this
        exact this
      by_cases h : (u.1 == n) = true
      · rw [if_pos h, app?_at (by simp; omega)]
        simp only [Option.bind_some]
        rw [step _ (by simp; omega), filS_pos h]
        simp
      · rw [if_neg h]
        simp only [Option.bind_some]
        rw [step _ (by omega), filS_neg h]
  have := key p [] [] (by simpa using hp) (Nat.le_refl _) (((p.length : Int) - 0).toNat + 2) (by omega)
  rw [List.nil_append, show ((([] : List Sp).length : Nat) : Int) = 0 from rfl] at this
  rw [this]
  rfl
theorem p_delIdx (p : List Sp) (n : Int) (hp : p.length ≤ big) : slices_IndexFunc_impl_Span_impl_Span_impl_SpansOf_1.f p n = some (match p.findIdx? (fun u => u.1 != n) with | some j => (j : Int) | none => -1) := by
  unfold slices_IndexFunc_impl_Span_impl_Span_impl_SpansOf_1.f
  have := scan_loop p hp (fun u => u.1 != n) (fun i _ => i) (slices_IndexFunc_impl_Span_impl_Span_impl_SpansOf_1.l1 p n) (fun k i => by rw [slices_IndexFunc_impl_Span_impl_Span_impl_SpansOf_1.l1]; simp only [impl_SpansOf_1.f, Option.bind_some]) (((p.length : Int) - 0).toNat + 2) 0 (by omega) (by omega)
  rw [show ((0 : Nat) : Int) = 0 from rfl] at this
  rw [this, List.drop_zero]
  cases hf : p.findIdx? (fun u => u.1 != n) with
  | none => rfl
  | some j =>
    obtain ⟨hj, h1, h2⟩ := List.findIdx?_eq_some_iff_getElem.1 hf
    simp [hj]
/-- What is kept moves to the front. -/
theorem p_delLoop (n : Int) (N : Nat) (hN : N ≤ 200) : ∀ (rest mid pre d : List Sp), d.length = N → pre.length + mid.length + rest.length = N → mid ≠ [] → ∀ k, rest.length < k →
    ∃ tail, slices_DeleteFunc_impl_Span_impl_Span_impl_SpansOf_1.l1 d n k (pre ++ mid ++ rest) pre.length ((pre.length + mid.length : Nat) : Int) = some (pre ++ (rest.filter fun u => u.1 == n) ++ tail, ((pre.length + (rest.filter fun u => u.1 == n).length : Nat) : Int)) ∧ pre.length + (rest.filter fun u => u.1 == n).length + tail.length = N := by
  intro rest
  induction rest with
  | nil =>
    intro mid pre d hd hl hm k hk
    obtain ⟨k, rfl⟩ := Nat.exists_eq_succ_of_ne_zero (show k ≠ 0 by omega)
    refine ⟨mid, ?_, by simpa using hl⟩
    rw [slices_DeleteFunc_impl_Span_impl_Span_impl_SpansOf_1.l1, if_neg (by simp at hl ⊢; omega)]
    simp
  | cons u us ih =>
    intro mid pre d hd hl hm k hk
    obtain ⟨k, rfl⟩ := Nat.exists_eq_succ_of_ne_zero (show k ≠ 0 by omega)
    simp only [List.length_cons] at hl hk
    have hx : rd? (pre ++ mid ++ u :: us) ((pre.length + mid.length : Nat) : Int) = some u := by
      have := rd_mid (pre ++ mid) u us
      rwa [List.length_append] at this
    rw [slices_DeleteFunc_impl_Span_impl_Span_impl_SpansOf_1.l1, if_pos (by rw [decide_eq_true_eq]; omega), hx]
    simp only [Option.bind_some, impl_SpansOf_1.f]
    by_cases h : u.1 = n
    · have h1 : (u.1 == n) = true := by simpa using h
      have h2 : (u.1 != n) = false := by simpa using h
      rw [h2]
      simp only [Bool.not_false, if_true]
      obtain ⟨m, ms, rfl⟩ := List.exists_cons_of_ne_nil hm
      have ha : pre ++ (m :: ms) ++ u :: us = pre ++ m :: (ms ++ u :: us) := by simp
      rw [ha, rd_mid]
      simp only [Option.bind_some]
      rw [st_mid]
      simp only [Option.bind_some]
      have hw : IntKind.i64.wrap (((pre.length + (m :: ms).length : Nat) : Int) + 1) = (((pre ++ [u]).length + (ms ++ [u]).length : Nat) : Int) := by
        rw [wrapS (by omega) (by omega)]
        simp
        omega
      have hw2 : IntKind.i64.wrap ((pre.length : Int) + 1) = ((pre ++ [u]).length : Int) := by
        rw [wrapS (by omega) (by omega)]; simp
      rw [hw, hw2]
      have hb : pre ++ (u.1, u.2.1, u.2.2) :: (ms ++ u :: us) = (pre ++ [u]) ++ (ms ++ [u]) ++ us := by simp
      rw [hb]
      obtain ⟨tail, t1, t2⟩ := ih (ms ++ [u]) (pre ++ [u]) d hd (by simp at hl ⊢; omega) (by simp) k (by omega)
      refine ⟨tail, ?_, ?_⟩
      · rw [t1, filS_pos h1]
        simp
        omega
      · rw [filS_pos h1]
        simp at t2 ⊢
        omega
    · have h1 : ¬ (u.1 == n) = true := by simpa using h
      have h2 : (u.1 != n) = true := by simpa using h
      rw [h2]
      simp only [Bool.not_true, Bool.false_eq_true, if_false, Option.bind_some]
      have hw : IntKind.i64.wrap (((pre.length + mid.length : Nat) : Int) + 1) = ((pre.length + (mid ++ [u]).length : Nat) : Int) := by
        rw [wrapS (by omega) (by omega)]
        simp
        omega
      rw [hw]
      have hb : pre ++ mid ++ u :: us = pre ++ (mid ++ [u]) ++ us := by simp
      rw [hb]
      obtain ⟨tail, t1, t2⟩ := ih (mid ++ [u]) pre d hd (by simp; omega) (by simp) k (by omega)
      rw [filS_neg h1]
      exact ⟨tail, t1, t2⟩
theorem p_delete (p : List Sp) (n : Int) (hp : p.length ≤ 200) : slices_DeleteFunc_impl_Span_impl_Span_impl_SpansOf_1.f p n = some (p.filter fun u => u.1 == n) := by
  unfold slices_DeleteFunc_impl_Span_impl_Span_impl_SpansOf_1.f
  rw [p_delIdx p n (by unfold big; omega)]
  simp only [Option.bind_some]
  cases hf : p.findIdx? (fun u => u.1 != n) with
  | none =>
    rw [if_pos (by decide)]
    rw [List.findIdx?_eq_none_iff] at hf
    congr 1
    symm
    rw [List.filter_eq_self]
    intro u hu
    have := hf u hu
    simpa using this
  | some j =>
    obtain ⟨hj, h1, h2⟩ := List.findIdx?_eq_some_iff_getElem.1 hf
    rw [if_neg (by simp <;> omega)]
    have hp1 : p = p.take j ++ [p[j]] ++ p.drop (j + 1) := by
      rw [List.append_assoc]
      show p = p.take j ++ p[j] :: p.drop (j + 1)
      rw [← List.drop_eq_getElem_cons hj, List.take_append_drop]
    have hlt : (p.take j).length = j := by simp; omega
    rw [wrapN j (by omega)]
    obtain ⟨tail, t1, t2⟩ := p_delLoop n p.length hp (p.drop (j + 1)) [p[j]] (p.take j) p rfl (by simp; omega) (by simp) ((((p.length : Int)) - ((j + 1 : Nat) : Int)).toNat + 2) (by simp; omega)
    rw [← hp1, hlt] at t1
    simp only [List.length_singleton] at t1
    rw [t1]
    simp only [Option.bind_some]
    rw [hlt] at t2
    generalize hq : (p.drop (j + 1)).filter (fun u => u.1 == n) = q at t1 t2 ⊢
    have hfil : p.filter (fun u => u.1 == n) = p.take j ++ q := by
      rw [← hq]
      conv => lhs; rw [hp1]
      rw [List.filter_append, List.filter_append]
      have e1 : (p.take j).filter (fun u => u.1 == n) = p.take j := by
        rw [List.filter_eq_self]
        intro u hu
        obtain ⟨i, hi, rfl⟩ := List.mem_iff_getElem.1 hu
        rw [List.length_take] at hi
        rw [List.getElem_take]
        have := h2 i (by omega)
        simpa using this
      have e2 : [p[j]].filter (fun u => u.1 == n) = [] := by
        rw [filS_neg (by simpa using h1)]
        rfl
      rw [e1, e2, List.append_nil]
    have hlen : ((p.take j ++ q).length) = j + q.length := by simp; omega
    have hcl : (p.take j ++ q ++ tail).length = p.length := by rw [List.length_append, hlen]; omega
    have c1 := cut?_at (xs := p.take j ++ q ++ tail) (a := j + q.length) (b := (p.take j ++ q ++ tail).length) (by rw [hcl]; omega) (Nat.le_refl _)
    rw [c1]
    simp only [Option.bind_some, Int.toNat_natCast]
    have c2 : (cpy (p.take j ++ q ++ tail) (j + q.length) ((p.take j ++ q ++ tail).take (p.take j ++ q ++ tail).length |>.drop (j + q.length)).length (List.replicate ((p.take j ++ q ++ tail).take (p.take j ++ q ++ tail).length |>.drop (j + q.length)).length (0, 0, 0))).take (j + q.length) = p.take j ++ q := by
      unfold cpy
      rw [List.append_assoc (List.take _ _), List.take_append_of_le_length (by simp; omega), List.take_take, Nat.min_self, ← hlen, List.take_append_of_le_length (Nat.le_refl _), List.take_length]
    have c3 := cut?_at (xs := cpy (p.take j ++ q ++ tail) (j + q.length) ((p.take j ++ q ++ tail).take (p.take j ++ q ++ tail).length |>.drop (j + q.length)).length (List.replicate ((p.take j ++ q ++ tail).take (p.take j ++ q ++ tail).length |>.drop (j + q.length)).length (0, 0, 0))) (a := 0) (b := j + q.length) (by omega) (by unfold cpy; simp; omega)
    rw [show ((0 : Nat) : Int) = 0 from rfl] at c3
    rw [c3, c2, hfil]
    rfl
theorem p_SpansOf (p : List Nd) (s : List Sp) (n : Int) (hp : p.length ≤ big) (hq : ∀ u ∈ p, u.2.length ≤ big) (hs : s.length ≤ big) : ∃ r : List Sp × Bool, impl_SpansOf.f p s n = some r ∧ spec_SpansOf.f p s n = some r ∧ r.1.length ≤ 200 := by
  unfold impl_SpansOf.f spec_SpansOf.f
  rw [p_implRe p hp hq, p_specPlain p hp hq, p_implPlain p hp]
  simp only [Option.bind_some]
  cases h1 : okRe p with
  | false => exact ⟨([], false), rfl, rfl, by simp⟩
  | true =>
    cases h2 : p.all okPl with
    | false => exact ⟨([], false), rfl, rfl, by simp⟩
    | true =>
      simp only [Bool.not_true, Bool.false_eq_true, if_false, Bool.and_self]
      by_cases h3 : (s.length : Int) > 200
      · rw [if_pos (by simpa using h3), if_pos (by simpa using h3)]
        exact ⟨([], false), rfl, rfl, by simp⟩
      · rw [if_neg (by simpa using h3), if_neg (by simpa using h3)]
        have hl : p.length ≤ 40 := by
          unfold okRe at h1
          simp only [Bool.and_eq_true, decide_eq_true_eq] at h1
          omega
        unfold impl_isPlace.f
        rw [wrapS (n := (p.length : Int) - 1) (by omega) (by omega)]
        simp only [p_inRange, p_l1In, Option.bind_some]
        cases h4 : (decide (0 ≤ n) && decide (n ≤ (p.length : Int) - 1)) with
        | false => exact ⟨([], false), rfl, rfl, by simp⟩
        | true =>
          simp only [Bool.not_true, Bool.false_eq_true, if_false]
          unfold slices_Clone_impl_Span_impl_Span.f
          rw [app?_at (by simp; omega)]
          simp only [Option.bind_some, List.nil_append]
          rw [p_delete s n (by omega)]
          have := p_keepSpans s n (by omega)
          rw [this]
          refine ⟨(s.filter fun u => u.1 == n, true), rfl, rfl, ?_⟩
          have := List.length_filter_le (fun u : Sp => u.1 == n) s
          show (s.filter fun u => u.1 == n).length ≤ _
          omega
theorem law_SpansOf (p : List Nd) (s : List Sp) (n : Int) (hp : allW (fun a => inK .i64 a.1 ∧ allW (inK .i64) a.2) p) (hs : allW (fun a => inK .i64 a.1 ∧ inK .i64 a.2.1 ∧ inK .i64 a.2.2) s) (_ : inK .i64 n) : laws_FnExactSpansOf.f p s n = some true := by
  unfold laws_FnExactSpansOf.f
  obtain ⟨u, e, hu⟩ := sz_ReS p ⟨hp.1, fun u hu => ⟨(hp.2 u hu).2.1, fun _ _ => trivial⟩⟩ 1048576 (by decide) (by decide)
  rw [e]
  simp only [Option.bind_some]
  by_cases h0 : u < 0
  · rw [if_pos (by simpa using h0)]
  rw [if_neg (by simpa using h0)]
  replace hu := hu.resolve_left h0
  have w1 := wL_pos w_Re_pos p
  obtain ⟨v, e2, hv⟩ := sz_SpanS s ⟨hs.1, fun _ _ => trivial⟩ u hu.1 (by omega)
  rw [e2]
  simp only [Option.bind_some]
  by_cases h1 : v < 0
  · rw [if_pos (by simpa using h1)]
  rw [if_neg (by simpa using h1)]
  replace hv := hv.resolve_left h1
  have w2 := wL_pos w_Span_pos s
  have hpb := wL_big w_Re_pos (p := p) (by omega)
  have hsb := wL_big w_Span_pos (p := s) (by omega)
  have hqb : ∀ u ∈ p, u.2.length ≤ big := fun u hu => by
    have := wL_mem w_Re_pos (p := p) (by omega) hu
    exact wL_big wZ_pos this
  obtain ⟨r, f1, f2, f3⟩ := p_SpansOf p s n hpb hqb hsb
  have wr : wL w_Span r.1 ≤ 1000 := by
    have := sumW_zero (w := w_Span) r.1 (fun u => rfl)
    unfold wL
    omega
  obtain ⟨c1, m1, a1, a2, a3⟩ := mk0_ReS p 1 (by omega) (by omega) (by omega)
  obtain ⟨c2, m2, b1, b2, b3⟩ := mk0_SpanS s c1 (by omega) (by omega) (by omega)
  obtain ⟨c3, m3, d1, d2, d3, d4⟩ := mk_SpanS r.1 1 (by omega) (by omega) (by omega)
  have n1 : ¬ c2 < 0 := by omega
  have n2 : ¬ c3 < 0 := by omega
  simp [to_ReS p (by omega), to_SpanS s (by omega), f1, f2, eq_SpanS r.1 r.1 (by omega), eq_ReS p p (by omega), eq_SpanS s s (by omega), a1, b1, d1, d4, n1, n2]
end Go.Proofs.Ytkieinlcpkpcjaa
