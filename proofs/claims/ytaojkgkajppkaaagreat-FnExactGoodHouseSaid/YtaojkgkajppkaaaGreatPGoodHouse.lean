/- Plain laws of the printed functions. Conditions as each lemma says. -/
import Derived.Test.YtaojkgkajppkaaaGreatPB
import Derived.Test.YtaojkgkajppkaaaGreatWGoodHouse4
set_option linter.unusedVariables false
set_option linter.unusedSimpArgs false
namespace Go.Proofs.YtaojkgkajppkaaaGreat
open Go Go.Proofs.GL
theorem p_l1In (a b c : Int) : zm.f a b c = some (decide (b ≤ a) && decide (a ≤ c)) := by
  unfold zm.f
  by_cases h : b ≤ a
  · rw [if_pos (by simpa using h)]; simp [h]
  · rw [if_neg (by simpa using h)]; simp [h]
theorem p_inRange (a b c : Int) : z0j.f a b c = some (decide (b ≤ a) && decide (a ≤ c)) := by
  unfold z0j.f
  by_cases h : b ≤ a
  · rw [if_pos (by simpa using h)]; simp [h]
  · rw [if_neg (by simpa using h)]; simp [h]
def wZ {α : Type} (_ : α) : Int := 0
def wStr (s : ByteArray) : Int := s.size
def wL {α : Type} (w : α → Int) (p : List α) : Int := p.length + sumW w p
def okZ {α : Type} (_ : α) : Prop := True
def okStr (s : ByteArray) : Prop := s.size ≤ maxN
def okL {α : Type} (ok : α → Prop) (p : List α) : Prop := p.length ≤ maxN ∧ ∀ u ∈ p, ok u
theorem wZ_pos {α : Type} (u : α) : 0 ≤ wZ u := Int.le_refl _
theorem wStr_pos (s : ByteArray) : 0 ≤ wStr s := by unfold wStr; omega
theorem wL_pos {α : Type} {w : α → Int} (h : ∀ u, 0 ≤ w u) (p : List α) : 0 ≤ wL w p := by
  have := sumW_pos (w := w) (us := p) fun u _ => h u
  unfold wL
  omega
theorem wL_len {α : Type} {w : α → Int} (h : ∀ u, 0 ≤ w u) (p : List α) : (p.length : Int) ≤ wL w p := by
  have := sumW_pos (w := w) (us := p) fun u _ => h u
  unfold wL
  omega
theorem wL_big {α : Type} {w : α → Int} (h : ∀ u, 0 ≤ w u) {p : List α} (hp : wL w p ≤ 1000000000) : p.length ≤ big := by
  have := wL_len h p
  unfold big
  omega
theorem wL_cap {α : Type} {w : α → Int} (h : ∀ u, 0 ≤ w u) {p : List α} (hp : wL w p ≤ 1000000000) {n : Nat} (hn : 1000000000 ≤ n) : p.length ≤ n := by
  have := wL_len h p
  omega
theorem wL_mem {α : Type} {w : α → Int} (h : ∀ u, 0 ≤ w u) {p : List α} (hp : wL w p ≤ 1000000000) {u : α} (hu : u ∈ p) : w u ≤ 1000000000 := by
  have := sumW_mem (w := w) (us := p) (fun u _ => h u) u hu
  unfold wL at hp
  omega
theorem sumW_zero {α : Type} {w : α → Int} : ∀ p : List α, (∀ u, w u = 0) → sumW w p = 0
  | [], _ => rfl
  | u :: us, h => by
    have := sumW_zero us h
    have := h u
    unfold sumW
    omega
theorem wL_int (p : List Int) : wL wZ p = p.length := by
  have := sumW_zero (w := wZ) p fun _ => rfl
  unfold wL
  omega
theorem rd_mid {α : Type} (pre : List α) (u : α) (us : List α) : rd? (pre ++ u :: us) (pre.length : Int) = some u := by rw [rd?_at (by simp)]; simp
theorem st_mid {α : Type} (pre : List α) (u v : α) (us : List α) : st? (pre ++ u :: us) (pre.length : Int) v = some (pre ++ v :: us) := by rw [st?_at _ (by simp)]; simp
theorem p_l1All (p : List Int) (a b : Int) (hp : p.length ≤ big) : zq.f p a b = some (p.all fun u => decide (a ≤ u) && decide (u ≤ b)) := by
  unfold zq.f
  have := all_loop p hp (fun u => !(decide (a ≤ u) && decide (u ≤ b))) false (zq.l1 p a b) (fun k i => by rw [zq.l1]; simp only [p_l1In, Option.bind_some]) (((p.length : Int) - 0).toNat + 2) 0 (by omega) (by omega)
  rw [show ((0 : Nat) : Int) = 0 from rfl] at this
  rw [this, List.drop_zero]
  have e : p.any (fun u => !(decide (a ≤ u) && decide (u ≤ b))) = !p.all fun u => decide (a ≤ u) && decide (u ≤ b) := by rw [List.all_eq_not_any_not]; simp
  rw [e]
  cases h : p.all fun u => decide (a ≤ u) && decide (u ≤ b) <;> simp
def okT : Int → List Int → Bool
  | _, [] => true
  | L, [x] => decide (L ≤ x) && decide (x ≤ 1114111)
  | L, x :: y :: r => (decide (L ≤ x) && decide (x ≤ 1114111)) && (decide (x ≤ y) && decide (y ≤ 1114111)) && okT (y + 2) r
def okSet (s : List Int) : Bool := okT 0 s && decide (s.length % 2 = 0) && decide (s.length ≤ 24)
theorem okT_all : ∀ (s : List Int) (L : Int), 0 ≤ L → okT L s = true → ∀ x ∈ s, 0 ≤ x ∧ x ≤ 1114111
  | [], L, _, _, x, hx => by cases hx
  | [y], L, h0, h, x, hx => by
    simp only [okT, Bool.and_eq_true, decide_eq_true_eq] at h
    rw [List.mem_singleton.1 hx]
    omega
  | y :: z :: r, L, h0, h, x, hx => by
    simp only [okT, Bool.and_eq_true, decide_eq_true_eq] at h
    rcases List.mem_cons.1 hx with rfl | hx
    · omega
    · rcases List.mem_cons.1 hx with rfl | hx
      · omega
      · exact okT_all r (z + 2) (by omega) h.2 x hx
theorem rem2 (n : Nat) : rem? (n : Int) 2 = some (((n % 2 : Nat)) : Int) := by
  unfold rem?
  rw [if_neg (by decide), Int.tmod_eq_emod_of_nonneg (by omega)]
  congr 1
theorem p_implSet_l : ∀ (n : Nat) (rest pre : List Int) (L : Int), rest.length ≤ n → pre.length + rest.length ≤ big → pre.length % 2 = 0 → (pre = [] ∧ L = 0 ∨ ∃ q l, pre = q ++ [l] ∧ L = l + 2 ∧ 0 ≤ l ∧ l ≤ 1114111) → ∀ k, rest.length < k → z0v.l1 (pre ++ rest) k pre.length = some (if okT L rest then .go () else .ret false) := by
  intro n
  induction n with
  | zero =>
    intro rest pre L hn hb he hL k hk
    obtain rfl : rest = [] := List.eq_nil_of_length_eq_zero (by omega)
    obtain ⟨k, rfl⟩ := Nat.exists_eq_succ_of_ne_zero (show k ≠ 0 by omega)
    rw [z0v.l1, if_neg (by simp)]
    rfl
  | succ n ih =>
    intro rest pre L hn hb he hL k hk
    obtain ⟨k, rfl⟩ := Nat.exists_eq_succ_of_ne_zero (show k ≠ 0 by omega)
    cases rest with
    | nil =>
      rw [z0v.l1, if_neg (by simp)]
      rfl
    | cons x r =>
      unfold big at hb
      simp only [List.length_cons] at hn hb hk
      rw [z0v.l1, if_pos (by rw [decide_eq_true_eq]; simp only [List.length_append, List.length_cons]; omega), rd_mid]
      simp only [Option.bind_some]
      -- the first of two
      have e1 : ((if (decide ((pre.length : Int) > 0)) = true then ((rem? (pre.length : Int) 2).bind fun u437 => some (u437 == 0)) else (some false)).bind fun (o : Bool) => match o with | x435 => (if x435 = true then ((rd? (pre ++ x :: r) (IntKind.i64.wrap ((pre.length : Int) - 1))).bind fun u440 => some (IntKind.i64.wrap (u440 + 2))) else (if (decide ((pre.length : Int) > 0)) = true then ((rd? (pre ++ x :: r) (IntKind.i64.wrap ((pre.length : Int) - 1))).bind fun u443 => some u443) else (some 0)))) = some L := by
        rcases hL with ⟨rfl, rfl⟩ | ⟨q, l, rfl, rfl, l0, l1⟩
        · rfl
        · rw [rem2, he]
          have hp : decide ((((q ++ [l]).length : Nat) : Int) > 0) = true := by simp
          rw [hp]
          simp only [if_true, Option.bind_some]
          rw [if_pos (by decide), wrapS (n := (((q ++ [l]).length : Nat) : Int) - 1) (by simp <;> omega) (by simp at hb ⊢; omega)]
          have : (((q ++ [l]).length : Nat) : Int) - 1 = (q.length : Int) := by simp
          rw [this, List.append_assoc]
          show ((rd? (q ++ l :: (x :: r)) (q.length : Int)).bind _) = _
          rw [rd_mid]
          simp only [Option.bind_some]
          rw [wrapS (by omega) (by omega)]
      rw [e1]
      simp only [Option.bind_some, p_inRange]
      have hL0 : 0 ≤ L := by
        rcases hL with ⟨_, rfl⟩ | ⟨_, l, _, rfl, l0, l1⟩ <;> omega
      by_cases hx : L ≤ x ∧ x ≤ 1114111
      · have c1 : (decide (L ≤ x) && decide (x ≤ 1114111)) = true := by simp [hx]
        rw [c1]
        simp only [Bool.not_true, Bool.false_eq_true, if_false]
        rw [wrapN pre.length (by omega)]
        cases r with
        | nil =>
          obtain ⟨k, rfl⟩ := Nat.exists_eq_succ_of_ne_zero (show k ≠ 0 by simp at hk; omega)
          rw [z0v.l1, if_neg (by simp)]
          simp only [okT, c1, if_true]
        | cons y r =>
          simp only [List.length_cons] at hn hb hk
          obtain ⟨k, rfl⟩ := Nat.exists_eq_succ_of_ne_zero (show k ≠ 0 by omega)
          have hl1 : ((pre.length + 1 : Nat) : Int) = ((pre ++ [x]).length : Int) := by simp
          have ha : pre ++ x :: y :: r = (pre ++ [x]) ++ y :: r := by simp
          rw [z0v.l1, hl1, ha, if_pos (by rw [decide_eq_true_eq]; simp only [List.length_append, List.length_cons]; omega), rd_mid]
          simp only [Option.bind_some]
          have e2 : ((if (decide ((((pre ++ [x]).length : Nat) : Int) > 0)) = true then ((rem? (((pre ++ [x]).length : Nat) : Int) 2).bind fun u437 => some (u437 == 0)) else (some false)).bind fun (o : Bool) => match o with | x435 => (if x435 = true then ((rd? ((pre ++ [x]) ++ y :: r) (IntKind.i64.wrap ((((pre ++ [x]).length : Nat) : Int) - 1))).bind fun u440 => some (IntKind.i64.wrap (u440 + 2))) else (if (decide ((((pre ++ [x]).length : Nat) : Int) > 0)) = true then ((rd? ((pre ++ [x]) ++ y :: r) (IntKind.i64.wrap ((((pre ++ [x]).length : Nat) : Int) - 1))).bind fun u443 => some u443) else (some 0)))) = some x := by
            rw [rem2]
            have hp : decide ((((pre ++ [x]).length : Nat) : Int) > 0) = true := by simp
            have hm : (pre ++ [x]).length % 2 = 1 := by simp; omega
            rw [hp, hm]
            simp only [if_true, Option.bind_some]
            rw [if_neg (by decide), wrapS (n := (((pre ++ [x]).length : Nat) : Int) - 1) (by simp <;> omega) (by simp <;> omega)]
            have : (((pre ++ [x]).length : Nat) : Int) - 1 = (pre.length : Int) := by simp
            rw [this, List.append_assoc]
            show ((rd? (pre ++ x :: (y :: r)) (pre.length : Int)).bind _) = _
            rw [rd_mid]
            rfl
          rw [e2]
          simp only [Option.bind_some, p_inRange]
          by_cases hy : x ≤ y ∧ y ≤ 1114111
          · have c2 : (decide (x ≤ y) && decide (y ≤ 1114111)) = true := by simp [hy]
            rw [c2]
            simp only [Bool.not_true, Bool.false_eq_true, if_false]
            have hl2 : IntKind.i64.wrap ((((pre ++ [x]).length : Nat) : Int) + 1) = ((pre ++ [x] ++ [y]).length : Int) := by rw [wrapS (by simp <;> omega) (by simp <;> omega)]; simp only [List.length_append, List.length_singleton]; omega
            have ha2 : (pre ++ [x]) ++ y :: r = (pre ++ [x] ++ [y]) ++ r := by simp
            rw [hl2, ha2, ih r (pre ++ [x] ++ [y]) (y + 2) (by omega) (by simp [big]; omega) (by simp; omega) (.inr ⟨pre ++ [x], y, rfl, rfl, by omega, by omega⟩) k (by omega)]
            simp only [okT, c1, c2, Bool.and_self, Bool.true_and]
          · have c2 : (decide (x ≤ y) && decide (y ≤ 1114111)) = false := by
              rw [Bool.and_eq_false_iff, decide_eq_false_iff_not, decide_eq_false_iff_not]; omega
            rw [c2]
            simp only [okT, c1, c2, Bool.false_and, Bool.and_false, Bool.not_false, if_true, Option.bind_some, Bool.false_eq_true, if_false]
      · have c1 : (decide (L ≤ x) && decide (x ≤ 1114111)) = false := by
          rw [Bool.and_eq_false_iff, decide_eq_false_iff_not, decide_eq_false_iff_not]; omega
        rw [c1]
        have : okT L (x :: r) = false := by
          cases r with
          | nil => simp only [okT, c1]
          | cons y r => simp only [okT, c1, Bool.false_and]
        rw [this]
        rfl
theorem p_implSet (s : List Int) (hs : s.length ≤ big) : z0v.f s = some (okSet s) := by
  unfold z0v.f
  have := p_implSet_l s.length s [] 0 (Nat.le_refl _) (by simpa using hs) rfl (.inl ⟨rfl, rfl⟩) (((s.length : Int) - 0).toNat + 2) (by omega)
  rw [List.nil_append, show ((([] : List Int).length : Nat) : Int) = 0 from rfl] at this
  rw [this, rem2]
  unfold okSet
  cases okT 0 s with
  | false => rfl
  | true =>
    simp only [if_true, Option.bind_some, Bool.true_and]
    by_cases h : s.length % 2 = 0
    · rw [h, if_pos (by decide)]
      simp
      omega
    · rw [if_neg (by simp; omega)]
      simp [h]
theorem p_specSet_l : ∀ (n : Nat) (rest pre : List Int) (L : Int), rest.length ≤ n → pre.length + rest.length ≤ big → rest.length % 2 = 0 → (∀ x ∈ rest, 0 ≤ x ∧ x ≤ 1114111) → (pre = [] ∧ L = 0 ∨ ∃ q l, pre = q ++ [l] ∧ L = l + 2 ∧ 0 ≤ l ∧ l ≤ 1114111) → ∀ k, rest.length < k → zr.l1 (pre ++ rest) k pre.length = some (if okT L rest then .go () else .ret false) := by
  intro n
  induction n with
  | zero =>
    intro rest pre L hn hb he hr hL k hk
    obtain rfl : rest = [] := List.eq_nil_of_length_eq_zero (by omega)
    obtain ⟨k, rfl⟩ := Nat.exists_eq_succ_of_ne_zero (show k ≠ 0 by omega)
    rw [zr.l1, if_neg (by simp)]
    rfl
  | succ n ih =>
    intro rest pre L hn hb he hr hL k hk
    obtain ⟨k, rfl⟩ := Nat.exists_eq_succ_of_ne_zero (show k ≠ 0 by omega)
    match rest, hn, hb, he, hr, hk with
    | [], _, _, _, _, _ =>
      rw [zr.l1, if_neg (by simp)]
      rfl
    | [x], _, _, he, _, _ => simp at he
    | x :: y :: r, hn, hb, he, hr, hk =>
      unfold big at hb
      simp only [List.length_cons] at hn hb hk he
      have hx := hr x (by simp)
      have hy := hr y (by simp)
      have ha : pre ++ x :: y :: r = (pre ++ [x]) ++ y :: r := by simp
      have hl1 : IntKind.i64.wrap ((pre.length : Int) + 1) = ((pre ++ [x]).length : Int) := by rw [wrapS (by omega) (by omega)]; simp only [List.length_append, List.length_singleton]; omega
      have ry : rd? (pre ++ x :: y :: r) (IntKind.i64.wrap ((pre.length : Int) + 1)) = some y := by rw [hl1, ha, rd_mid]
      rw [zr.l1, if_pos (by rw [decide_eq_true_eq]; simp only [List.length_append, List.length_cons]; omega), rd_mid, ry]
      simp only [Option.bind_some]
      have e1 : (if (decide ((pre.length : Int) > 0)) = true then ((rd? (pre ++ x :: y :: r) (IntKind.i64.wrap ((pre.length : Int) - 1))).bind fun u269 => some (decide (x < (IntKind.i64.wrap (u269 + 2))))) else (some false)) = some (decide (x < L)) := by
        rcases hL with ⟨rfl, rfl⟩ | ⟨q, l, rfl, rfl, l0, l1⟩
        · have : decide (x < 0) = false := by simp; omega
          rw [this]; rfl
        · rw [if_pos (by simp), wrapS (n := (((q ++ [l]).length : Nat) : Int) - 1) (by simp <;> omega) (by simp at hb ⊢; omega)]
          have : (((q ++ [l]).length : Nat) : Int) - 1 = (q.length : Int) := by simp
          rw [this, List.append_assoc]
          show ((rd? (q ++ l :: (x :: y :: r)) (q.length : Int)).bind _) = _
          rw [rd_mid]
          simp only [Option.bind_some]
          rw [wrapS (by omega) (by omega)]
      rw [e1]
      have c0 : decide (x ≤ 1114111) = true := by simp; omega
      have c3 : decide (y ≤ 1114111) = true := by simp; omega
      by_cases hxy : x > y
      · rw [if_pos (by simpa using hxy)]
        have : decide (x ≤ y) = false := by simp; omega
        simp only [okT, this, Bool.false_and, Bool.and_false, Option.bind_some, if_true, Bool.false_eq_true, if_false]
      · have c1 : decide (x ≤ y) = true := by simp; omega
        rw [if_neg (by simpa using hxy)]
        simp only [Option.bind_some]
        by_cases hxl : x < L
        · have c2 : decide (L ≤ x) = false := by simp; omega
          rw [if_pos (by simpa using hxl)]
          simp only [okT, c2, Bool.false_and, Option.bind_some, Bool.false_eq_true, if_false]
        · have c2 : decide (L ≤ x) = true := by simp; omega
          rw [if_neg (by simpa using hxl)]
          have hl2 : IntKind.i64.wrap ((pre.length : Int) + 2) = ((pre ++ [x] ++ [y]).length : Int) := by rw [wrapS (by omega) (by omega)]; simp only [List.length_append, List.length_singleton]; omega
          have ha2 : pre ++ x :: y :: r = (pre ++ [x] ++ [y]) ++ r := by simp
          rw [hl2, ha2, ih r (pre ++ [x] ++ [y]) (y + 2) (by omega) (by simp [big]; omega) (by omega) (fun z hz => hr z (by simp [hz])) (.inr ⟨pre ++ [x], y, rfl, rfl, by omega, by omega⟩) k (by omega)]
          simp only [okT, c0, c1, c2, c3, Bool.and_self, Bool.true_and]
theorem p_specSet (s : List Int) (hs : s.length ≤ big) : zr.f s = some (okSet s) := by
  unfold zr.f
  rw [rem2, p_l1All s 0 1114111 hs]
  unfold okSet
  by_cases h1 : s.length % 2 = 1
  · rw [h1]
    simp [h1]
  · have h2 : s.length % 2 = 0 := by omega
    rw [h2]
    simp only [Option.bind_some]
    rw [if_neg (by decide)]
    by_cases h3 : (s.length : Int) > 24
    · rw [if_pos (by simpa using h3)]
      have : decide (s.length ≤ 24) = false := by simp; omega
      rw [this, Bool.and_false]
      rfl
    · have d3 : decide (s.length ≤ 24) = true := by simp; omega
      rw [if_neg (by simpa using h3), d3]
      simp only [Option.bind_some]
      cases h4 : (s.all fun u => decide (0 ≤ u) && decide (u ≤ 1114111)) with
      | false =>
        have : okT 0 s = false := by
          by_cases h : okT 0 s = true
          · have h5 := okT_all s 0 (by omega) h
            have : (s.all fun u => decide (0 ≤ u) && decide (u ≤ 1114111)) = true := by
              rw [List.all_eq_true]
              intro x hx
              have := h5 x hx
              simp; omega
            rw [this] at h4; cases h4
          · simpa using h
        rw [this]
        rfl
      | true =>
        have hr : ∀ x ∈ s, 0 ≤ x ∧ x ≤ 1114111 := fun x hx => by
          have := (List.all_eq_true.1 h4) x hx
          simpa using this
        have := p_specSet_l s.length s [] 0 (Nat.le_refl _) (by simpa using hs) h2 hr (.inl ⟨rfl, rfl⟩) (((s.length : Int) - 0).toNat + 2) (by omega)
        rw [List.nil_append, show ((([] : List Int).length : Nat) : Int) = 0 from rfl] at this
        simp only [Bool.not_true, Bool.false_eq_true, if_false, this, Option.bind_some]
        cases okT 0 s <;> simp
def okRune (r : Int) : Bool := decide (0 ≤ r) && decide (r ≤ 1114111) && !(decide (55296 ≤ r) && decide (r ≤ 57343))
theorem p_specRune (r : Int) : zn.f r = some (okRune r) := by
  unfold zn.f okRune
  simp only [p_l1In, Option.bind_some]
  cases (decide (0 ≤ r) && decide (r ≤ 1114111)) <;> rfl
theorem p_implRune (r : Int) : z0q.f r = some (okRune r) := by
  unfold z0q.f okRune
  simp only [p_inRange, Option.bind_some]
  cases (decide (0 ≤ r) && decide (r ≤ 1114111)) <;> rfl
theorem p_allRunes (p : List Int) (hp : p.length ≤ big) : zo.f p = some (p.all okRune && decide (p.length ≤ 1000)) := by
  unfold zo.f
  have := all_loop p hp (fun u => !okRune u) false (zo.l1 p) (fun k i => by rw [zo.l1]; simp only [p_specRune, Option.bind_some]) (((p.length : Int) - 0).toNat + 2) 0 (by omega) (by omega)
  rw [show ((0 : Nat) : Int) = 0 from rfl] at this
  rw [this, List.drop_zero]
  have e : p.any (fun u => !okRune u) = !p.all okRune := by rw [List.all_eq_not_any_not]; simp
  rw [e]
  cases h : p.all okRune <;> simp
  omega
abbrev Nd := Int × List Int
/-- How many parts a node has. -/
def ar (k : Int) : Int := if k = 1 ∨ k = 2 then 0 else if k = 6 ∨ k = 7 then 1 else if k = 3 ∨ k = 4 ∨ k = 5 then 2 else -1
theorem p_partsOf (k : Int) : z12.f k = some (ar k) := by
  unfold z12.f ar
  by_cases h1 : k = 1
  · subst h1; rfl
  · by_cases h2 : k = 2
    · subst h2; rfl
    · by_cases h6 : k = 6
      · subst h6; rfl
      · by_cases h7 : k = 7
        · subst h7; rfl
        · by_cases h3 : k = 3
          · subst h3; rfl
          · by_cases h4 : k = 4
            · subst h4; rfl
            · by_cases h5 : k = 5
              · subst h5; rfl
              · simp [h1, h2, h3, h4, h5, h6, h7]
theorem p_arity (k : Int) : zp.f k = some (ar k) := by
  unfold zp.f ar
  by_cases h1 : k = 1
  · subst h1; rfl
  · by_cases h2 : k = 2
    · subst h2; rfl
    · by_cases h6 : k = 6
      · subst h6; rfl
      · by_cases h7 : k = 7
        · subst h7; rfl
        · by_cases h3 : k = 3
          · subst h3; rfl
          · by_cases h4 : k = 4
            · subst h4; rfl
            · by_cases h5 : k = 5
              · subst h5; rfl
              · simp [h1, h2, h3, h4, h5, h6, h7]
theorem ar_bd (k : Int) : -1 ≤ ar k ∧ ar k ≤ 2 := by unfold ar; split <;> (try split) <;> (try split) <;> omega
def okNd (u : Nd) : Bool := okSet u.2 && u.2.all okRune && (u.1 == 2 || decide (u.2.length = 0))
theorem okSet_len {s : List Int} (h : okSet s = true) : s.length ≤ 24 := by
  simp only [okSet, Bool.and_eq_true, decide_eq_true_eq] at h
  exact h.2
theorem p_implNd_1 (p : List Int) (hp : p.length ≤ big) : z0y.f p = some (!p.all okRune) := by
  unfold z0y.f z0x.f
  have := scan_loop p hp (fun u => !okRune u) (fun i _ => i) (z0x.l1 p) (fun k i => by rw [z0x.l1]; simp only [z0w.f, p_implRune, Option.bind_some]) (((p.length : Int) - 0).toNat + 2) 0 (by omega) (by omega)
  rw [show ((0 : Nat) : Int) = 0 from rfl] at this
  rw [this, List.drop_zero]
  have e : p.all okRune = !(p.any fun u => !okRune u) := List.all_eq_not_any_not
  rw [e, Bool.not_not]
  cases hf : p.findIdx? (fun u => !okRune u) with
  | none =>
    have : p.any (fun u => !okRune u) = false := by
      rw [List.findIdx?_eq_none_iff] at hf
      simpa using hf
    rw [this]; simp
  | some j =>
    obtain ⟨hj, h1, h2⟩ := List.findIdx?_eq_some_iff_getElem.1 hf
    have : p.any (fun u => !okRune u) = true := List.any_eq_true.2 ⟨_, List.getElem_mem hj, h1⟩
    rw [this]
    simp [hj]
theorem p_implNd (u : Nd) (hu : u.2.length ≤ big) : z0z.f u.1 u.2 = some (!okNd u) := by
  unfold z0z.f okNd
  rw [p_implSet u.2 hu, p_implNd_1 u.2 hu]
  simp only [Option.bind_some]
  cases okSet u.2 with
  | false => rfl
  | true =>
    cases u.2.all okRune with
    | false => rfl
    | true =>
      simp only [Bool.not_true, Bool.false_eq_true, if_false, Bool.true_and]
      by_cases h : u.1 = 2
      · simp [h]
      · have h1 : (u.1 != 2) = true := by simpa using h
        have h2 : (u.1 == 2) = false := by simpa using h
        rw [h1, h2]
        simp only [if_true, Bool.false_or]
        by_cases hl : u.2.length = 0
        · simp [hl]
        · have := Nat.pos_of_ne_zero hl
          simp [hl, this]
theorem p_specNd (u : Nd) (hu : u.2.length ≤ big) : zt.f u.1 u.2 = some (decide (0 ≤ ar u.1) && okNd u) := by
  unfold zt.f okNd
  rw [p_arity, p_specSet u.2 hu, p_allRunes u.2 hu]
  simp only [Option.bind_some]
  by_cases ha : ar u.1 < 0
  · have h0 : decide (0 ≤ ar u.1) = false := by simp; omega
    rw [if_pos (by simpa using ha), h0]
    rfl
  · have h0 : decide (0 ≤ ar u.1) = true := by simp; omega
    rw [if_neg (by simpa using ha), h0]
    cases hs : okSet u.2 with
    | false =>
      simp only [Bool.false_and, Bool.and_false]
      by_cases h : u.1 = 2
      · simp [h]
      · by_cases hl : (u.2.length : Int) > 0 <;> simp [h, hl]
    | true =>
      have hl := okSet_len hs
      have d : decide (u.2.length ≤ 1000) = true := by simp; omega
      rw [d, Bool.and_true]
      by_cases h : u.1 = 2
      · simp [h]
      · by_cases hl2 : u.2.length = 0
        · simp [h, hl2]
        · have h1 : (u.1 == 2) = false := by simpa using h
          have := Nat.pos_of_ne_zero hl2
          simp [h, h1, hl2, this]
/-- Nodes, put on a pile of their last parts. -/
def pileR : List Nd → Int → List Int → List (List Int) → Option (List (List Int) × List Int)
  | [], _, pile, out => some (out, pile)
  | u :: us, i, pile, out => if ar u.1 < 0 ∨ ar u.1 > pile.length then none else pileR us (i + 1) (pile.take (pile.length - (ar u.1).toNat) ++ [i]) (out ++ [pile.drop (pile.length - (ar u.1).toNat)])
def okRe (p : List Nd) : Bool := (decide (1 ≤ (p.length : Int)) && decide ((p.length : Int) ≤ 40)) && p.all okNd && (match pileR p 0 [] [] with | some (_, pile) => ((pile.length : Int) == 1) | none => false)
theorem p_parts_l : ∀ (rest pre : List Nd) (pile : List Int) (out : List (List Int)), pre.length + rest.length ≤ 1000000 → pile.length ≤ pre.length → out.length = pre.length → ∀ k, rest.length < k → z14.l1 (pre ++ rest) k out pile pre.length = some (match pileR rest pre.length pile out with | some (o, q) => .go (o, q) | none => .ret ([], false)) := by
  intro rest
  induction rest with
  | nil =>
    intro pre pile out hb hp ho k hk
    obtain ⟨k, rfl⟩ := Nat.exists_eq_succ_of_ne_zero (show k ≠ 0 by omega)
    rw [z14.l1, if_neg (by simp)]
    rfl
  | cons u us ih =>
    intro pre pile out hb hp ho k hk
    obtain ⟨k, rfl⟩ := Nat.exists_eq_succ_of_ne_zero (show k ≠ 0 by omega)
    simp only [List.length_cons] at hb hk
    rw [z14.l1, if_pos (by rw [decide_eq_true_eq]; simp only [List.length_append, List.length_cons]; omega), rd_mid]
    simp only [Option.bind_some, p_partsOf]
    unfold pileR
    have hbd := ar_bd u.1
    by_cases h1 : ar u.1 < 0
    · rw [if_pos (by simpa using h1), if_pos (.inl h1)]
      rfl
    · rw [if_neg (by simpa using h1)]
      simp only [Option.bind_some]
      by_cases h2 : ar u.1 > pile.length
      · rw [if_pos (by simpa using h2), if_pos (.inr h2)]
        try rfl
      · rw [if_neg (by simpa using h2), if_neg (by omega)]
        obtain ⟨m, hm⟩ := Int.eq_ofNat_of_zero_le (show 0 ≤ ar u.1 by omega)
        rw [hm] at h2 ⊢
        have hml : m ≤ pile.length := by omega
        rw [wrapS (n := (pile.length : Int) - m) (by omega) (by omega), show (pile.length : Int) - m = ((pile.length - m : Nat) : Int) by omega, Int.toNat_natCast]
        have c1 := cut?_at (xs := pile) (a := pile.length - m) (b := pile.length) (by omega) (Nat.le_refl _)
        have c2 := cut?_at (xs := pile) (a := 0) (b := pile.length - m) (by omega) (by omega)
        rw [show ((0 : Nat) : Int) = 0 from rfl] at c2
        rw [c1, c2]
        simp only [Option.bind_some, List.take_length, List.drop_zero, z13.f]
        rw [app?_at (by simp; omega)]
        simp only [Option.bind_some, List.nil_append]
        rw [app?_at (by simp; omega)]
        simp only [Option.bind_some]
        rw [app?_at (by simp; omega)]
        simp only [Option.bind_some]
        rw [wrapN pre.length (by omega)]
        have := ih (pre ++ [u]) (pile.take (pile.length - m) ++ [(pre.length : Int)]) (out ++ [pile.drop (pile.length - m)]) (by simp; omega) (by simp; omega) (by simp [ho]) k (by omega)
        simp only [List.length_append, List.length_cons, List.length_nil, Nat.zero_add, List.append_assoc, List.cons_append, List.nil_append] at this
        rw [this]
        rfl
theorem p_parts (p : List Nd) (hp : p.length ≤ 1000000) : z14.f p = some (match pileR p 0 [] [] with | some (o, q) => (o, ((q.length : Int) == 1)) | none => ([], false)) := by
  unfold z14.f
  have := p_parts_l p [] [] [] (by simpa using hp) (Nat.le_refl _) rfl (((p.length : Int) - 0).toNat + 2) (by omega)
  rw [List.nil_append, show ((([] : List Nd).length : Nat) : Int) = 0 from rfl] at this
  rw [this]
  cases pileR p 0 [] [] with
  | none => rfl
  | some o => rfl
theorem p_implRe (p : List Nd) (hp : p.length ≤ big) (hq : ∀ u ∈ p, u.2.length ≤ big) : z15.f p = some (okRe p) := by
  unfold z15.f okRe
  simp only [p_inRange, Option.bind_some]
  cases h1 : (decide (1 ≤ (p.length : Int)) && decide ((p.length : Int) ≤ 40)) with
  | false => rfl
  | true =>
    have hl : p.length ≤ 40 := by simp only [Bool.and_eq_true, decide_eq_true_eq] at h1; omega
    simp only [Bool.not_true, Bool.false_eq_true, if_false, Bool.true_and]
    have key : z11.f p = some (!p.all okNd) := by
      unfold z11.f z10.f
      have key : ∀ (k i : Nat), i ≤ p.length → p.length - i < k → ∃ o, z10.l1 p k i = some o ∧ (if (p.drop i).all okNd then o = .go () else ∃ n : Int, 0 ≤ n ∧ o = .ret n) := by
        intro k
        induction k with
        | zero => intro i _ h; omega
        | succ k ih =>
          intro i hi hk
          rw [z10.l1]
          by_cases h : i < p.length
          · rw [if_pos (by simpa using h), rd?_at h]
            simp only [Option.bind_some]
            rw [p_implNd _ (hq _ (List.getElem_mem h))]
            simp only [Option.bind_some]
            rw [List.drop_eq_getElem_cons h, List.all_cons]
            cases hr : okNd p[i] with
            | false => exact ⟨.ret i, by simp, by simp⟩
            | true =>
              simp only [Bool.not_true, Bool.false_eq_true, if_false, Bool.true_and]
              rw [wrapN i (by omega)]
              exact ih (i + 1) h (by omega)
          · rw [if_neg (by simpa using h)]
            exact ⟨_, rfl, by simp [List.drop_eq_nil_of_le (by omega : p.length ≤ i)]⟩
      obtain ⟨o, g1, g2⟩ := key (((p.length : Int) - 0).toNat + 2) 0 (by omega) (by omega)
      rw [show ((0 : Nat) : Int) = 0 from rfl] at g1
      rw [g1]
      rw [List.drop_zero] at g2
      cases hr : p.all okNd with
      | true =>
        rw [hr, if_pos rfl] at g2
        subst g2
        rfl
      | false =>
        rw [hr] at g2
        obtain ⟨m, hm, rfl⟩ := g2
        simp [hm]
    rw [key]
    simp only [Option.bind_some]
    cases p.all okNd with
    | false => rfl
    | true =>
      simp only [Bool.not_true, Bool.false_eq_true, if_false, Bool.true_and]
      rw [p_parts p (by omega)]
      cases pileR p 0 [] [] with
      | none => rfl
      | some o => rfl
/-- The pile's height alone. -/
def highR : List Nd → Int → Option Int
  | [], n => some n
  | u :: us, n => if ar u.1 < 0 ∨ ar u.1 > n then none else highR us (n + (1 - ar u.1))
theorem pile_high : ∀ (us : List Nd) (i : Int) (pile : List Int) (out : List (List Int)), (pileR us i pile out).map (fun o => (o.2.length : Int)) = highR us pile.length
  | [], i, pile, out => rfl
  | u :: us, i, pile, out => by
    unfold pileR highR
    split
    · rfl
    · rename_i h
      rw [pile_high us]
      congr 1
      simp
      omega
theorem high_bd : ∀ (us : List Nd) (n d : Int), 0 ≤ n → highR us n = some d → 0 ≤ d ∧ d ≤ n + us.length
  | [], n, d, h0, h => by
    obtain rfl := Option.some.inj h
    simp; omega
  | u :: us, n, d, h0, h => by
    unfold highR at h
    split at h
    · cases h
    · have := ar_bd u.1
      have := high_bd us _ d (by omega) h
      simp only [List.length_cons]
      omega
theorem p_l5Good_l : ∀ (rest pre : List Nd) (n : Int), pre.length + rest.length ≤ 1000000 → 0 ≤ n → n ≤ pre.length → (∀ u ∈ rest, u.2.length ≤ big) → ∀ k, rest.length < k → zu.l1 (pre ++ rest) k n pre.length = some (if rest.all okNd then (match highR rest n with | some d => .go d | none => .ret false) else .ret false) := by
  intro rest
  induction rest with
  | nil =>
    intro pre n hb h0 h1 hq k hk
    obtain ⟨k, rfl⟩ := Nat.exists_eq_succ_of_ne_zero (show k ≠ 0 by omega)
    rw [zu.l1, if_neg (by simp)]
    rfl
  | cons u us ih =>
    intro pre n hb h0 h1 hq k hk
    obtain ⟨k, rfl⟩ := Nat.exists_eq_succ_of_ne_zero (show k ≠ 0 by omega)
    simp only [List.length_cons] at hb hk
    rw [zu.l1, if_pos (by rw [decide_eq_true_eq]; simp only [List.length_append, List.length_cons]; omega), rd_mid]
    simp only [Option.bind_some]
    rw [p_specNd u (hq u (by simp)), p_arity]
    simp only [Option.bind_some]
    have hbd := ar_bd u.1
    rw [List.all_cons]
    unfold highR
    cases hn : okNd u with
    | false =>
      simp only [Bool.and_false, Bool.not_false, if_true, Option.bind_some, Bool.false_and, Bool.false_eq_true, if_false]
    | true =>
      simp only [Bool.and_true, Bool.true_and]
      by_cases ha : ar u.1 < 0
      · have : decide (0 ≤ ar u.1) = false := by simp; omega
        rw [this, if_pos (show ar u.1 < 0 ∨ ar u.1 > n from .inl ha)]
        simp only [Bool.not_false, if_true, Option.bind_some]
        split <;> rfl
      · have : decide (0 ≤ ar u.1) = true := by simp; omega
        rw [this]
        simp only [Bool.not_true, Bool.false_eq_true, if_false, Option.bind_some]
        by_cases hg : n < ar u.1
        · rw [if_pos (by simpa using hg), if_pos (show ar u.1 < 0 ∨ ar u.1 > n by omega)]
          simp only [Option.bind_some]
          split <;> rfl
        · rw [if_neg (by simpa using hg), if_neg (show ¬ (ar u.1 < 0 ∨ ar u.1 > n) by omega)]
          rw [wrapS (n := 1 - ar u.1) (by omega) (by omega), wrapS (n := n + (1 - ar u.1)) (by omega) (by omega), wrapN pre.length (by omega)]
          have := ih (pre ++ [u]) (n + (1 - ar u.1)) (by simp; omega) (by omega) (by simp; omega) (fun v hv => hq v (List.mem_cons_of_mem _ hv)) k (by omega)
          simp only [List.length_append, List.length_cons, List.length_nil, Nat.zero_add, List.append_assoc, List.cons_append, List.nil_append] at this
          exact this
theorem p_specRe (p : List Nd) (hp : p.length ≤ big) (hq : ∀ u ∈ p, u.2.length ≤ big) : zv.f p = some (okRe p) := by
  unfold zv.f okRe
  by_cases h : (p.length : Int) ≤ 40
  · have d1 : decide ((p.length : Int) ≤ 40) = true := by simpa using h
    rw [if_pos (by simpa using h), d1, Bool.and_true]
    unfold zu.f
    have := p_l5Good_l p [] 0 (by simp; omega) (Int.le_refl _) (Int.le_refl _) hq (((p.length : Int) - 0).toNat + 2) (by omega)
    rw [List.nil_append, show ((([] : List Nd).length : Nat) : Int) = 0 from rfl] at this
    rw [this]
    have hh := pile_high p 0 [] []
    rw [show ((([] : List Int).length : Nat) : Int) = 0 from rfl] at hh
    cases p.all okNd with
    | false => simp
    | true =>
      simp only [if_true, Option.bind_some, Bool.and_true]
      cases hp0 : pileR p 0 [] [] with
      | none =>
        rw [hp0] at hh
        rw [← hh]
        simp
      | some o =>
        rw [hp0] at hh
        rw [← hh]
        simp only [Option.map_some]
        by_cases hz : 1 ≤ (p.length : Int)
        · have : decide (1 ≤ (p.length : Int)) = true := by simpa using hz
          rw [this]
          rfl
        · have hnil : p = [] := List.eq_nil_of_length_eq_zero (by omega)
          subst hnil
          have : o = ([], []) := (Option.some.inj hp0).symm
          subst this
          rfl
  · have d1 : decide ((p.length : Int) ≤ 40) = false := by simpa using h
    rw [if_neg (by simpa using h), d1, Bool.and_false]
    rfl
/-- Whether some element passes a test that may look at its place. -/
def anyI {α : Type} (t : Nat → α → Bool) : Nat → List α → Bool
  | _, [] => false
  | n, u :: us => t n u || anyI t (n + 1) us
theorem anyI_or {α : Type} (t v : Nat → α → Bool) : ∀ (n : Nat) (us : List α), anyI (fun i u => t i u || v i u) n us = (anyI t n us || anyI v n us)
  | _, [] => rfl
  | n, u :: us => by
    rw [anyI, anyI, anyI, anyI_or t v (n + 1) us]
    cases t n u <;> cases v n u <;> cases anyI t (n + 1) us <;> cases anyI v (n + 1) us <;> rfl
theorem anyI_any {α : Type} (t : α → Bool) : ∀ (n : Nat) (us : List α), anyI (fun _ u => t u) n us = us.any t
  | _, [] => rfl
  | n, u :: us => by rw [anyI, anyI_any t (n + 1) us, List.any_cons]
theorem anyI_congr {α : Type} {t v : Nat → α → Bool} : ∀ (n : Nat) (us : List α), (∀ i u, u ∈ us → t i u = v i u) → anyI t n us = anyI v n us
  | _, [], _ => rfl
  | n, u :: us, h => by rw [anyI, anyI, h n u (by simp), anyI_congr (n + 1) us fun i w hw => h i w (by simp [hw])]
theorem find_loop {α : Type} (p : List α) (hp : p.length ≤ big) (t : α → Bool) (L : Nat → Int → Option (Lo Unit Int))
    (h1 : ∀ (k i : Nat) (h : i < p.length), L (k + 1) (i : Int) = if t p[i] = true then some (.ret (i : Int)) else L k (IntKind.i64.wrap ((i : Int) + 1)))
    (h2 : ∀ (k i : Nat), ¬ i < p.length → L (k + 1) (i : Int) = some (.go ())) (n : Nat) (hn : p.length < n) :
    ((L n 0).bind fun o => match o with | .go () => some (-1) | .ret z => some z).bind (fun u => some (decide (u ≥ 0))) = some (p.any t) := by
  have key : ∀ (k i : Nat), i ≤ p.length → p.length - i < k → ((L k (i : Int)).bind fun o => match o with | .go () => some (-1) | .ret z => some z).bind (fun u => some (decide (u ≥ 0))) = some ((p.drop i).any t) := by
    intro k
    induction k with
    | zero => intro i _ h; omega
    | succ k ih =>
      intro i hi hk
      by_cases h : i < p.length
      · rw [h1 k i h, List.drop_eq_getElem_cons h, List.any_cons]
        cases ht : t p[i] with
        | true => simp
        | false =>
          rw [if_neg (by simp), wrapN i (by unfold big at hp; omega), ih (i + 1) h (by omega), Bool.false_or]
      · rw [h2 k i h, List.drop_eq_nil_of_le (by omega)]
        rfl
  exact key n 0 (by omega) (by omega)
theorem allI_loop {α ρ : Type} (p : List α) (hp : p.length ≤ big) (t : Nat → α → Bool) (c : ρ) (L : Nat → Int → Option (Lo Unit ρ))
    (h1 : ∀ (k i : Nat) (h : i < p.length), L (k + 1) (i : Int) = if t i p[i] = true then some (.ret c) else L k (IntKind.i64.wrap ((i : Int) + 1)))
    (h2 : ∀ (k i : Nat), ¬ i < p.length → L (k + 1) (i : Int) = some (.go ())) (n : Nat) (hn : p.length < n) :
    L n 0 = some (if anyI t 0 p = true then .ret c else .go ()) := by
  have key : ∀ (k i : Nat), i ≤ p.length → p.length - i < k → L k (i : Int) = some (if anyI t i (p.drop i) = true then .ret c else .go ()) := by
    intro k
    induction k with
    | zero => intro i _ h; omega
    | succ k ih =>
      intro i hi hk
      by_cases h : i < p.length
      · rw [h1 k i h, List.drop_eq_getElem_cons h, anyI]
        cases ht : t i p[i] with
        | true => simp
        | false =>
          rw [if_neg (by simp), wrapN i (by unfold big at hp; omega), ih (i + 1) h (by omega), Bool.false_or]
      · rw [h2 k i h, List.drop_eq_nil_of_le (by omega)]
        rfl
  exact key n 0 (by omega) (by omega)
theorem bindO {α β : Type} {x : Option α} {f : α → Option β} {a : α} {b : Option β} (h : x = some a) (h2 : f a = b) : x.bind f = b := by subst h; exact h2
abbrev Cl := Int × List Nd
def bgC (c : Cl) : Prop := c.2.length ≤ 1000000000 ∧ ∀ u ∈ c.2, u.2.length ≤ 1000000000
def okCl (c : Cl) : Bool := if c.1 = 1 then okRe c.2 else (decide (c.1 = 2) || decide (c.1 = 3)) && decide (c.2.length = 0)
def okCls (l : List Cl) : Bool := l.all okCl && decide ((l.length : Int) ≤ 8)
theorem p_specCls (l : List Cl) (hl : l.length ≤ 1000000000) (hb : ∀ c ∈ l, bgC c) : zw.f l = some (okCls l) := by
  unfold zw.f okCls
  rw [allI_loop l (by unfold big; omega) (fun _ c => !okCl c) false (zw.l1 l) (fun k i h => ?_) (fun k i h => ?_) _ (by omega), anyI_any]
  · have e : l.all okCl = !l.any fun c => !okCl c := List.all_eq_not_any_not
    rw [e]
    cases l.any fun c => !okCl c with
    | true => simp
    | false => simp
  · have hc := hb l[i] (List.getElem_mem h)
    rw [zw.l1, if_pos (by rw [decide_eq_true_eq]; omega), rd?_at h]
    generalize l[i] = c at *
    obtain ⟨c1, c2⟩ := c
    unfold okCl
    simp only [Option.bind_some]
    by_cases h1 : c1 = 1
    · subst h1
      rw [p_specRe c2 (by have := hc.1; unfold big; dsimp only at this; omega) (fun u hu => by have := hc.2 u hu; unfold big; omega)]
      cases hr : okRe c2 <;> simp [hr]
    · have f1 : (c1 == 1) = false := by simpa using h1
      by_cases h2 : c1 = 2
      · subst h2
        cases c2 <;> simp
      · have f2 : (c1 == 2) = false := by simpa using h2
        by_cases h3 : c1 = 3
        · subst h3
          cases c2 <;> simp
        · have f3 : (c1 == 3) = false := by simpa using h3
          simp [f1, f2, f3, h1, h2, h3]
  · rw [zw.l1, if_neg (by rw [decide_eq_true_eq]; omega)]
theorem p_awaited1 (c : Cl) (hc : bgC c) : z16.f c.1 c.2 = some (!okCl c) := by
  obtain ⟨c1, c2⟩ := c
  unfold z16.f okCl
  dsimp only
  by_cases h1 : c1 = 1
  · subst h1
    rw [p_implRe c2 (by have := hc.1; unfold big; dsimp only at this; omega) (fun u hu => by have := hc.2 u hu; unfold big; omega)]
    cases hr : okRe c2 <;> simp [hr]
  · have f1 : (c1 == 1) = false := by simpa using h1
    by_cases h2 : c1 = 2
    · subst h2
      cases c2 <;> simp
    · have f2 : (c1 == 2) = false := by simpa using h2
      by_cases h3 : c1 = 3
      · subst h3
        cases c2 <;> simp
      · have f3 : (c1 == 3) = false := by simpa using h3
        simp [f1, f2, f3, h1, h2, h3]
theorem p_implCls (l : List Cl) (hl : l.length ≤ 1000000000) (hb : ∀ c ∈ l, bgC c) : z19.f l = some (okCls l) := by
  unfold z19.f okCls z18.f z17.f
  have e : l.all okCl = !l.any fun c => !okCl c := List.all_eq_not_any_not
  by_cases h8 : (l.length : Int) ≤ 8
  · have := find_loop l (by unfold big; omega) (fun c => !okCl c) (z17.l1 l) (fun k i h => by
      rw [z17.l1, if_pos (by rw [decide_eq_true_eq]; omega), rd?_at h]
      simp only [Option.bind_some, p_awaited1 l[i] (hb _ (List.getElem_mem h))]) (fun k i h => by
      rw [z17.l1, if_neg (by rw [decide_eq_true_eq]; omega)]) (((l.length : Int) - 0).toNat + 2) (by omega)
    rw [if_pos (by simpa using h8)]
    refine bindO this ?_
    rw [e]
    simp [h8]
  · rw [if_neg (by simpa using h8)]
    simp [h8]
theorem p_areRunes (p : List Int) (n : Int) (hp : p.length ≤ big) : z0u.f p n = some (decide ((p.length : Int) ≤ n) && p.all okRune) := by
  unfold z0u.f z0t.f z0s.f
  by_cases h : (p.length : Int) ≤ n
  · rw [if_pos (by simpa using h)]
    have := scan_loop p hp (fun u => !okRune u) (fun i _ => i) (z0s.l1 p) (fun k i => by rw [z0s.l1]; simp only [z0r.f, p_implRune, Option.bind_some]) (((p.length : Int) - 0).toNat + 2) 0 (by omega) (by omega)
    rw [show ((0 : Nat) : Int) = 0 from rfl] at this
    rw [this, List.drop_zero]
    have e : p.all okRune = !(p.any fun u => !okRune u) := List.all_eq_not_any_not
    rw [e]
    cases hf : p.findIdx? (fun u => !okRune u) with
    | none =>
      have : p.any (fun u => !okRune u) = false := by
        rw [List.findIdx?_eq_none_iff] at hf
        simpa using hf
      rw [this]; simp [h]
    | some j =>
      obtain ⟨hj, h1, h2⟩ := List.findIdx?_eq_some_iff_getElem.1 hf
      have : p.any (fun u => !okRune u) = true := List.any_eq_true.2 ⟨_, List.getElem_mem hj, h1⟩
      rw [this]
      simp [hj]
  · rw [if_neg (by simpa using h)]
    simp [h]
abbrev In := Int × Int × Int × Int × List Int × List Cl × List Int
def bgI (x : In) : Prop := x.2.2.2.2.1.length ≤ 1000000000 ∧ x.2.2.2.2.2.1.length ≤ 1000000000 ∧ x.2.2.2.2.2.2.length ≤ 1000000000 ∧ ∀ c ∈ x.2.2.2.2.2.1, bgC c
def rg (a lo hi : Int) : Bool := decide (lo ≤ a) && decide (a ≤ hi)
def okIn (n : Int) (x : In) : Bool :=
  let nil := decide (x.2.2.2.2.2.1.length + x.2.2.2.2.2.2.length = 0)
  let none3 := decide (x.2.2.2.2.1.length = 0) && nil
  if x.1 = 1 then decide (x.2.1 = 0) && decide (x.2.2.1 = 0) && decide (x.2.2.2.1 = 0) && (x.2.2.2.2.1.all okRune && decide ((x.2.2.2.2.1.length : Int) ≤ 40)) && nil
  else if x.1 = 2 then decide (x.2.2.1 = 0) && decide (x.2.2.2.2.1.length = 0) && okCls x.2.2.2.2.2.1 && decide (x.2.2.2.2.2.2.length = x.2.2.2.2.2.1.length) && x.2.2.2.2.2.2.all (fun u => rg u 0 n) && rg x.2.1 0 1000 && rg x.2.2.2.1 0 n
  else if x.1 = 3 ∨ x.1 = 4 then rg x.2.1 0 3 && rg x.2.2.1 (-1000) 1000 && decide (x.2.2.2.1 = 0) && none3
  else if x.1 = 5 then rg x.2.1 0 3 && rg x.2.2.1 (-1000) 1000 && rg x.2.2.2.1 0 n && none3
  else if x.1 = 6 then decide (x.2.1 = 0) && decide (x.2.2.1 = 0) && rg x.2.2.2.1 0 n && none3
  else if x.1 = 7 then decide (x.2.1 = 0) && decide (x.2.2.1 = 0) && decide (x.2.2.2.1 = 0) && none3
  else false
theorem p_rgS (a b c : Int) : zm.f a b c = some (rg a b c) := p_l1In a b c
theorem p_rgI (a b c : Int) : z0j.f a b c = some (rg a b c) := p_inRange a b c
theorem len0 {α : Type} (l : List α) : ((l.length : Int) == 0) = decide (l.length = 0) := by rw [Bool.eq_iff_iff]; simp
theorem len2 {α β : Type} (a : List α) (b : List β) (ha : a.length ≤ 1000000000) (hb : b.length ≤ 1000000000) : (IntKind.i64.wrap ((a.length : Int) + (b.length : Int)) == 0) = decide (a.length + b.length = 0) ∧ decide (IntKind.i64.wrap ((a.length : Int) + (b.length : Int)) > 0) = !decide (a.length + b.length = 0) := by
  rw [wrapS (by omega) (by omega)]
  constructor
  · rw [Bool.eq_iff_iff]
    simp only [beq_iff_eq, decide_eq_true_eq]
    omega
  · rw [Bool.eq_iff_iff]
    simp only [decide_eq_true_eq, Bool.not_eq_true', decide_eq_false_iff_not]
    omega
theorem len3 {α β γ : Type} (a : List α) (b : List β) (c : List γ) (ha : a.length ≤ 1000000000) (hb : b.length ≤ 1000000000) (hc : c.length ≤ 1000000000) : (IntKind.i64.wrap (IntKind.i64.wrap ((a.length : Int) + (b.length : Int)) + (c.length : Int)) == 0) = (decide (a.length = 0) && decide (b.length + c.length = 0)) := by
  rw [wrapS (n := (a.length : Int) + (b.length : Int)) (by omega) (by omega), wrapS (by omega) (by omega), Bool.eq_iff_iff]
  simp only [beq_iff_eq, decide_eq_true_eq, Bool.and_eq_true]
  omega
theorem p_specIn (p : List In) (x : In) (hp : p.length ≤ 1000000000) (hx : bgI x) : zx.f p x.1 x.2.1 x.2.2.1 x.2.2.2.1 x.2.2.2.2.1 x.2.2.2.2.2.1 x.2.2.2.2.2.2 = some (okIn (p.length : Int) x) := by
  obtain ⟨k, a, b, to, tx, cl, go⟩ := x
  obtain ⟨h1, h2, h3, h4⟩ := hx
  dsimp only at *
  unfold zx.f okIn
  have hn : rg 0 0 (p.length : Int) = true := by unfold rg; simp
  have aR := p_allRunes tx (by unfold big; omega)
  have aC := p_specCls cl h2 h4
  have aA : zq.f go 0 (p.length : Int) = some (go.all fun u => rg u 0 (p.length : Int)) := p_l1All go 0 _ (by unfold big; omega)
  have w3 := len3 tx cl go h1 h2 h3
  have w2 := (len2 cl go h2 h3).1
  dsimp only
  by_cases k1 : k = 1
  · subst k1
    rw [aR, w2]
    by_cases l4 : (tx.length : Int) ≤ 40
    · have l5 : tx.length ≤ 1000 := by omega
      cases tx.all okRune <;> by_cases a0 : a = 0 <;> by_cases b0 : b = 0 <;> by_cases t0 : to = 0 <;> simp [a0, b0, t0, l4, l5]
    · cases tx.all okRune <;> by_cases l5 : tx.length ≤ 1000 <;> by_cases a0 : a = 0 <;> by_cases b0 : b = 0 <;> by_cases t0 : to = 0 <;> simp [a0, b0, t0, l4, l5]
  by_cases k2 : k = 2
  · subst k2
    rw [aC, aA]
    have e4 : decide (go.length = cl.length) = decide ((go.length : Int) = (cl.length : Int)) := by rw [Bool.eq_iff_iff]; simp only [decide_eq_true_eq]; omega
    simp only [p_rgS, e4]
    cases okCls cl <;> cases (go.all fun u => rg u 0 (p.length : Int)) <;> cases rg a 0 1000 <;> cases rg to 0 (p.length : Int) <;> by_cases b0 : b = 0 <;> by_cases t0 : tx = [] <;> by_cases l4 : (go.length : Int) = (cl.length : Int) <;> simp [b0, t0, l4]
  by_cases k3 : k = 3 ∨ k = 4
  · rw [if_neg k1, if_neg k2, if_pos k3]
    have f1 : (k == 1) = false := by simpa using k1
    have f2 : (k == 2) = false := by simpa using k2
    have f5 : (k == 5) = false := by rw [beq_eq_false_iff_ne]; omega
    have f3 : (if (k == 3) = true then (some (k == 3)) else (if (k == 4) = true then (some (k == 4)) else (some (k == 5)))) = some true := by
      rcases k3 with rfl | rfl <;> rfl
    rw [f1, f2, f3, f5]
    simp only [p_rgS, w3]
    cases rg a 0 3 <;> cases rg b (-1000) 1000 <;> by_cases t0 : to = 0 <;> simp [t0, hn]
  by_cases k5 : k = 5
  · subst k5
    simp only [p_rgS, w3]
    cases rg a 0 3 <;> cases rg b (-1000) 1000 <;> cases rg to 0 (p.length : Int) <;> simp
  have f1 : (k == 1) = false := by simpa using k1
  have f2 : (k == 2) = false := by simpa using k2
  have f3 : (k == 3) = false := by rw [beq_eq_false_iff_ne]; omega
  have f4 : (k == 4) = false := by rw [beq_eq_false_iff_ne]; omega
  have f5 : (k == 5) = false := by simpa using k5
  by_cases k6 : k = 6
  · subst k6
    simp only [p_rgS, w3]
    cases rg to 0 (p.length : Int) <;> by_cases a0 : a = 0 <;> by_cases b0 : b = 0 <;> simp [a0, b0]
  by_cases k7 : k = 7
  · subst k7
    simp only [p_rgS, w3]
    by_cases a0 : a = 0 <;> by_cases b0 : b = 0 <;> by_cases t0 : to = 0 <;> simp [a0, b0, t0, hn]
  have f6 : (k == 6) = false := by simpa using k6
  have f7 : (k == 7) = false := by simpa using k7
  simp [f1, f2, f3, f4, f5, f6, f7, k1, k2, k3, k5, k6, k7]
theorem p_implGo (n : Int) (go : List Int) (h : go.length ≤ 1000000000) : z1c.f go n = some (!go.all fun u => rg u 0 n) := by
  unfold z1c.f z1b.f
  have := find_loop go (by unfold big; omega) (fun u => !rg u 0 n) (z1b.l1 go n) (fun k i h => by
    rw [z1b.l1, if_pos (by rw [decide_eq_true_eq]; omega), rd?_at h]
    simp only [Option.bind_some, z1a.f, p_rgI]) (fun k i h => by
    rw [z1b.l1, if_neg (by rw [decide_eq_true_eq]; omega)]) (((go.length : Int) - 0).toNat + 2) (by omega)
  refine Eq.trans this ?_
  rw [List.all_eq_not_any_not, Bool.not_not]
theorem rg_ne {a lo hi b : Int} (h : rg b lo hi = true) (ha : a = b) : rg a lo hi = true := ha ▸ h
theorem p_implIn (n : Int) (x : In) (hn : 0 ≤ n) (hx : bgI x) : z1d.f x.1 x.2.1 x.2.2.1 x.2.2.2.1 x.2.2.2.2.1 x.2.2.2.2.2.1 x.2.2.2.2.2.2 n = some (okIn n x) := by
  obtain ⟨k, a, b, to, tx, cl, go⟩ := x
  obtain ⟨h1, h2, h3, h4⟩ := hx
  dsimp only at *
  unfold z1d.f okIn
  have hn0 : rg 0 0 n = true := by unfold rg; simp [hn]
  have hb0 : rg 0 (-1000) 1000 = true := by decide
  have aR : z0u.f tx 40 = some (decide ((tx.length : Int) ≤ 40) && tx.all okRune) := p_areRunes tx 40 (by unfold big; omega)
  have aC := p_implCls cl h2 h4
  have aG := p_implGo n go h3
  have w2 := (len2 cl go h2 h3).2
  have wt : decide ((tx.length : Int) > 0) = !decide (tx.length = 0) := by rw [Bool.eq_iff_iff]; simp only [decide_eq_true_eq, Bool.not_eq_true', decide_eq_false_iff_not]; omega
  have wg : ((go.length : Int) == (cl.length : Int)) = decide (go.length = cl.length) := by rw [Bool.eq_iff_iff]; simp only [beq_iff_eq, decide_eq_true_eq]; omega
  have eC : decide (cl.length + go.length = 0) = true → okCls cl = true ∧ (go.all fun u => rg u 0 n) = true ∧ decide (go.length = cl.length) = true := by
    intro h
    have h := of_decide_eq_true h
    have e1 : cl = [] := List.eq_nil_of_length_eq_zero (by omega)
    have e2 : go = [] := List.eq_nil_of_length_eq_zero (by omega)
    subst e1
    subst e2
    exact ⟨by decide, rfl, rfl⟩
  have eT : decide (tx.length = 0) = true → decide ((tx.length : Int) ≤ 40) = true ∧ tx.all okRune = true := by
    intro h
    have h := of_decide_eq_true h
    have e1 : tx = [] := List.eq_nil_of_length_eq_zero (by omega)
    subst e1
    decide
  have eA : a = 0 → rg a 0 1000 = true ∧ rg a 0 3 = true := by rintro rfl; decide
  simp only [p_rgI, aR, aC, aG, w2, wt, wg, Option.bind_some]
  generalize decide (cl.length + go.length = 0) = C at *
  generalize decide (tx.length = 0) = T at *
  generalize okCls cl = V at *
  generalize (go.all fun u => rg u 0 n) = G at *
  generalize decide (go.length = cl.length) = W at *
  generalize decide ((tx.length : Int) ≤ 40) = L at *
  generalize tx.all okRune = R at *
  by_cases k1 : k = 1
  · subst k1
    have e : z0p.f 1 = some (false, false, false, true, false) := rfl
    rw [e]
    have e2 : rg 1 1 7 = true := by decide
    simp only [Option.bind_some, e2]
    by_cases a0 : a = 0 <;> by_cases b0 : b = 0 <;> by_cases t0 : to = 0 <;> simp [a0, b0, t0, hn0, hb0]
    cases C
    · simp
    · obtain ⟨rfl, rfl, rfl⟩ := eC rfl
      cases L <;> cases R <;> simp
  by_cases k2 : k = 2
  · subst k2
    have e : z0p.f 2 = some (true, false, true, false, true) := rfl
    rw [e]
    have e2 : rg 2 1 7 = true := by decide
    simp only [Option.bind_some, e2]
    by_cases b0 : b = 0 <;> simp [b0, hb0]
    cases T
    · simp
    · obtain ⟨rfl, rfl⟩ := eT rfl
      cases rg a 0 1000 <;> cases rg to 0 n <;> cases V <;> cases W <;> cases G <;> simp
  by_cases k3 : k = 3 ∨ k = 4
  · have e : z0p.f k = some (true, true, false, false, false) := by rcases k3 with rfl | rfl <;> rfl
    have e2 : rg k 1 7 = true := by rcases k3 with rfl | rfl <;> decide
    have f2 : (k == 2) = false := by simpa using k2
    rw [e, if_neg k1, if_neg k2, if_pos k3]
    simp only [Option.bind_some, e2, f2]
    by_cases t0 : to = 0 <;> simp [t0, hn0]
    cases T
    · simp
    · cases C
      · simp
      · obtain ⟨rfl, rfl, rfl⟩ := eC rfl
        obtain ⟨rfl, rfl⟩ := eT rfl
        cases rg a 0 3 <;> cases rg b (-1000) 1000 <;> simp
  by_cases k5 : k = 5
  · subst k5
    have e : z0p.f 5 = some (true, true, true, false, false) := rfl
    rw [e]
    have e2 : rg 5 1 7 = true := by decide
    have f2 : ((5 : Int) == 2) = false := rfl
    simp only [Option.bind_some, e2, f2, Bool.false_eq_true, if_false]
    cases T
    · simp
    · cases C
      · simp
      · obtain ⟨rfl, rfl, rfl⟩ := eC rfl
        obtain ⟨rfl, rfl⟩ := eT rfl
        cases rg a 0 3 <;> cases rg b (-1000) 1000 <;> cases rg to 0 n <;> simp
  by_cases k6 : k = 6
  · subst k6
    have e : z0p.f 6 = some (false, false, true, false, false) := rfl
    rw [e]
    have e2 : rg 6 1 7 = true := by decide
    simp only [Option.bind_some, e2]
    by_cases a0 : a = 0 <;> by_cases b0 : b = 0 <;> simp [a0, b0, hb0]
    cases T
    · simp
    · cases C
      · simp
      · obtain ⟨rfl, rfl, rfl⟩ := eC rfl
        obtain ⟨rfl, rfl⟩ := eT rfl
        cases rg to 0 n <;> simp
  by_cases k7 : k = 7
  · subst k7
    have e : z0p.f 7 = some (false, false, false, false, false) := rfl
    rw [e]
    have e2 : rg 7 1 7 = true := by decide
    simp only [Option.bind_some, e2]
    by_cases a0 : a = 0 <;> by_cases b0 : b = 0 <;> by_cases t0 : to = 0 <;> simp [a0, b0, t0, hn0, hb0]
    cases T
    · simp
    · cases C
      · simp
      · obtain ⟨rfl, rfl, rfl⟩ := eC rfl
        obtain ⟨rfl, rfl⟩ := eT rfl
        simp
  have e2 : rg k 1 7 = false := by
    unfold rg
    rw [Bool.and_eq_false_iff]
    simp only [decide_eq_false_iff_not]
    omega
  have e : ∃ z, z0p.f k = some z := by
    have f1 : (k == 1) = false := by simpa using k1
    have f2 : (k == 2) = false := by simpa using k2
    have f3 : (k == 3) = false := by rw [beq_eq_false_iff_ne]; omega
    have f4 : (k == 4) = false := by rw [beq_eq_false_iff_ne]; omega
    have f5 : (k == 5) = false := by simpa using k5
    have f6 : (k == 6) = false := by simpa using k6
    unfold z0p.f
    rw [f1, f2, f3, f4, f5, f6]
    exact ⟨_, rfl⟩
  obtain ⟨z, e⟩ := e
  rw [e, if_neg k1, if_neg k2, if_neg k3, if_neg k5, if_neg k6, if_neg k7]
  simp only [Option.bind_some, e2]
  by_cases f2 : (k == 2) = true
  · rw [if_pos f2]; rfl
  · rw [if_neg f2]; rfl
theorem p_specProg (p : List In) (hp : p.length ≤ 1000000000) (hb : ∀ x ∈ p, bgI x) : zy.f p = some (p.all (okIn (p.length : Int)) && decide ((p.length : Int) ≤ 30)) := by
  unfold zy.f
  rw [allI_loop p (by unfold big; omega) (fun _ x => !okIn (p.length : Int) x) false (zy.l1 p) (fun k i h => ?_) (fun k i h => ?_) _ (by omega), anyI_any, List.all_eq_not_any_not]
  · cases p.any fun c => !okIn (p.length : Int) c <;> simp
  · rw [zy.l1, if_pos (by rw [decide_eq_true_eq]; omega), rd?_at h]
    simp only [Option.bind_some, p_specIn p p[i] hp (hb _ (List.getElem_mem h))]
  · rw [zy.l1, if_neg (by rw [decide_eq_true_eq]; omega)]
theorem p_implProg (p : List In) (hp : p.length ≤ 1000000000) (hb : ∀ x ∈ p, bgI x) : z1h.f p = some (p.all (okIn (p.length : Int)) && decide ((p.length : Int) ≤ 30)) := by
  unfold z1h.f z1g.f z1f.f
  by_cases h8 : (p.length : Int) ≤ 30
  · have := find_loop p (by unfold big; omega) (fun x => !okIn (p.length : Int) x) (z1f.l1 p p) (fun k i h => by
      rw [z1f.l1, if_pos (by rw [decide_eq_true_eq]; omega), rd?_at h]
      simp only [Option.bind_some, z1e.f, p_implIn (p.length : Int) p[i] (by omega) (hb _ (List.getElem_mem h))]) (fun k i h => by
      rw [z1f.l1, if_neg (by rw [decide_eq_true_eq]; omega)]) (((p.length : Int) - 0).toNat + 2) (by omega)
    rw [if_pos (by simpa using h8)]
    refine bindO this ?_
    rw [List.all_eq_not_any_not]
    simp [h8]
  · rw [if_neg (by simpa using h8)]
    simp [h8]
/-- The bytes of a rune. -/
def u8s (r : Int) : List Int := if r < 128 then [r] else if r < 2048 then [192 + r / 64, 128 + r % 64] else if r < 65536 then [224 + r / 4096, 128 + r / 64 % 64, 128 + r % 64] else [240 + r / 262144, 128 + r / 4096 % 64, 128 + r / 64 % 64, 128 + r % 64]
theorem u8s_len (r : Int) : (u8s r).length ≤ 4 := by
  unfold u8s
  split
  · simp
  · split
    · simp
    · split <;> simp
theorem bytes_text : ∀ (xs : List Int), (∀ u ∈ xs, 0 ≤ u ∧ u < 256) → yo (textB xs) = xs := by
  have key : ∀ (xs : List Int) (s : ByteArray), (∀ u ∈ xs, 0 ≤ u ∧ u < 256) → yo (xs.foldl (fun s n => s.push (UInt8.ofNat n.toNat)) s) = yo s ++ xs := by
    intro xs
    induction xs with
    | nil => intro s _; simp
    | cons x xs ih =>
      intro s h
      obtain ⟨h0, h1⟩ := h x (by simp)
      rw [List.foldl_cons, ih _ fun v hv => h v (List.mem_cons_of_mem _ hv)]
      have e : yo (s.push (UInt8.ofNat x.toNat)) = yo s ++ [x] := by
        unfold yo
        simp [ByteArray.push]
        omega
      rw [e, List.append_assoc]
      rfl
  intro xs h
  unfold textB
  rw [key xs _ h]
  rfl
theorem quo_pos {r n : Int} (h0 : 0 ≤ r) (h1 : r ≤ 2000000) (hn : 1 ≤ n) (hn2 : n ≤ 1000000) : quo? .i64 r n = some (r / n) := by
  unfold quo?
  have h2 : r / n ≤ r := Int.ediv_le_self _ h0
  have h3 : 0 ≤ r / n := Int.ediv_nonneg h0 (by omega)
  rw [if_neg (by omega), Int.tdiv_eq_ediv_of_nonneg h0, wrapS (by omega) (by omega)]
theorem rem_pos {r n : Int} (h0 : 0 ≤ r) (hn : 1 ≤ n) : rem? r n = some (r % n) := by
  unfold rem?
  rw [if_neg (by omega), Int.tmod_eq_emod_of_nonneg h0]
theorem w8 {n : Int} (h0 : 0 ≤ n) (h1 : n ≤ 255) : IntKind.u8.wrap n = n := by rw [IntKind.wrap_u8]; omega
theorem u8s_in {r : Int} (h0 : 0 ≤ r) (h1 : r ≤ 1114111) : ∀ u ∈ u8s r, 0 ≤ u ∧ u < 256 := by
  unfold u8s
  intro u hu
  split at hu
  · simp at hu; omega
  · split at hu
    · simp at hu; omega
    · split at hu
      · simp at hu; omega
      · simp at hu; omega
theorem p_l1Utf8 (r : Int) (h0 : 0 ≤ r) (h1 : r ≤ 1114111) : z03.f r = some (textB (u8s r)) := by
  unfold z03.f u8s
  simp only [quo_pos (r := r) h0 (by omega) (show (1 : Int) ≤ 64 by omega) (by omega), quo_pos (r := r) h0 (by omega) (show (1 : Int) ≤ 4096 by omega) (by omega), quo_pos (r := r) h0 (by omega) (show (1 : Int) ≤ 262144 by omega) (by omega), rem_pos (r := r) h0 (show (1 : Int) ≤ 64 by omega), rem_pos (r := r / 64) (n := 64) (by omega) (by omega), rem_pos (r := r / 4096) (n := 64) (by omega) (by omega), Option.bind_some]
  by_cases c1 : r < 128
  · rw [if_pos (by simpa using c1), if_pos c1, w8 (by omega) (by omega)]
  · rw [if_neg (by simpa using c1), if_neg c1]
    by_cases c2 : r < 2048
    · rw [if_pos (by simpa using c2), if_pos c2, wrapS (n := 192 + r / 64) (by omega) (by omega), wrapS (n := 128 + r % 64) (by omega) (by omega), w8 (n := 192 + r / 64) (by omega) (by omega), w8 (n := 128 + r % 64) (by omega) (by omega)]
    · rw [if_neg (by simpa using c2), if_neg c2]
      by_cases c3 : r < 65536
      · rw [if_pos (by simpa using c3), if_pos c3, wrapS (n := 224 + r / 4096) (by omega) (by omega), wrapS (n := 128 + r / 64 % 64) (by omega) (by omega), wrapS (n := 128 + r % 64) (by omega) (by omega), w8 (n := 224 + r / 4096) (by omega) (by omega), w8 (n := 128 + r / 64 % 64) (by omega) (by omega), w8 (n := 128 + r % 64) (by omega) (by omega)]
      · rw [if_neg (by simpa using c3), if_neg c3, wrapS (n := 240 + r / 262144) (by omega) (by omega), wrapS (n := 128 + r / 4096 % 64) (by omega) (by omega), wrapS (n := 128 + r / 64 % 64) (by omega) (by omega), wrapS (n := 128 + r % 64) (by omega) (by omega), w8 (n := 240 + r / 262144) (by omega) (by omega), w8 (n := 128 + r / 4096 % 64) (by omega) (by omega), w8 (n := 128 + r / 64 % 64) (by omega) (by omega), w8 (n := 128 + r % 64) (by omega) (by omega)]
theorem b_and63 (n : Int) (h0 : 0 ≤ n) (h1 : n < 256) : bits .and .u8 n 63 = n % 64 := by
  obtain ⟨k, rfl⟩ := Int.eq_ofNat_of_zero_le h0
  have : ∀ k : Nat, k < 256 → bits .and .u8 (k : Int) 63 = (k : Int) % 64 := by decide +kernel
  exact this k (by omega)
theorem b_or128 (n : Int) (h0 : 0 ≤ n) (h1 : n < 64) : bits .or .u8 128 n = 128 + n := by
  obtain ⟨k, rfl⟩ := Int.eq_ofNat_of_zero_le h0
  have : ∀ k : Nat, k < 64 → bits .or .u8 128 (k : Int) = 128 + (k : Int) := by decide +kernel
  exact this k (by omega)
theorem b_or192 (n : Int) (h0 : 0 ≤ n) (h1 : n < 32) : bits .or .u8 192 n = 192 + n := by
  obtain ⟨k, rfl⟩ := Int.eq_ofNat_of_zero_le h0
  have : ∀ k : Nat, k < 32 → bits .or .u8 192 (k : Int) = 192 + (k : Int) := by decide +kernel
  exact this k (by omega)
theorem b_or224 (n : Int) (h0 : 0 ≤ n) (h1 : n < 16) : bits .or .u8 224 n = 224 + n := by
  obtain ⟨k, rfl⟩ := Int.eq_ofNat_of_zero_le h0
  have : ∀ k : Nat, k < 16 → bits .or .u8 224 (k : Int) = 224 + (k : Int) := by decide +kernel
  exact this k (by omega)
theorem b_or240 (n : Int) (h0 : 0 ≤ n) (h1 : n < 8) : bits .or .u8 240 n = 240 + n := by
  obtain ⟨k, rfl⟩ := Int.eq_ofNat_of_zero_le h0
  have : ∀ k : Nat, k < 8 → bits .or .u8 240 (k : Int) = 240 + (k : Int) := by decide +kernel
  exact this k (by omega)
theorem b_cont (q : Int) : bits .or .u8 128 (bits .and .u8 (IntKind.u8.wrap q) 63) = 128 + q % 64 := by
  have e : IntKind.u8.wrap q = q % 256 := by rw [IntKind.wrap_u8]
  rw [e, b_and63 _ (by omega) (by omega), b_or128 _ (by omega) (by omega)]
  omega
theorem shr32 (r : Int) (k : Nat) (hk : k ≤ 20) : shrK? .i32 r (k : Int) = some (r / 2 ^ k) := by
  unfold shrK?
  have e : min ((k : Int)).toNat IntKind.i32.bits = k := by
    have : IntKind.i32.bits = 32 := rfl
    rw [this]
    omega
  rw [if_pos (by omega), e, Int.fdiv_eq_ediv_of_nonneg _ (by exact Int.pow_nonneg (by omega))]
theorem baT (b : ByteArray) : b.toList = b.data.toList := by
  have key : ∀ (k i : Nat) (r : List UInt8), b.size - i ≤ k → ByteArray.toList.loop b i r = r.reverse ++ b.data.toList.drop i := by
    intro k
    induction k with
    | zero =>
      intro i r h
      rw [ByteArray.toList.loop]
      rw [if_neg (by omega)]
      rw [List.drop_of_length_le (by simp; have : b.data.size = b.size := rfl; omega)]
      simp
    | succ k ih =>
      intro i r h
      rw [ByteArray.toList.loop]
      by_cases hi : i < b.size
      · rw [if_pos hi, ih (i+1) _ (by omega)]
        have hs : i < b.data.toList.length := by simpa using hi
        rw [List.drop_eq_getElem_cons hs]
        have e : b.get! i = b.data.toList[i] := by
          have h2 : i < b.data.size := hi
          show b.data[i]! = _
          rw [getElem!_pos b.data i h2]
          simp
        simp [e]
      · rw [if_neg hi, List.drop_of_length_le (by simp; have : b.data.size = b.size := rfl; omega)]
        simp
  have := key b.size 0 [] (by omega)
  simpa [ByteArray.toList] using this
theorem baInj {a b : ByteArray} : (a.toList == b.toList) = decide (a = b) := by
  rw [baT, baT, Bool.eq_iff_iff]
  simp only [beq_iff_eq, decide_eq_true_eq]
  constructor
  · intro h
    obtain ⟨⟨x⟩⟩ := a
    obtain ⟨⟨y⟩⟩ := b
    simp at h
    rw [h]
  · rintro rfl; rfl
theorem rdS_at (S : ByteArray) (i : Nat) : rdS? S (i : Int) = (yo S)[i]? := by
  unfold rdS? yo
  rw [if_pos (by omega), List.getElem?_map, Array.getElem?_toList]
  rfl
theorem bytesB_inj {a b : ByteArray} (h : yo a = yo b) : a = b := by
  obtain ⟨⟨x⟩⟩ := a
  obtain ⟨⟨y⟩⟩ := b
  unfold yo at h
  have h2 : x = y := by
    have key : ∀ x y : List UInt8, x.map (fun b : UInt8 => (b.toNat : Int)) = y.map (fun b : UInt8 => (b.toNat : Int)) → x = y := by
      intro x
      induction x with
      | nil => intro y h; cases y with
        | nil => rfl
        | cons _ _ => cases h
      | cons u x ih =>
        intro y h
        cases y with
        | nil => cases h
        | cons v y =>
          simp only [List.map_cons, List.cons.injEq] at h
          have : u = v := UInt8.toNat_inj.1 (by omega)
          rw [this, ih y h.2]
    exact key x y h
  rw [h2]
theorem strB (a b : ByteArray) : (a.toList == b.toList) = decide (yo a = yo b) := by
  rw [baInj, Bool.eq_iff_iff]
  simp only [decide_eq_true_eq]
  exact ⟨fun h => by rw [h], bytesB_inj⟩
theorem bytes_rng (S : ByteArray) : ∀ u ∈ yo S, 0 ≤ u ∧ u < 256 := by
  unfold yo
  intro u hu
  obtain ⟨b, _, rfl⟩ := List.mem_map.1 hu
  have := b.toNat_lt
  omega
theorem bytes_nil : yo (⟨#[]⟩ : ByteArray) = [] := rfl
theorem size_bytes (S : ByteArray) : S.size = (yo S).length := (bytesB_len S).symm
theorem cutS_at (S : ByteArray) {a b : Nat} (h1 : a ≤ b) (h2 : b ≤ S.size) : ∃ T, cutS? S (a : Int) (b : Int) = some T ∧ yo T = ((yo S).take b).drop a := by
  unfold cutS?
  rw [if_pos ⟨by omega, by omega, by omega⟩]
  refine ⟨_, rfl, ?_⟩
  unfold yo
  simp [ByteArray.data_extract, List.extract_eq_take_drop, List.map_drop, List.map_take, List.drop_take]
theorem cat_at {n : Nat} {a b : ByteArray} (h : a.size + b.size ≤ n) : ∃ c, cat? n a b = some c ∧ yo c = yo a ++ yo b := by
  unfold cat?
  rw [if_pos h]
  refine ⟨_, rfl, ?_⟩
  unfold yo
  simp
abbrev Ch := Int × ByteArray × Bool
/-- Whether chunks come in order, from a tick on. -/
def pk : Int → List Ch → Bool
  | _, [] => true
  | t, c :: cs => (decide (t ≤ c.1) && decide (c.1 ≤ 10000)) && decide ((c.2.1.size : Int) ≤ 1000) && !(c.2.2 && (!decide (yo c.2.1 = []) || !cs.isEmpty)) && pk c.1 cs
theorem beqE (S : ByteArray) : (S.toList == (⟨#[]⟩ : ByteArray).toList) = decide (yo S = []) := strB S _
theorem emp (p : List Ch) (i : Nat) (h : i < p.length) (hp : p.length ≤ 1000000000) : decide ((i : Int) < IntKind.i64.wrap ((p.length : Int) - 1)) = !(p.drop (i + 1)).isEmpty := by
  rw [wrapS (by omega) (by omega), Bool.eq_iff_iff]
  simp only [decide_eq_true_eq, Bool.not_eq_true', List.isEmpty_eq_false_iff, Ne, List.drop_eq_nil_iff]
  omega
theorem p_implPeer (p : List Ch) (hp : p.length ≤ 1000000000) : z1i.f p = some (pk 0 p && decide ((p.length : Int) ≤ 20)) := by
  unfold z1i.f
  have key : ∀ (k i : Nat) (t : Int), i ≤ p.length → p.length - i < k → z1i.l1 p k t i = some (if pk t (p.drop i) = true then .go () else .ret false) := by
    intro k
    induction k with
    | zero => intro i t _ h; omega
    | succ k ih =>
      intro i t hi hk
      rw [z1i.l1]
      by_cases h : i < p.length
      · rw [if_pos (by rw [decide_eq_true_eq]; omega), rd?_at h, List.drop_eq_getElem_cons h, pk]
        have hE := emp p i h hp
        generalize hc : p[i] = c at *
        simp only [Option.bind_some, p_inRange, beqE, hE]
        have e1 : decide ((c.2.1.size : Int) > 1000) = !decide ((c.2.1.size : Int) ≤ 1000) := by rw [Bool.eq_iff_iff]; simp only [decide_eq_true_eq, Bool.not_eq_true', decide_eq_false_iff_not]; omega
        rw [e1, wrapN i (by omega), ih (i + 1) c.1 h (by omega)]
        cases (decide (t ≤ c.1) && decide (c.1 ≤ 10000)) <;> cases decide ((c.2.1.size : Int) ≤ 1000) <;> cases c.2.2 <;> cases decide (yo c.2.1 = []) <;> cases (p.drop (i + 1)).isEmpty <;> simp
      · rw [if_neg (by rw [decide_eq_true_eq]; omega), List.drop_eq_nil_of_le (by omega), pk]
        rfl
  have := key (((p.length : Int) - 0).toNat + 2) 0 0 (by omega) (by omega)
  rw [show ((0 : Nat) : Int) = 0 from rfl, List.drop_zero] at this
  rw [this]
  cases pk 0 p <;> simp
theorem p_specPeer (p : List Ch) (hp : p.length ≤ 1000000000) : z00.f p = some (pk 0 p && decide ((p.length : Int) ≤ 20)) := by
  unfold z00.f
  have key : ∀ (k i : Nat) (t : Int), i ≤ p.length → p.length - i < k → 0 ≤ t → (∀ (h0 : 0 < i) (h : i - 1 < p.length), t = p[i - 1].1) → (i = 0 → t = 0) → z00.l1 p k i = some (if pk t (p.drop i) = true then .go () else .ret false) := by
    intro k
    induction k with
    | zero => intro i t _ h; omega
    | succ k ih =>
      intro i t hi hk ht hprev h0
      rw [z00.l1]
      by_cases h : i < p.length
      · rw [if_pos (by rw [decide_eq_true_eq]; omega), rd?_at h, List.drop_eq_getElem_cons h, pk]
        have hE := emp p i h hp
        have hnx : 0 ≤ p[i].1 → z00.l1 p k ((i + 1 : Nat) : Int) = some (if pk p[i].1 (p.drop (i + 1)) = true then .go () else .ret false) := fun hc =>
          ih (i + 1) p[i].1 h (by omega) hc (fun _ _ => by simp) (fun h => by omega)
        generalize hc : p[i] = c at *
        have hpv : (if decide ((i : Int) > 0) = true then (rd? p (IntKind.i64.wrap ((i : Int) - 1))).bind fun u616 => some (decide (u616.1 > c.1)) else some false) = some (decide (0 < i) && decide (t > c.1)) := by
          by_cases hi0 : 0 < i
          · have e := hprev hi0 (by omega)
            rw [if_pos (by rw [decide_eq_true_eq]; omega), wrapS (by omega) (by omega), show ((i : Int) - 1) = ((i - 1 : Nat) : Int) by omega, rd?_at (show i - 1 < p.length by omega), e]
            simp [hi0]
          · rw [if_neg (by rw [decide_eq_true_eq]; omega)]
            simp [hi0]
        simp only [Option.bind_some, p_l1In, beqE, hE, zz.f, hpv]
        rw [wrapN i (by omega)]
        by_cases g1 : t ≤ c.1
        · have g2 : 0 ≤ c.1 := by omega
          have g3 : ¬ t > c.1 := by omega
          rw [hnx g2]
          simp only [g1, g2, g3, decide_true, decide_false, Bool.true_and, Bool.and_false]
          cases decide (c.1 ≤ 10000) <;> cases decide ((c.2.1.size : Int) ≤ 1000) <;> cases c.2.2 <;> cases decide (yo c.2.1 = []) <;> cases (p.drop (i + 1)).isEmpty <;> simp
        · simp only [g1, decide_false, Bool.false_and, Bool.false_eq_true, if_false]
          by_cases g2 : 0 ≤ c.1
          · have g4 : 0 < i := by
              rcases Nat.eq_zero_or_pos i with hz | hz
              · have := h0 hz; omega
              · exact hz
            have g3 : t > c.1 := by omega
            simp only [g2, g3, g4, decide_true, Bool.true_and]
            cases decide (c.1 ≤ 10000) <;> cases decide ((c.2.1.size : Int) ≤ 1000) <;> simp
          · simp [g2]
      · rw [if_neg (by rw [decide_eq_true_eq]; omega), List.drop_eq_nil_of_le (by omega), pk]
        rfl
  have := key (((p.length : Int) - 0).toNat + 2) 0 0 (by omega) (by omega) (Int.le_refl _) (fun h => absurd h (Nat.lt_irrefl 0)) (fun _ => rfl)
  rw [show ((0 : Nat) : Int) = 0 from rfl, List.drop_zero] at this
  rw [this]
  cases pk 0 p <;> simp
/-- How many bytes a rune has that begins with a byte, as Go's table tells it; the bounds of the second. -/
def u8n (a : Int) : Int := if 194 ≤ a ∧ a ≤ 223 then 2 else if 224 ≤ a ∧ a ≤ 239 then 3 else if 240 ≤ a ∧ a ≤ 244 then 4 else if a < 128 then 0 else 1
def u8lo (a : Int) : Int := if a = 224 then 160 else if a = 240 then 144 else 128
def u8hi (a : Int) : Int := if a = 237 then 159 else if a = 244 then 143 else 191
def cont (a : Int) : Prop := 128 ≤ a ∧ a ≤ 191
def sndOk (a b : Int) : Prop := u8lo a ≤ b ∧ b ≤ u8hi a
instance (a : Int) : Decidable (cont a) := by unfold cont; infer_instance
instance (a b : Int) : Decidable (sndOk a b) := by unfold sndOk; infer_instance
def tabChk (a : Nat) : Bool := match rd? u8First (a : Int) with
  | some v => decide (IntKind.i64.wrap (bits .and .u8 v 7) = u8n a) && (decide (u8n a < 2) || (match shrK? .u8 v 4 with
    | some k => decide (rd? u8Accept k = some (u8lo a, u8hi a))
    | none => false))
  | none => false
theorem tabAll : ∀ a : Nat, a < 256 → tabChk a = true := by decide +kernel
theorem tab_of {a : Int} (h0 : 0 ≤ a) (h1 : a < 256) : ∃ v, rd? u8First a = some v ∧ IntKind.i64.wrap (bits .and .u8 v 7) = u8n a ∧ (2 ≤ u8n a → ∃ k, shrK? .u8 v 4 = some k ∧ rd? u8Accept k = some (u8lo a, u8hi a)) := by
  obtain ⟨n, rfl⟩ := Int.eq_ofNat_of_zero_le h0
  have := tabAll n (by omega)
  unfold tabChk at this
  cases hv : rd? u8First (n : Int) with
  | none => rw [hv] at this; cases this
  | some v =>
    rw [hv] at this
    simp only [Bool.and_eq_true, Bool.or_eq_true, decide_eq_true_eq] at this
    refine ⟨v, rfl, this.1, fun h2 => ?_⟩
    rcases this.2 with h | h
    · omega
    · cases hk : shrK? .u8 v 4 with
      | none => rw [hk] at h; cases h
      | some k =>
        rw [hk] at h
        exact ⟨k, rfl, by simpa using h⟩
/-- A rune that has begun, and has not ended. -/
def begB : List Int → Bool
  | [a] => decide (2 ≤ u8n a)
  | [a, b] => decide (3 ≤ u8n a) && decide (sndOk a b)
  | [a, b, c] => decide (4 ≤ u8n a) && (decide (sndOk a b) && decide (cont c))
  | _ => false
theorem u8n_le (a : Int) : u8n a ≤ 4 := by unfold u8n; repeat' split <;> omega
/-- The rune at the front, and how many bytes it has. -/
def dec (M : List Int) : Int × Int :=
  let a := M.getD 0 0; let b := M.getD 1 0; let c := M.getD 2 0; let d := M.getD 3 0
  if a < 128 then (a, 1)
  else if u8n a = 2 ∧ sndOk a b then ((a - 192) * 64 + (b - 128), 2)
  else if u8n a = 3 ∧ sndOk a b ∧ cont c then ((a - 224) * 4096 + (b - 128) * 64 + (c - 128), 3)
  else if u8n a = 4 ∧ sndOk a b ∧ cont c ∧ cont d then ((a - 240) * 262144 + (b - 128) * 4096 + (c - 128) * 64 + (d - 128), 4)
  else (65533, 1)
def l1L (a : Int) : Int := if a < 128 then 1 else if a < 192 then 0 else if a < 224 then 2 else if a < 240 then 3 else if a < 248 then 4 else 0
theorem p_l1Long (a : Int) : z02.f a = some (l1L a) := by
  unfold z02.f l1L
  repeat' split
  all_goals first | rfl | (simp at *; omega)
theorem u8s_eq {a b c d x : Int} : (u8s x = [a, b] → x < 128 ∨ 128 ≤ x) := fun _ => by omega
theorem l1At_fin (S : ByteArray) (p m : Nat) (x : Int) (hm : p + m ≤ S.size) (hm2 : 2 ≤ m) (hx0 : 0 ≤ x) (hx1 : x ≤ 2097151) (hS : S.size ≤ 4000000000) :
    (((zn.f x).bind fun u108 => if (!u108) = true then (some true) else ((cutS? S p ((p : Int) + (m : Int))).bind fun u110 => (z03.f x).bind fun u111 => some (!(u111.toList == u110.toList)))).bind fun (o : Bool) => (if o = true then (some ((65533 : Int), (1 : Int))) else (some (x, (m : Int))))) = some (if okRune x = true ∧ u8s x = ((yo S).drop p).take m then (x, (m : Int)) else (65533, 1)) := by
  rw [p_specRune]
  simp only [Option.bind_some]
  cases hg : okRune x with
  | false => simp
  | true =>
    have hx2 : x ≤ 1114111 := by
      simp only [okRune, Bool.and_eq_true, decide_eq_true_eq] at hg
      omega
    simp only [Bool.not_true, Bool.false_eq_true, if_false]
    rw [show (p : Int) + (m : Int) = ((p + m : Nat) : Int) by omega]
    obtain ⟨T, t1, t2⟩ := cutS_at S (a := p) (b := p + m) (by omega) hm
    rw [t1]
    simp only [Option.bind_some]
    rw [p_l1Utf8 x hx0 hx2]
    simp only [Option.bind_some]
    rw [strB, t2, bytes_text _ (u8s_in hx0 hx2)]
    have e : List.drop p (List.take (p + m) (yo S)) = ((yo S).drop p).take m := by
      rw [List.drop_take]
      congr 1
      omega
    rw [e]
    by_cases h : u8s x = ((yo S).drop p).take m
    · simp [h]
    · simp [h]
theorem l1At_step (S : ByteArray) (p m : Nat) (hS : S.size ≤ 4000000000) (j : Nat) (hj : j < m) (hm4 : m ≤ 4) (hpm : p + m ≤ S.size) (b : Int) (hb : ((yo S).drop p)[j]? = some b) (x : Int) (hx0 : 0 ≤ x) (hx1 : x ≤ 40000) (k : Nat) : z04.l1 S p m (k + 1) x j = z04.l1 S p m k (x * 64 + b % 64) ((j + 1 : Nat) : Int) := by
  have hbr := bytes_rng S b (List.mem_of_mem_drop (List.mem_of_getElem? hb))
  rw [z04.l1, if_pos (by rw [decide_eq_true_eq]; omega), wrapS (n := (p : Int) + j) (by omega) (by omega), show (p : Int) + (j : Int) = ((p + j : Nat) : Int) by omega, rdS_at]
  rw [List.getElem?_drop] at hb
  rw [hb]
  simp only [Option.bind_some]
  rw [wrapS (n := b) (by omega) (by omega), rem_pos (by omega) (by omega)]
  simp only [Option.bind_some]
  rw [wrapS (n := x * 64) (by omega) (by omega), wrapS (n := x * 64 + b % 64) (by omega) (by omega), wrapN j (by omega)]
theorem l1At_end (S : ByteArray) (p m : Nat) (x : Int) (k : Nat) : z04.l1 S p m (k + 1) x m = some x := by
  rw [z04.l1, if_neg (by simp)]
theorem p_l1At (S : ByteArray) (p : Nat) (hp : p < S.size) (hS : S.size ≤ 4000000000) : z04.f S p = some (dec ((yo S).drop p)) := by
  unfold z04.f
  have hL := size_bytes S
  have hr := bytes_rng S
  have hpl : p < (yo S).length := by omega
  have ha := List.drop_eq_getElem_cons hpl
  generalize hav : (yo S)[p] = a at ha
  have har : 0 ≤ a ∧ a < 256 := by rw [← hav]; exact hr _ (List.getElem_mem hpl)
  have h0 : rdS? S (p : Int) = some a := by rw [rdS_at, List.getElem?_eq_getElem hpl, hav]
  simp only [h0, Option.bind_some, p_l1Long]
  generalize hM : (yo S).drop (p + 1) = R at ha
  have hlen : R.length = S.size - (p + 1) := by rw [← hM, List.length_drop, ← hL]
  have hRr : ∀ u ∈ R, 0 ≤ u ∧ u < 256 := fun u hu => hr u (List.mem_of_mem_drop (by rw [hM]; exact hu))
  rw [wrapS (n := (p : Int) + l1L a) (by unfold l1L; repeat' split <;> omega) (by unfold l1L; repeat' split <;> omega)]
  by_cases c1 : a < 128
  · -- one byte
    have e1 : l1L a = 1 := by unfold l1L; rw [if_pos c1]
    rw [e1, ha]
    have d1 : decide ((p : Int) + 1 > (S.size : Int)) = false := by rw [decide_eq_false_iff_not]; omega
    have e2 : dec (a :: R) = (a, 1) := by unfold dec; simp [c1]
    rw [e2]
    have g := p_specRune a
    have hg : okRune a = true := by simp only [okRune, Bool.and_eq_true, decide_eq_true_eq, Bool.not_eq_true', Bool.and_eq_false_iff, decide_eq_false_iff_not]; omega
    obtain ⟨T, t1, t2⟩ := cutS_at S (a := p) (b := p + 1) (by omega) (by omega)
    rw [show ((p + 1 : Nat) : Int) = (p : Int) + 1 by omega] at t1
    have t3 : yo T = [a] := by
      rw [t2, List.drop_take, ha]
      simp
    have u1 : u8s a = [a] := by unfold u8s; rw [if_pos c1]
    simp [d1, z04.l1, g, hg, t1, p_l1Utf8 a (by omega) (by omega), strB, t3, u1, bytes_text [a] (by simp; omega), wrapS (n := a) (by omega) (by omega)]
  by_cases c0 : l1L a = 0
  · rw [c0, ha]
    have e2 : dec (a :: R) = (65533, 1) := by
      have : u8n a = 1 := by unfold l1L at c0; unfold u8n; repeat' split at c0 <;> first | omega | (repeat' split <;> omega)
      unfold dec
      simp [c1, this]
    rw [e2]
    simp
  -- more bytes
  obtain ⟨m, hm⟩ : ∃ m : Nat, l1L a = m := ⟨(l1L a).toNat, by unfold l1L at *; repeat' split <;> omega⟩
  have hm2 : 2 ≤ m ∧ m ≤ 4 := by unfold l1L at *; repeat' split at hm <;> omega
  have hne : ((l1L a) == 0) = false := by simpa using c0
  simp only [hne, Bool.false_eq_true, if_false, Option.bind_some]
  rw [hm]
  by_cases hpm : p + m ≤ S.size
  case neg =>
    have d1 : decide ((p : Int) + m > (S.size : Int)) = true := by rw [decide_eq_true_eq]; omega
    simp only [d1, if_true]
    rw [ha]
    congr 1
    symm
    unfold dec
    have hl1 : R.length < m - 1 := by omega
    have g0 : (a :: R).getD 0 0 = a := rfl
    have g1 : (a :: R).getD 1 0 = R.getD 0 0 := rfl
    have g2 : (a :: R).getD 2 0 = R.getD 1 0 := rfl
    have g3 : (a :: R).getD 3 0 = R.getD 2 0 := rfl
    simp only [g0, g1, g2, g3, c1, if_false]
    have z : ∀ i, R.length ≤ i → R.getD i 0 = 0 := fun i hi => by simp [List.getD, List.getElem?_eq_none hi]
    have s0 : ∀ b, b = 0 → ¬ sndOk a b := fun b hb h => by unfold sndOk u8lo at h; repeat' split at h <;> omega
    have s1 : ∀ b, b = 0 → ¬ cont b := fun b hb h => by unfold cont at h; omega
    have hl1L : l1L a = m := hm
    rcases (show m = 2 ∨ m = 3 ∨ m = 4 by omega) with rfl | rfl | rfl
    · have := s0 _ (z 0 (by omega))
      simp only [this, and_false, false_and, if_false]
    · have := s1 _ (z 1 (by omega))
      have h2 : u8n a ≠ 2 := by unfold l1L at hl1L; unfold u8n; repeat' split at hl1L <;> first | omega | (repeat' split <;> omega)
      simp only [this, h2, and_false, false_and, if_false]
    · have := s1 _ (z 2 (by omega))
      have h2 : u8n a ≠ 2 ∧ u8n a ≠ 3 := by unfold l1L at hl1L; unfold u8n; repeat' split at hl1L <;> first | omega | (repeat' split <;> omega)
      simp only [this, h2.1, h2.2, and_false, false_and, if_false]
  have d1 : decide ((p : Int) + m > (S.size : Int)) = false := by rw [decide_eq_false_iff_not]; omega
  have d2 : decide ((m : Int) > 1) = true := by rw [decide_eq_true_eq]; omega
  simp only [d1, d2, Bool.false_eq_true, if_false, if_true]
  rw [wrapS (n := a) (by omega) (by omega)]
  have hsh : ∃ q, shlK? .i64 1 (IntKind.u64.wrap (IntKind.i64.wrap (7 - (m : Int)))) = some q ∧ q = 2 ^ (7 - m) := by
    rcases (show m = 2 ∨ m = 3 ∨ m = 4 by omega) with rfl | rfl | rfl 
    · exact ⟨32, by decide +kernel, by decide⟩
    · exact ⟨16, by decide +kernel, by decide⟩
    · exact ⟨8, by decide +kernel, by decide⟩
  obtain ⟨q, q1, q2⟩ := hsh
  rw [q1]
  simp only [Option.bind_some]
  have hq : 1 ≤ q := by rcases (show m = 2 ∨ m = 3 ∨ m = 4 by omega) with rfl | rfl | rfl <;> rw [q2] <;> decide
  rw [rem_pos (by omega) hq]
  simp only [Option.bind_some]
  have hMl : (a :: R).length = S.size - p := by simp; omega
  rcases (show m = 2 ∨ m = 3 ∨ m = 4 by omega) with rfl | rfl | rfl
  · have q3 : q = 32 := by rw [q2]; decide
    subst q3
    match hR : R, hlen with
    | [], hl => simp at hl; omega
    | b :: R', hl =>
      have hb := hRr b (by simp)
      have la : 192 ≤ a ∧ a < 224 := by unfold l1L at hm; repeat' split at hm <;> omega
      have st := l1At_step S p 2 hS 1 (by omega) (by omega) hpm b (by rw [ha]; rfl) (a % 32) (by omega) (by omega) 2
      rw [show (((2 : Nat) : Int) - 1).toNat + 2 = 3 from rfl]
      rw [show ((1 : Nat) : Int) = 1 from rfl] at st
      rw [st]
      rw [show ((1 + 1 : Nat) : Int) = ((2 : Nat) : Int) from rfl, l1At_end]
      simp only [Option.bind_some]
      have fin := l1At_fin S p 2 (a % 32 * 64 + b % 64) hpm (by omega) (by omega) (by omega) hS
      rw [fin, ha]
      congr 1
      have hu : (okRune (a % 32 * 64 + b % 64) = true ∧ u8s (a % 32 * 64 + b % 64) = [a, b]) ↔ (194 ≤ a ∧ cont b) := by
        unfold cont okRune u8s
        simp only [Bool.and_eq_true, decide_eq_true_eq, Bool.not_eq_true', Bool.and_eq_false_iff, decide_eq_false_iff_not]
        constructor
        · rintro ⟨_, h⟩
          split at h
          · simp at h
          · split at h
            · simp only [List.cons.injEq, and_true] at h; omega
            · split at h <;> simp at h
        · rintro ⟨h1, h2⟩
          refine ⟨by omega, ?_⟩
          rw [if_neg (by omega), if_pos (by omega)]
          simp only [List.cons.injEq, and_true]
          omega
      have e3 : List.take 2 (a :: b :: R') = [a, b] := rfl
      rw [e3]
      unfold dec
      have g0 : (a :: b :: R').getD 0 0 = a := rfl
      have g1 : (a :: b :: R').getD 1 0 = b := rfl
      simp only [g0, g1, c1, if_false]
      have hs : (u8n a = 2 ∧ sndOk a b) ↔ (194 ≤ a ∧ cont b) := by
        have : u8lo a = 128 ∧ u8hi a = 191 := by unfold u8lo u8hi; constructor <;> repeat' split <;> omega
        unfold sndOk cont
        rw [this.1, this.2]
        unfold u8n
        constructor
        · rintro ⟨h, h2⟩
          repeat' split at h <;> first | omega | exact ⟨by omega, h2⟩
        · rintro ⟨h, h2⟩
          rw [if_pos (by omega)]
          exact ⟨rfl, h2⟩
      by_cases h : 194 ≤ a ∧ cont b
      · rw [if_pos (hu.2 h), if_pos (hs.2 h)]
        unfold cont at h
        congr 1
        omega
      · rw [if_neg (fun h' => h (hu.1 h')), if_neg (fun h' => h (hs.1 h'))]
        have n3 : u8n a ≠ 3 ∧ u8n a ≠ 4 := by unfold u8n; repeat' split <;> omega
        simp [n3]
  · have q3 : q = 16 := by rw [q2]; decide
    subst q3
    match hR : R, hlen with
    | [], hl => simp at hl; omega
    | [b], hl => simp at hl; omega
    | b :: c :: R', hl =>
      have hb := hRr b (by simp)
      have hc := hRr c (by simp)
      have la : 224 ≤ a ∧ a < 240 := by unfold l1L at hm; repeat' split at hm <;> omega
      have st := l1At_step S p 3 hS 1 (by omega) (by omega) hpm b (by rw [ha]; rfl) (a % 16) (by omega) (by omega) 3
      have st2 := l1At_step S p 3 hS 2 (by omega) (by omega) hpm c (by rw [ha]; rfl) (a % 16 * 64 + b % 64) (by omega) (by omega) 2
      rw [show (((3 : Nat) : Int) - 1).toNat + 2 = 4 from rfl]
      rw [show ((1 : Nat) : Int) = 1 from rfl] at st
      rw [st, show ((1 + 1 : Nat) : Int) = ((2 : Nat) : Int) from rfl, st2, show ((2 + 1 : Nat) : Int) = ((3 : Nat) : Int) from rfl, l1At_end]
      simp only [Option.bind_some]
      have fin := l1At_fin S p 3 ((a % 16 * 64 + b % 64) * 64 + c % 64) hpm (by omega) (by omega) (by omega) hS
      rw [fin, ha]
      congr 1
      have hu : (okRune ((a % 16 * 64 + b % 64) * 64 + c % 64) = true ∧ u8s ((a % 16 * 64 + b % 64) * 64 + c % 64) = [a, b, c]) ↔ (sndOk a b ∧ cont c) := by
        unfold sndOk u8lo u8hi cont okRune u8s
        simp only [Bool.and_eq_true, decide_eq_true_eq, Bool.not_eq_true', Bool.and_eq_false_iff, decide_eq_false_iff_not]
        constructor
        · rintro ⟨_, h⟩
          split at h
          · simp at h
          · split at h
            · simp at h
            · split at h
              · simp only [List.cons.injEq, and_true] at h; repeat' split <;> omega
              · simp at h
        · rintro ⟨h1, h2⟩
          have h3 : (a = 224 → 160 ≤ b) ∧ (a = 237 → b ≤ 159) ∧ 128 ≤ b ∧ b ≤ 191 := by
            repeat' split at h1 <;> omega
          refine ⟨by omega, ?_⟩
          rw [if_neg (by omega), if_neg (by omega), if_pos (by omega)]
          simp only [List.cons.injEq, and_true]
          omega
      have e3 : List.take 3 (a :: b :: c :: R') = [a, b, c] := rfl
      rw [e3]
      unfold dec
      have g0 : (a :: b :: c :: R').getD 0 0 = a := rfl
      have g1 : (a :: b :: c :: R').getD 1 0 = b := rfl
      have g2 : (a :: b :: c :: R').getD 2 0 = c := rfl
      have n3 : u8n a = 3 := by unfold u8n; rw [if_neg (by omega), if_pos (by omega)]
      simp only [g0, g1, g2, c1, if_false, n3]
      by_cases h : sndOk a b ∧ cont c
      · rw [if_pos (hu.2 h)]
        have h2 := h
        unfold sndOk u8lo u8hi cont at h2
        simp only [h.1, h.2, and_true, true_and, if_true, show ¬ ((3 : Int) = 2) by decide, false_and, if_false]
        congr 1
        have h3 : 128 ≤ b ∧ b ≤ 191 := by obtain ⟨h1, _⟩ := h2; repeat' split at h1 <;> omega
        omega
      · rw [if_neg (fun h' => h (hu.1 h'))]
        simp [h]
  · have q3 : q = 8 := by rw [q2]; decide
    subst q3
    match hR : R, hlen with
    | [], hl => simp at hl; omega
    | [b], hl => simp at hl; omega
    | [b, c], hl => simp at hl; omega
    | b :: c :: d :: R', hl =>
      have hb := hRr b (by simp)
      have hc := hRr c (by simp)
      have hd := hRr d (by simp)
      have la : 240 ≤ a ∧ a < 248 := by unfold l1L at hm; repeat' split at hm <;> omega
      have st := l1At_step S p 4 hS 1 (by omega) (by omega) hpm b (by rw [ha]; rfl) (a % 8) (by omega) (by omega) 4
      have st2 := l1At_step S p 4 hS 2 (by omega) (by omega) hpm c (by rw [ha]; rfl) (a % 8 * 64 + b % 64) (by omega) (by omega) 3
      have st3 := l1At_step S p 4 hS 3 (by omega) (by omega) hpm d (by rw [ha]; rfl) ((a % 8 * 64 + b % 64) * 64 + c % 64) (by omega) (by omega) 2
      rw [show (((4 : Nat) : Int) - 1).toNat + 2 = 5 from rfl]
      rw [show ((1 : Nat) : Int) = 1 from rfl] at st
      rw [st, show ((1 + 1 : Nat) : Int) = ((2 : Nat) : Int) from rfl, st2, show ((2 + 1 : Nat) : Int) = ((3 : Nat) : Int) from rfl, st3, show ((3 + 1 : Nat) : Int) = ((4 : Nat) : Int) from rfl, l1At_end]
      simp only [Option.bind_some]
      have fin := l1At_fin S p 4 (((a % 8 * 64 + b % 64) * 64 + c % 64) * 64 + d % 64) hpm (by omega) (by omega) (by omega) hS
      rw [fin, ha]
      congr 1
      have hu : (okRune (((a % 8 * 64 + b % 64) * 64 + c % 64) * 64 + d % 64) = true ∧ u8s (((a % 8 * 64 + b % 64) * 64 + c % 64) * 64 + d % 64) = [a, b, c, d]) ↔ (a ≤ 244 ∧ sndOk a b ∧ cont c ∧ cont d) := by
        unfold sndOk u8lo u8hi cont okRune u8s
        simp only [Bool.and_eq_true, decide_eq_true_eq, Bool.not_eq_true', Bool.and_eq_false_iff, decide_eq_false_iff_not]
        constructor
        · rintro ⟨_, h⟩
          split at h
          · simp at h
          · split at h
            · simp at h
            · split at h
              · simp at h
              · simp only [List.cons.injEq, and_true] at h; repeat' split <;> omega
        · rintro ⟨h0, h1, h2, h4⟩
          have h3 : (a = 240 → 144 ≤ b) ∧ (a = 244 → b ≤ 143) ∧ 128 ≤ b ∧ b ≤ 191 := by
            repeat' split at h1 <;> omega
          refine ⟨by omega, ?_⟩
          rw [if_neg (by omega), if_neg (by omega), if_neg (by omega)]
          simp only [List.cons.injEq, and_true]
          omega
      have e3 : List.take 4 (a :: b :: c :: d :: R') = [a, b, c, d] := rfl
      rw [e3]
      unfold dec
      have g0 : (a :: b :: c :: d :: R').getD 0 0 = a := rfl
      have g1 : (a :: b :: c :: d :: R').getD 1 0 = b := rfl
      have g2 : (a :: b :: c :: d :: R').getD 2 0 = c := rfl
      have g3 : (a :: b :: c :: d :: R').getD 3 0 = d := rfl
      have n3 : (u8n a = 4 ↔ a ≤ 244) ∧ u8n a ≠ 2 ∧ u8n a ≠ 3 := by unfold u8n; rw [if_neg (by omega), if_neg (by omega)]; split <;> omega
      simp only [g0, g1, g2, g3, c1, if_false, n3.1, n3.2.1, n3.2.2, false_and]
      by_cases h : a ≤ 244 ∧ sndOk a b ∧ cont c ∧ cont d
      · rw [if_pos (hu.2 h), if_pos h]
        have h2 := h
        unfold sndOk u8lo u8hi cont at h2
        congr 1
        have h3 : 128 ≤ b ∧ b ≤ 191 := by obtain ⟨_, h1, _⟩ := h2; repeat' split at h1 <;> omega
        omega
      · rw [if_neg (fun h' => h (hu.1 h')), if_neg h]
/-- The model's own decoder is 'dec'. -/
def decN (n0 n1 n2 n3 : Nat) (e1 e2 e3 : Bool) : Nat × Nat :=
  if n0 < 0x80 then (n0, 1)
  else if n0 / 32 == 6 && (e1 && n1 / 64 == 2) then
    if (n0 % 32) * 64 + n1 % 64 ≥ 0x80 then ((n0 % 32) * 64 + n1 % 64, 2) else (65533, 1)
  else if n0 / 16 == 14 && (e1 && n1 / 64 == 2) && (e2 && n2 / 64 == 2) then
    if (n0 % 16) * 4096 + (n1 % 64) * 64 + n2 % 64 ≥ 0x800 && Utf8.valid (((n0 % 16) * 4096 + (n1 % 64) * 64 + n2 % 64 : Nat) : Int) then ((n0 % 16) * 4096 + (n1 % 64) * 64 + n2 % 64, 3) else (65533, 1)
  else if n0 / 8 == 30 && (e1 && n1 / 64 == 2) && (e2 && n2 / 64 == 2) && (e3 && n3 / 64 == 2) then
    if (n0 % 8) * 262144 + (n1 % 64) * 4096 + (n2 % 64) * 64 + n3 % 64 ≥ 0x10000 && Utf8.valid (((n0 % 8) * 262144 + (n1 % 64) * 4096 + (n2 % 64) * 64 + n3 % 64 : Nat) : Int) then ((n0 % 8) * 262144 + (n1 % 64) * 4096 + (n2 % 64) * 64 + n3 % 64, 4) else (65533, 1)
  else (65533, 1)
theorem decN_model (S : ByteArray) (p : Nat) : Utf8.decode S p = decN (S.get! (p + 0)).toNat (S.get! (p + 1)).toNat (S.get! (p + 2)).toNat (S.get! (p + 3)).toNat (decide (p + 1 < S.size)) (decide (p + 2 < S.size)) (decide (p + 3 < S.size)) := rfl
def g01 (e : Bool) (n : Nat) : Int := if e then (n : Int) else 0
theorem contN {e : Bool} {n : Nat} (hn : n < 256) : (e && n / 64 == 2) = decide (cont (g01 e n)) := by
  unfold cont g01
  cases e with
  | false => simp
  | true =>
    rw [Bool.eq_iff_iff]
    simp
    omega
theorem decN_dec (n0 n1 n2 n3 : Nat) (e1 e2 e3 : Bool) (h0 : n0 < 256) (h1 : n1 < 256) (h2 : n2 < 256) (h3 : n3 < 256) (r : List Int) :
    (((decN n0 n1 n2 n3 e1 e2 e3).1 : Int), ((decN n0 n1 n2 n3 e1 e2 e3).2 : Int)) = dec [(n0 : Int), g01 e1 n1, g01 e2 n2, g01 e3 n3] := by
  unfold decN dec
  simp only [List.getD_cons_zero, List.getD_cons_succ, contN h1, contN h2, contN h3]
  have gc : ∀ {e : Bool} {n : Nat}, cont (g01 e n) → g01 e n = n ∧ 128 ≤ n ∧ n ≤ 191 := by
    intro e n h
    unfold cont g01 at *
    cases e <;> simp at h ⊢
    omega
  by_cases c0 : n0 < 128
  · have : (n0 : Int) < 128 := by omega
    simp [c0, this]
  have c0' : ¬ (n0 : Int) < 128 := by omega
  rw [if_neg c0, if_neg c0']
  have sn : ∀ b : Int, sndOk (n0 : Int) b → cont b := by
    intro b h
    unfold sndOk u8lo u8hi at h
    unfold cont
    repeat' split at h
    all_goals omega
  by_cases k1 : cont (g01 e1 n1)
  case neg =>
    have s1 : ¬ sndOk (n0 : Int) (g01 e1 n1) := fun h => k1 (sn _ h)
    simp [k1, s1]
  obtain ⟨q1, a1, b1⟩ := gc k1
  rw [q1]
  have k1' : cont (n1 : Int) := by rw [← q1]; exact k1
  simp only [k1', decide_true, Bool.and_true]
  by_cases d2 : n0 / 32 = 6
  · have hs : sndOk (n0 : Int) (n1 : Int) := by
      unfold sndOk u8lo u8hi
      rw [if_neg (by omega), if_neg (by omega), if_neg (by omega), if_neg (by omega)]
      omega
    rw [if_pos (by simpa using d2)]
    by_cases d : n0 < 194
    · have u : ¬ u8n (n0 : Int) = 2 := by unfold u8n; repeat' split <;> omega
      have u3 : ¬ u8n (n0 : Int) = 3 := by unfold u8n; repeat' split <;> omega
      have u4 : ¬ u8n (n0 : Int) = 4 := by unfold u8n; repeat' split <;> omega
      rw [if_neg (by omega)]
      simp [u, u3, u4]
    · have u : u8n (n0 : Int) = 2 := by unfold u8n; rw [if_pos (by omega)]
      rw [if_pos (by omega), if_pos ⟨u, hs⟩]
      simp
      omega
  have u2 : ¬ u8n (n0 : Int) = 2 := by unfold u8n; repeat' split <;> omega
  have f2 : ¬ (u8n (n0 : Int) = 2 ∧ sndOk (n0 : Int) (n1 : Int)) := fun h => u2 h.1
  rw [if_neg (by simpa using d2), if_neg f2]
  by_cases k2 : cont (g01 e2 n2)
  case neg => simp [k2]
  obtain ⟨q2, a2, b2⟩ := gc k2
  rw [q2]
  have k2' : cont (n2 : Int) := by rw [← q2]; exact k2
  simp only [k2', decide_true, Bool.and_true, and_true]
  by_cases d3 : n0 / 16 = 14
  · have u : u8n (n0 : Int) = 3 := by unfold u8n; rw [if_neg (by omega), if_pos (by omega)]
    have u4 : ¬ u8n (n0 : Int) = 4 := by omega
    have d3' : (n0 / 16 == 14) = true := by simpa using d3
    rw [if_pos d3']
    by_cases hs : sndOk (n0 : Int) (n1 : Int)
    · have f3 : u8n (n0 : Int) = 3 ∧ sndOk (n0 : Int) (n1 : Int) := ⟨u, hs⟩
      rw [if_pos f3]
      have hv : ((n0 % 16) * 4096 + (n1 % 64) * 64 + n2 % 64 ≥ 0x800 && Utf8.valid (((n0 % 16) * 4096 + (n1 % 64) * 64 + n2 % 64 : Nat) : Int)) = true := by
        unfold sndOk u8lo u8hi at hs
        unfold Utf8.valid
        simp only [Bool.and_eq_true, Bool.or_eq_true, decide_eq_true_eq]
        repeat' split at hs
        all_goals omega
      rw [if_pos hv]
      simp
      omega
    · have f3 : ¬ (u8n (n0 : Int) = 3 ∧ sndOk (n0 : Int) (n1 : Int)) := fun h => hs h.2
      rw [if_neg f3]
      have hv : ((n0 % 16) * 4096 + (n1 % 64) * 64 + n2 % 64 ≥ 0x800 && Utf8.valid (((n0 % 16) * 4096 + (n1 % 64) * 64 + n2 % 64 : Nat) : Int)) = false := by
        rw [← Bool.not_eq_true]
        intro hv
        apply hs
        unfold Utf8.valid at hv
        simp only [Bool.and_eq_true, Bool.or_eq_true, decide_eq_true_eq] at hv
        unfold sndOk u8lo u8hi
        repeat' split
        all_goals omega
      rw [hv]
      simp [u4]
  have u3 : ¬ u8n (n0 : Int) = 3 := by unfold u8n; repeat' split <;> omega
  have f3 : ¬ (u8n (n0 : Int) = 3 ∧ sndOk (n0 : Int) (n1 : Int)) := fun h => u3 h.1
  have d3' : ¬ (n0 / 16 == 14) = true := by simpa using d3
  rw [if_neg d3', if_neg f3]
  by_cases k3 : cont (g01 e3 n3)
  case neg => simp [k3]
  obtain ⟨q3, a3, b3⟩ := gc k3
  rw [q3]
  have k3' : cont (n3 : Int) := by rw [← q3]; exact k3
  simp only [k3', decide_true, Bool.and_true, and_true]
  by_cases d4 : n0 / 8 = 30
  · have d4' : (n0 / 8 == 30) = true := by simpa using d4
    rw [if_pos d4']
    by_cases hs : u8n (n0 : Int) = 4 ∧ sndOk (n0 : Int) (n1 : Int)
    · rw [if_pos hs]
      have hv : ((n0 % 8) * 262144 + (n1 % 64) * 4096 + (n2 % 64) * 64 + n3 % 64 ≥ 0x10000 && Utf8.valid (((n0 % 8) * 262144 + (n1 % 64) * 4096 + (n2 % 64) * 64 + n3 % 64 : Nat) : Int)) = true := by
        obtain ⟨hu, hs⟩ := hs
        have : n0 ≤ 244 := by unfold u8n at hu; repeat' split at hu <;> omega
        unfold sndOk u8lo u8hi at hs
        unfold Utf8.valid
        simp only [Bool.and_eq_true, Bool.or_eq_true, decide_eq_true_eq]
        repeat' split at hs
        all_goals omega
      rw [if_pos hv]
      simp
      omega
    · rw [if_neg hs]
      have hv : ((n0 % 8) * 262144 + (n1 % 64) * 4096 + (n2 % 64) * 64 + n3 % 64 ≥ 0x10000 && Utf8.valid (((n0 % 8) * 262144 + (n1 % 64) * 4096 + (n2 % 64) * 64 + n3 % 64 : Nat) : Int)) = false := by
        rw [← Bool.not_eq_true]
        intro hv
        apply hs
        unfold Utf8.valid at hv
        simp only [Bool.and_eq_true, Bool.or_eq_true, decide_eq_true_eq] at hv
        have hn : n0 ≤ 244 := by omega
        refine ⟨by unfold u8n; repeat' split <;> omega, ?_⟩
        unfold sndOk u8lo u8hi
        repeat' split
        all_goals omega
      rw [hv]
      rfl
  have u4 : ¬ (u8n (n0 : Int) = 4 ∧ sndOk (n0 : Int) (n1 : Int)) := by
    intro h
    have := h.1
    unfold u8n at this
    repeat' split at this
    all_goals omega
  have d4' : ¬ (n0 / 8 == 30) = true := by simpa using d4
  rw [if_neg d4', if_neg u4]
  rfl
theorem decode_dec (S : ByteArray) (p : Nat) (hp : p < S.size) : (((Utf8.decode S p).1 : Int), ((Utf8.decode S p).2 : Int)) = dec ((yo S).drop p) := by
  rw [decN_model, decN_dec _ _ _ _ _ _ _ (UInt8.toNat_lt _) (UInt8.toNat_lt _) (UInt8.toNat_lt _) (UInt8.toNat_lt _) []]
  have hz := size_bytes S
  have gd : ∀ k, ((yo S).drop p).getD k 0 = g01 (decide (p + k < S.size)) (S.get! (p + k)).toNat := by
    intro k
    unfold g01
    by_cases h : p + k < S.size
    · rw [if_pos (by simpa using h), List.getD_eq_getElem?_getD, List.getElem?_drop]
      unfold yo
      rw [List.getElem?_map, Array.getElem?_toList]
      have : S.data[p + k]? = some (S.get! (p + k)) := by
        have hd : p + k < S.data.size := h
        rw [Array.getElem?_eq_getElem hd]
        congr 1
        obtain ⟨x⟩ := S
        show x[p + k] = x[p + k]!
        rw [getElem!_pos x (p + k) hd]
      rw [this]
      rfl
    · rw [if_neg (by simpa using h), List.getD_eq_getElem?_getD, List.getElem?_eq_none (by rw [List.length_drop]; omega)]
      rfl
  have g0 := gd 0
  have g1 := gd 1
  have g2 := gd 2
  have g3 := gd 3
  unfold dec
  simp only [List.getD_cons_zero, List.getD_cons_succ]
  rw [g0, g1, g2, g3]
  have : g01 (decide (p + 0 < S.size)) (S.get! (p + 0)).toNat = ((S.get! (p + 0)).toNat : Int) := by unfold g01; rw [if_pos (by simpa using hp)]
  rw [this]
/-- The runes of some bytes. -/
def runesL : Nat → List Int → List Int
  | 0, _ => []
  | n + 1, L => if L = [] then [] else (dec L).1 :: runesL n (L.drop (dec L).2.toNat)
theorem dec_len (L : List Int) (hne : L ≠ []) : 1 ≤ (dec L).2 ∧ (dec L).2 ≤ L.length := by
  have gl : ∀ k, ¬ k < L.length → L.getD k 0 = 0 := fun k h => by rw [List.getD_eq_getElem?_getD, List.getElem?_eq_none (by omega)]; rfl
  have hp := List.length_pos_iff.2 hne
  have sn : ∀ a b : Int, sndOk a b → 128 ≤ b := by
    intro a b h
    unfold sndOk u8lo u8hi at h
    repeat' split at h
    all_goals omega
  unfold dec
  dsimp only
  split
  · dsimp only; omega
  · split
    · rename_i h
      have := sn _ _ h.2
      by_cases h1 : 1 < L.length
      · dsimp only; omega
      · rw [gl 1 h1] at this; omega
    · split
      · rename_i h
        have := h.2.2.1
        by_cases h1 : 2 < L.length
        · dsimp only; omega
        · rw [gl 2 h1] at this; omega
      · split
        · rename_i h
          have := h.2.2.2.1
          by_cases h1 : 3 < L.length
          · dsimp only; omega
          · rw [gl 3 h1] at this; omega
        · dsimp only; omega
theorem runesL_len : ∀ (n : Nat) (L : List Int), (runesL n L).length ≤ n
  | 0, _ => Nat.le_refl _
  | n + 1, L => by
    rw [runesL]
    split
    · simp
    · rw [List.length_cons]
      have := runesL_len n (L.drop (dec L).2.toNat)
      omega
theorem it_facts (S : ByteArray) (p : Nat) (hp : p < S.size) : itRune S (p : Int) = (dec ((yo S).drop p)).1 ∧ itNext S (p : Int) = ((p + (dec ((yo S).drop p)).2.toNat : Nat) : Int) := by
  have h := decode_dec S p hp
  have h1 := congrArg Prod.fst h
  have h2 := congrArg Prod.snd h
  dsimp only at h1 h2
  unfold itRune itNext
  rw [Int.toNat_natCast]
  exact ⟨h1, by rw [← h2]; simp⟩
theorem it_go (S : ByteArray) (p : Nat) : itGo S (p : Int) = decide (p < S.size) := by unfold itGo; rw [Int.toNat_natCast]
theorem drop_ne {S : ByteArray} {p : Nat} (hp : p < S.size) : (yo S).drop p ≠ [] := by
  rw [Ne, List.drop_eq_nil_iff]
  have := size_bytes S
  omega
theorem runesL_more : ∀ (n m : Nat) (L : List Int), L.length < n → L.length < m → runesL n L = runesL m L := by
  intro n
  induction n with
  | zero => intro m L h; omega
  | succ n ih =>
    intro m L hn hm
    obtain ⟨m, rfl⟩ := Nat.exists_eq_succ_of_ne_zero (show m ≠ 0 by omega)
    rw [runesL, runesL]
    by_cases h : L = []
    · rw [if_pos h, if_pos h]
    · obtain ⟨d1, d2⟩ := dec_len L h
      rw [if_neg h, if_neg h, ih m _ (by rw [List.length_drop]; omega) (by rw [List.length_drop]; omega)]
theorem p_l1Runes (S : ByteArray) (hS : S.size ≤ 1000000000) : z0d.f S = some (runesL (S.size + 1) (yo S)) := by
  unfold z0d.f
  have hz := size_bytes S
  have key : ∀ (k p : Nat) (out : List Int), p ≤ S.size → S.size - p < k → out.length ≤ p → z0d.l1 S k out p = some (out ++ runesL k ((yo S).drop p)) := by
    intro k
    induction k with
    | zero => intro p out _ h; omega
    | succ k ih =>
      intro p out hp hk ho
      rw [z0d.l1, runesL]
      by_cases h : p < S.size
      · have hne := drop_ne h
        obtain ⟨d1, d2⟩ := dec_len _ hne
        rw [List.length_drop, ← hz] at d2
        rw [if_pos (by rw [decide_eq_true_eq]; omega), if_neg hne, p_l1At S p h (by omega)]
        simp only [Option.bind_some]
        rw [app?_at (by simp; omega)]
        simp only [Option.bind_some]
        rw [wrapS (by omega) (by omega)]
        obtain ⟨w, hw⟩ := Int.eq_ofNat_of_zero_le (show 0 ≤ (dec ((yo S).drop p)).2 by omega)
        rw [hw, show ((p : Int) + (w : Int)) = ((p + w : Nat) : Int) by omega, ih (p + w) _ (by omega) (by omega) (by simp; omega), List.drop_drop, Int.toNat_natCast]
        simp
      · rw [if_neg (by rw [decide_eq_true_eq]; omega), if_pos (by rw [List.drop_eq_nil_iff]; omega), List.append_nil]
  have := key (((S.size : Int) - 0).toNat + 2) 0 [] (by omega) (by omega) (by simp)
  rw [show ((0 : Nat) : Int) = 0 from rfl, List.drop_zero, List.nil_append] at this
  rw [this]
  simp only [Option.bind_some]
  rw [runesL_more _ (S.size + 1) _ (by omega) (by omega)]
def okNameR (r : Int) : Bool := !(decide (r ≤ 32) || r == 65533)
def okName (S : ByteArray) : Bool := (decide (1 ≤ ((runesL (S.size + 1) (yo S)).length : Int)) && decide (((runesL (S.size + 1) (yo S)).length : Int) ≤ 8)) && (runesL (S.size + 1) (yo S)).all okNameR
theorem all_any {α : Type} (t : α → Bool) (l : List α) : l.all t = !l.any fun u => !t u := List.all_eq_not_any_not
theorem p_specName (S : ByteArray) (hS : S.size ≤ 1000000000) : z0e.f S = some (okName S) := by
  unfold z0e.f okName
  rw [p_l1Runes S hS]
  simp only [Option.bind_some]
  have hl := runesL_len (S.size + 1) (yo S)
  generalize runesL (S.size + 1) (yo S) = R at *
  rw [allI_loop R (by unfold big; omega) (fun _ u => !okNameR u) false (z0e.l1 R) (fun k i h => ?_) (fun k i h => ?_) _ (by omega), anyI_any, all_any okNameR]
  · cases R.any fun u => !okNameR u with
    | true => simp
    | false => simp [p_l1In]
  · rw [z0e.l1, if_pos (by rw [decide_eq_true_eq]; omega), rd?_at h]
    unfold okNameR
    by_cases h1 : R[i] ≤ 32
    · simp [h1]
    · by_cases h2 : R[i] = 65533 <;> simp [h1, h2]
  · rw [z0e.l1, if_neg (by rw [decide_eq_true_eq]; omega)]
theorem p_RuneCount (S : ByteArray) (hS : S.size ≤ 1000000000) : z0i.f S = some ((runesL (S.size + 1) (yo S)).length : Int) := by
  unfold z0i.f
  have hz := size_bytes S
  have key : ∀ (k p c : Nat), p ≤ S.size → S.size - p < k → c ≤ p → z0i.l1 S k c p = some (((c + (runesL k ((yo S).drop p)).length : Nat)) : Int) := by
    intro k
    induction k with
    | zero => intro p out _ h; omega
    | succ k ih =>
      intro p c hp hk hc
      rw [z0i.l1, runesL, it_go]
      by_cases h : p < S.size
      · have hne := drop_ne h
        obtain ⟨d1, d2⟩ := dec_len _ hne
        rw [List.length_drop, ← hz] at d2
        rw [if_pos (by simpa using h), if_neg hne, (it_facts S p h).2, wrapN c (by omega), ih _ (c + 1) (by omega) (by omega) (by omega), List.drop_drop, List.length_cons]
        congr 1
        omega
      · rw [if_neg (by simpa using h), if_pos (by rw [List.drop_eq_nil_iff]; omega)]
        rfl
  have := key (S.size + 2) 0 0 (by omega) (by omega) (by omega)
  rw [show ((0 : Nat) : Int) = 0 from rfl, List.drop_zero, Nat.zero_add] at this
  rw [this]
  simp only [Option.bind_some]
  rw [runesL_more _ (S.size + 1) _ (by omega) (by omega)]
theorem p_noName (S : ByteArray) (hS : S.size ≤ 1000000000) : z0n.f S = some ((runesL (S.size + 1) (yo S)).any fun u => !okNameR u) := by
  unfold z0n.f z0m.f z0l.f
  have hz := size_bytes S
  have key : ∀ (k p : Nat), p ≤ S.size → S.size - p < k → ∃ o, z0l.l1 S true k p = some o ∧ ((o = .go () ∧ (runesL k ((yo S).drop p)).any (fun u => !okNameR u) = false) ∨ (∃ j : Int, o = .ret j ∧ 0 ≤ j ∧ (runesL k ((yo S).drop p)).any (fun u => !okNameR u) = true)) := by
    intro k
    induction k with
    | zero => intro p _ h; omega
    | succ k ih =>
      intro p hp hk
      rw [z0l.l1, runesL, it_go]
      by_cases h : p < S.size
      · have hne := drop_ne h
        obtain ⟨d1, d2⟩ := dec_len _ hne
        rw [List.length_drop, ← hz] at d2
        rw [if_pos (by simpa using h), if_neg hne, (it_facts S p h).1, (it_facts S p h).2]
        have e : z0k.f (dec ((yo S).drop p)).1 = some (!okNameR (dec ((yo S).drop p)).1) := by
          unfold z0k.f okNameR
          by_cases h1 : (dec ((yo S).drop p)).1 ≤ 32
          · simp [h1]
          · simp [h1]
        rw [e]
        simp only [Option.bind_some, List.any_cons]
        cases hk2 : okNameR (dec ((yo S).drop p)).1 with
        | false => exact ⟨_, rfl, .inr ⟨_, rfl, by omega, rfl⟩⟩
        | true =>
          obtain ⟨o, o1, o2⟩ := ih (p + (dec ((yo S).drop p)).2.toNat) (by omega) (by omega)
          rw [List.drop_drop]
          exact ⟨o, by simpa using o1, by simpa using o2⟩
      · rw [if_neg (by simpa using h), if_pos (by rw [List.drop_eq_nil_iff]; omega)]
        exact ⟨_, rfl, .inl ⟨rfl, rfl⟩⟩
  obtain ⟨o, o1, o2⟩ := key (S.size + 2) 0 (by omega) (by omega)
  rw [show ((0 : Nat) : Int) = 0 from rfl] at o1
  rw [o1]
  rw [List.drop_zero, runesL_more _ (S.size + 1) _ (by omega) (by omega)] at o2
  rcases o2 with ⟨rfl, h⟩ | ⟨j, rfl, hj, h⟩
  · rw [h]; rfl
  · rw [h]
    simp [hj]
theorem p_implName (S : ByteArray) (hS : S.size ≤ 1000000000) : z0o.f S = some (okName S) := by
  unfold z0o.f okName
  rw [p_RuneCount S hS, p_noName S hS, all_any okNameR]
  simp only [Option.bind_some, p_inRange]
  cases (decide (1 ≤ ((runesL (S.size + 1) (yo S)).length : Int)) && decide (((runesL (S.size + 1) (yo S)).length : Int) ≤ 8)) <;> simp
theorem dec_snd (M : List Int) : 1 < (dec M).2 ↔ 128 ≤ M.getD 0 0 ∧ ((u8n (M.getD 0 0) = 2 ∧ sndOk (M.getD 0 0) (M.getD 1 0)) ∨ (u8n (M.getD 0 0) = 3 ∧ sndOk (M.getD 0 0) (M.getD 1 0) ∧ cont (M.getD 2 0)) ∨ (u8n (M.getD 0 0) = 4 ∧ sndOk (M.getD 0 0) (M.getD 1 0) ∧ cont (M.getD 2 0) ∧ cont (M.getD 3 0))) := by
  unfold dec
  generalize M.getD 0 0 = a
  generalize M.getD 1 0 = b
  generalize M.getD 2 0 = c
  generalize M.getD 3 0 = d
  dsimp only
  by_cases h0 : a < 128
  · rw [if_pos h0]
    constructor
    · intro h; simp at h
    · intro h; omega
  rw [if_neg h0]
  by_cases h1 : u8n a = 2 ∧ sndOk a b
  · rw [if_pos h1]
    exact ⟨fun _ => ⟨by omega, .inl h1⟩, fun _ => by simp⟩
  rw [if_neg h1]
  by_cases h2 : u8n a = 3 ∧ sndOk a b ∧ cont c
  · rw [if_pos h2]
    exact ⟨fun _ => ⟨by omega, .inr (.inl h2)⟩, fun _ => by simp⟩
  rw [if_neg h2]
  by_cases h3 : u8n a = 4 ∧ sndOk a b ∧ cont c ∧ cont d
  · rw [if_pos h3]
    exact ⟨fun _ => ⟨by omega, .inr (.inr h3)⟩, fun _ => by simp⟩
  rw [if_neg h3]
  constructor
  · intro h; simp at h
  · rintro ⟨_, h | h | h⟩
    · exact absurd h h1
    · exact absurd h h2
    · exact absurd h h3
theorem p_fill (S : ByteArray) (a : Int) (r : List Int) (hS : yo S = a :: r) (m f : Nat) (hm : l1L a = m) (hm4 : m ≤ 4) (hf : 128 ≤ f) (hf2 : f < 192) : ∀ (k j : Nat) (X : ByteArray), yo X = (a :: r) ++ List.replicate j (f : Int) → (a :: r).length + j ≤ m → m - ((a :: r).length + j) < k → ∃ T, z05.l2 S (f : Int) k X = some T ∧ yo T = (a :: r) ++ List.replicate (m - (a :: r).length) (f : Int) := by
  intro k
  induction k with
  | zero => intro j X _ _ h; omega
  | succ k ih =>
    intro j X hX hj hk
    have hx := size_bytes X
    rw [hX, List.length_append, List.length_replicate] at hx
    rw [z05.l2]
    have h0 := rdS_at S 0
    rw [hS] at h0
    rw [show ((0 : Nat) : Int) = 0 from rfl] at h0
    rw [h0]
    simp only [List.getElem?_cons_zero, Option.bind_some, p_l1Long, hm]
    by_cases hlt : X.size < m
    · rw [if_pos (by rw [decide_eq_true_eq]; omega), w8 (by omega) (by omega)]
      have hb1 : yo (textB [(f : Int)]) = [(f : Int)] := bytes_text _ (by simp; omega)
      have hz : (textB [(f : Int)]).size = 1 := by rw [size_bytes, hb1]; rfl
      obtain ⟨c, c1, c2⟩ := cat_at (n := 1000000000000) (a := X) (b := textB [(f : Int)]) (by omega)
      rw [c1]
      simp only [Option.bind_some]
      refine ih (j + 1) c ?_ (by omega) (by omega)
      rw [c2, hX, hb1, List.append_assoc, List.replicate_succ']
    · rw [if_neg (by rw [decide_eq_true_eq]; omega)]
      refine ⟨X, rfl, ?_⟩
      rw [hX]
      congr 2
      omega
theorem p_begLoop (S : ByteArray) (a : Int) (r : List Int) (hS : yo S = a :: r) (m : Nat) (hm : l1L a = m) (hm4 : m ≤ 4) (hn : (a :: r).length ≤ m) : ∀ (k f : Nat), 128 ≤ f → f ≤ 192 → 192 - f < k → ∃ o, z05.l1 S k (f : Int) = some o ∧ ((o = .ret true ∧ ∃ g : Nat, f ≤ g ∧ g < 192 ∧ 1 < (dec ((a :: r) ++ List.replicate (m - (a :: r).length) (g : Int))).2) ∨ (o = .go () ∧ ∀ g : Nat, f ≤ g → g < 192 → ¬ 1 < (dec ((a :: r) ++ List.replicate (m - (a :: r).length) (g : Int))).2)) := by
  intro k
  induction k with
  | zero => intro f _ _ h; omega
  | succ k ih =>
    intro f hf hf2 hk
    rw [z05.l1]
    by_cases hlt : f < 192
    · rw [if_pos (by rw [decide_eq_true_eq]; omega)]
      obtain ⟨T, t1, t2⟩ := p_fill S a r hS m f hm hm4 hf hlt 8 0 S (by rw [hS]; simp) (by omega) (by omega)
      rw [t1]
      simp only [Option.bind_some]
      have hT := size_bytes T
      rw [t2, List.length_append, List.length_replicate] at hT
      have hl1 : (a :: r).length = r.length + 1 := rfl
      have e := p_l1At T 0 (by omega) (by omega)
      rw [show ((0 : Nat) : Int) = 0 from rfl, t2, List.drop_zero] at e
      rw [e]
      simp only [Option.bind_some]
      by_cases hV : 1 < (dec ((a :: r) ++ List.replicate (m - (a :: r).length) (f : Int))).2
      · rw [if_pos (by rw [decide_eq_true_eq]; exact hV)]
        exact ⟨_, rfl, .inl ⟨rfl, f, Nat.le_refl _, hlt, hV⟩⟩
      · rw [if_neg (by rw [decide_eq_true_eq]; exact hV)]
        simp only [Option.bind_some]
        rw [wrapN f (by omega)]
        obtain ⟨o, o1, o2⟩ := ih (f + 1) (by omega) (by omega) (by omega)
        refine ⟨o, o1, ?_⟩
        rcases o2 with ⟨p1, g, p2, p3, p4⟩ | ⟨p1, p2⟩
        · exact .inl ⟨p1, g, by omega, p3, p4⟩
        · refine .inr ⟨p1, fun g h1 h2 => ?_⟩
          by_cases hg : g = f
          · rw [hg]; exact hV
          · exact p2 g (by omega) h2
    · rw [if_neg (by rw [decide_eq_true_eq]; omega)]
      exact ⟨_, rfl, .inr ⟨rfl, fun g h1 h2 => by omega⟩⟩
theorem lo_ok (a : Int) : sndOk a (u8lo a) ∧ cont (u8lo a) := by
  unfold sndOk cont u8lo u8hi
  repeat' split <;> omega
theorem u8n_L (a : Int) : (2 ≤ u8n a → l1L a = u8n a ∧ 128 ≤ a) ∧ (u8n a < 2 → True) := by
  refine ⟨fun h => ?_, fun _ => trivial⟩
  unfold u8n l1L at *
  repeat' split at h <;> first | omega | (repeat' split <;> omega)
theorem p_specBegun (S : ByteArray) : z05.f S = some (begB (yo S)) := by
  unfold z05.f
  have hs := size_bytes S
  have h0 := rdS_at S 0
  rw [show ((0 : Nat) : Int) = 0 from rfl] at h0
  have hr := bytes_rng S
  cases hL : yo S with
  | nil =>
    rw [hL] at hs
    have : (S.size : Int) = 0 := by rw [hs]; rfl
    simp [this, begB]
  | cons a r =>
    rw [hL] at hs h0 hr
    have n0 : ((S.size : Int) == 0) = false := by rw [beq_eq_false_iff_ne, hs]; simp; omega
    by_cases h3 : S.size > 3
    · have d3 : decide ((S.size : Int) > 3) = true := by rw [decide_eq_true_eq]; omega
      have e : begB (a :: r) = false := by
        match r, hs with
        | [], hs => simp at hs; omega
        | [_], hs => simp at hs; omega
        | [_, _], hs => simp at hs; omega
        | _ :: _ :: _ :: _, _ => rfl
      simp [n0, d3, e]
    have d3 : decide ((S.size : Int) > 3) = false := by rw [decide_eq_false_iff_not]; omega
    rw [h0]
    simp only [n0, d3, Bool.false_eq_true, if_false, List.getElem?_cons_zero, Option.bind_some, p_l1Long]
    have un := u8n_L a
    by_cases hle : l1L a ≤ (S.size : Int)
    · have e : begB (a :: r) = false := by
        match r, hs with
        | [], hs =>
          simp only [begB, decide_eq_false_iff_not]
          intro h
          have := (un.1 h).1
          simp at hs
          omega
        | [b], hs =>
          simp only [begB, Bool.and_eq_false_iff, decide_eq_false_iff_not]
          left
          intro h
          have := (un.1 (by omega)).1
          simp at hs
          omega
        | [b, c], hs =>
          simp only [begB, Bool.and_eq_false_iff, decide_eq_false_iff_not]
          left
          intro h
          have := (un.1 (by omega)).1
          simp at hs
          omega
        | _ :: _ :: _ :: _, _ => rfl
      simp [hle, e]
    simp only [hle, decide_false, Bool.false_eq_true, if_false]
    obtain ⟨m, hm⟩ : ∃ m : Nat, l1L a = m := ⟨(l1L a).toNat, by unfold l1L; repeat' split <;> omega⟩
    have hm4 : m ≤ 4 := by unfold l1L at hm; repeat' split at hm <;> omega
    have hlen : (a :: r).length = r.length + 1 := rfl
    obtain ⟨o, o1, o2⟩ := p_begLoop S a r hL m hm hm4 (by omega) (((192 : Int) - (128)).toNat + 2) 128 (by omega) (by omega) (by decide)
    rw [show ((128 : Nat) : Int) = 128 from rfl] at o1
    rw [o1]
    simp only [Option.bind_some]
    have key : (∃ g : Nat, 128 ≤ g ∧ g < 192 ∧ 1 < (dec ((a :: r) ++ List.replicate (m - (a :: r).length) (g : Int))).2) ↔ begB (a :: r) = true := by
      have lo := lo_ok a
      have lob : 128 ≤ u8lo a ∧ u8lo a < 192 := by unfold u8lo; repeat' split <;> omega
      obtain ⟨g0, hg0⟩ := Int.eq_ofNat_of_zero_le (show 0 ≤ u8lo a by omega)
      have hcg : ∀ g : Nat, 128 ≤ g → g < 192 → cont (g : Int) := fun g h1 h2 => by unfold cont; omega
      match r, hs, hm with
      | [], hs, hm =>
        simp only [List.length_cons, List.length_nil] at hs
        simp only [begB, decide_eq_true_eq]
        constructor
        · rintro ⟨g, g1, g2, g3⟩
          rw [dec_snd] at g3
          have e0 : ([a] ++ List.replicate (m - 1) (g : Int)).getD 0 0 = a := rfl
          simp only [List.length_cons, List.length_nil, Nat.zero_add] at g3
          rw [e0] at g3
          omega
        · intro h
          have hu := un.1 h
          refine ⟨g0, by omega, by omega, ?_⟩
          rw [dec_snd]
          simp only [List.length_cons, List.length_nil, Nat.zero_add]
          have e0 : ([a] ++ List.replicate (m - 1) (g0 : Int)).getD 0 0 = a := rfl
          rw [e0]
          refine ⟨hu.2, ?_⟩
          rw [hg0] at lo
          have hu4 := u8n_le a
          rcases (show m = 2 ∨ m = 3 ∨ m = 4 by omega) with rfl | rfl | rfl
          · exact .inl ⟨by omega, lo.1⟩
          · exact .inr (.inl ⟨by omega, lo.1, lo.2⟩)
          · exact .inr (.inr ⟨by omega, lo.1, lo.2, lo.2⟩)
      | [b], hs, hm =>
        simp only [List.length_cons, List.length_nil] at hs
        simp only [begB, Bool.and_eq_true, decide_eq_true_eq]
        constructor
        · rintro ⟨g, g1, g2, g3⟩
          rw [dec_snd] at g3
          simp only [List.length_cons, List.length_nil, Nat.zero_add] at g3
          have e0 : ([a, b] ++ List.replicate (m - 2) (g : Int)).getD 0 0 = a := rfl
          have e1 : ([a, b] ++ List.replicate (m - 2) (g : Int)).getD 1 0 = b := rfl
          rw [show m - (1 + 1) = m - 2 from rfl, e0, e1] at g3
          obtain ⟨k0, k | k | k⟩ := g3
          · have := (un.1 (by omega)).1; omega
          · exact ⟨by omega, k.2.1⟩
          · exact ⟨by omega, k.2.1⟩
        · rintro ⟨h, h2⟩
          have hu := un.1 (by omega)
          refine ⟨128, by omega, by omega, ?_⟩
          rw [dec_snd]
          simp only [List.length_cons, List.length_nil, Nat.zero_add]
          have e0 : ([a, b] ++ List.replicate (m - 2) ((128 : Nat) : Int)).getD 0 0 = a := rfl
          have e1 : ([a, b] ++ List.replicate (m - 2) ((128 : Nat) : Int)).getD 1 0 = b := rfl
          rw [show m - (1 + 1) = m - 2 from rfl, e0, e1]
          refine ⟨hu.2, ?_⟩
          have hu4 := u8n_le a
          have c128 := hcg 128 (by omega) (by omega)
          rcases (show m = 3 ∨ m = 4 by omega) with rfl | rfl
          · exact .inr (.inl ⟨by omega, h2, c128⟩)
          · exact .inr (.inr ⟨by omega, h2, c128, c128⟩)
      | [b, c], hs, hm =>
        simp only [List.length_cons, List.length_nil] at hs
        simp only [begB, Bool.and_eq_true, decide_eq_true_eq]
        constructor
        · rintro ⟨g, g1, g2, g3⟩
          rw [dec_snd] at g3
          simp only [List.length_cons, List.length_nil, Nat.zero_add] at g3
          have e0 : ([a, b, c] ++ List.replicate (m - 3) (g : Int)).getD 0 0 = a := rfl
          have e1 : ([a, b, c] ++ List.replicate (m - 3) (g : Int)).getD 1 0 = b := rfl
          have e2 : ([a, b, c] ++ List.replicate (m - 3) (g : Int)).getD 2 0 = c := rfl
          rw [show m - (1 + 1 + 1) = m - 3 from rfl, e0, e1, e2] at g3
          obtain ⟨k0, k | k | k⟩ := g3
          · have := (un.1 (by omega)).1; omega
          · have := (un.1 (by omega)).1; omega
          · exact ⟨by omega, k.2.1, k.2.2.1⟩
        · rintro ⟨h, h2, h4⟩
          have hu := un.1 (by omega)
          refine ⟨128, by omega, by omega, ?_⟩
          rw [dec_snd]
          simp only [List.length_cons, List.length_nil, Nat.zero_add]
          have e0 : ([a, b, c] ++ List.replicate (m - 3) ((128 : Nat) : Int)).getD 0 0 = a := rfl
          have e1 : ([a, b, c] ++ List.replicate (m - 3) ((128 : Nat) : Int)).getD 1 0 = b := rfl
          have e2 : ([a, b, c] ++ List.replicate (m - 3) ((128 : Nat) : Int)).getD 2 0 = c := rfl
          rw [show m - (1 + 1 + 1) = m - 3 from rfl, e0, e1, e2]
          refine ⟨hu.2, ?_⟩
          have hu4 := u8n_le a
          have c128 := hcg 128 (by omega) (by omega)
          obtain rfl : m = 4 := by omega
          exact .inr (.inr ⟨by omega, h2, h4, c128⟩)
      | _ :: _ :: _ :: _, hs, _ => simp at hs; omega
    rcases o2 with ⟨rfl, p2⟩ | ⟨rfl, p2⟩
    · rw [key.1 p2]
    · have : begB (a :: r) = false := by
        cases hb : begB (a :: r) with
        | false => rfl
        | true =>
          obtain ⟨g, g1, g2, g3⟩ := key.2 hb
          exact absurd g3 (p2 g g1 g2)
      rw [this]
theorem mul_le160 {w h : Int} (h1 : 1 ≤ w) (h2 : w ≤ 20) (h3 : 1 ≤ h) (h4 : h ≤ 8) : 1 ≤ w * h ∧ w * h ≤ 160 := by
  have a := Int.mul_le_mul h2 h4 (by omega) (by omega)
  have b := Int.mul_le_mul h1 h3 (by omega) (by omega)
  omega
theorem p_or (u v : Nat) (hu : u < 256) (hv : v < 256) : bits .or .i64 ((u : Int) * 256) (v : Int) = (u : Int) * 256 + v := by
  unfold bits
  have e1 : BitVec.ofInt IntKind.i64.bits ((u : Int) * 256) = BitVec.ofNat 64 (256 * u) := by
    show BitVec.ofInt 64 _ = _
    rw [show (u : Int) * 256 = ((256 * u : Nat) : Int) by omega]
    exact BitVec.ofInt_natCast 64 _
  have e2 : BitVec.ofInt IntKind.i64.bits (v : Int) = BitVec.ofNat 64 v := BitVec.ofInt_natCast 64 _
  rw [e1, e2]
  dsimp only
  have e3 : (BitVec.ofNat 64 (256 * u) ||| BitVec.ofNat 64 v).toNat = 256 * u + v := by
    rw [BitVec.toNat_or, BitVec.toNat_ofNat, BitVec.toNat_ofNat, Nat.mod_eq_of_lt (by omega), Nat.mod_eq_of_lt (by omega)]
    exact (Nat.two_pow_add_eq_or_of_lt (i := 8) hv u).symm
  have e4 : (((BitVec.ofNat 64 (256 * u) ||| BitVec.ofNat 64 v).toNat : Nat) : Int) = ((256 * u + v : Nat) : Int) := by rw [e3]
  have key : IntKind.i64.wrap (((BitVec.ofNat 64 (256 * u) ||| BitVec.ofNat 64 v).toNat : Nat) : Int) = (u : Int) * 256 + v := by
    rw [e4, wrapS (by omega) (by omega)]
    omega
  exact key
def unitB (en : Int) (L : List Int) : Int := if en = 2 then L.getD 0 0 * 256 + L.getD 1 0 else L.getD 1 0 * 256 + L.getD 0 0
theorem sh8a : min (8 : Int).toNat IntKind.i64.bits = 8 := by decide
theorem sh8b : (2 : Int) ^ 8 = 256 := by decide
theorem sh8c (u : Nat) : shlK? .i64 (u : Int) 8 = some (IntKind.i64.wrap ((u : Int) * 2 ^ (min (8 : Int).toNat IntKind.i64.bits))) := by
  unfold shlK?
  exact if_pos (by omega)
theorem p_shl8 (u : Nat) (hu : u < 256) : shlK? .i64 (u : Int) 8 = some ((u : Int) * 256) := by
  rw [sh8c u, sh8a, sh8b, wrapS (by omega) (by omega)]
theorem bindE {α β : Type} {x : Option α} {f : α → Option β} {a : α} {b : Option β} (h : x = some a) (h2 : f a = b) : x.bind f = b := by subst h; exact h2
theorem p_specUnit (en : Int) (S : ByteArray) (h2 : 2 ≤ S.size) : z07.f en S = some (unitB en (yo S)) := by
  unfold z07.f unitB
  have hs := size_bytes S
  have hr := bytes_rng S
  have h0 := rdS_at S 0
  have h1 := rdS_at S 1
  rw [show ((0 : Nat) : Int) = 0 from rfl] at h0
  rw [show ((1 : Nat) : Int) = 1 from rfl] at h1
  rw [h0, h1]
  generalize yo S = L at *
  match L, hs with
  | [], hs => simp only [List.length_cons, List.length_nil] at hs; omega
  | [_], hs => simp only [List.length_cons, List.length_nil] at hs; omega
  | a :: b :: r, hs =>
    have hx := hr a (by simp)
    have hy := hr b (by simp)
    by_cases he : en = 2
    · simp [he, wrapS (n := a) (by omega) (by omega), wrapS (n := b) (by omega) (by omega), wrapS (n := a * 256) (by omega) (by omega), wrapS (n := a * 256 + b) (by omega) (by omega)]
    · simp [he, wrapS (n := a) (by omega) (by omega), wrapS (n := b) (by omega) (by omega), wrapS (n := b * 256) (by omega) (by omega), wrapS (n := b * 256 + a) (by omega) (by omega)]
/-- A good decoder. -/
def okDec (en sh lo : Int) (L : List Int) : Bool := (decide (1 ≤ en) && decide (en ≤ 5)) && (decide (0 ≤ sh) && decide (sh ≤ 1)) && (decide (0 ≤ lo) && decide (lo ≤ 1000)) && !(decide (en ≠ 5) && decide (0 < sh + lo)) &&
  (if L = [] then true else if en = 1 then begB L else if en = 2 ∨ en = 3 then decide (L.length ≤ 3) && (decide (L.length = 1) || (decide (55296 ≤ unitB en L) && decide (unitB en L ≤ 56319))) else false)
theorem p_specDec (en sh lo : Int) (S : ByteArray) : z09.f en sh lo S = some (okDec en sh lo (yo S)) := by
  unfold z09.f z01.f z06.f z08.f okDec
  have hs := size_bytes S
  simp only [p_l1In, Option.bind_some, strB, bytes_nil, p_specBegun]
  by_cases h1 : 1 ≤ en ∧ en ≤ 5
  · by_cases h2 : 0 ≤ sh ∧ sh ≤ 1
    · by_cases h3 : 0 ≤ lo ∧ lo ≤ 1000
      · rw [wrapS (n := sh + lo) (by omega) (by omega)]
        by_cases h4 : en ≠ 5 ∧ 0 < sh + lo
        · simp [h1, h2, h3, h4]
        · have e4 : (decide (en ≠ 5) && decide (0 < sh + lo)) = false := by
            rw [Bool.and_eq_false_iff, decide_eq_false_iff_not, decide_eq_false_iff_not]
            by_cases a : en = 5
            · left; simpa using a
            · right; intro b; exact h4 ⟨a, b⟩
          have e5 : (if (en != 5) = true then (some (decide (sh + lo > 0))) else (some false)) = some false := by
            by_cases a : en = 5
            · simp [a]
            · have : ¬ 0 < sh + lo := fun b => h4 ⟨a, b⟩
              simp [a]; omega
          simp only [h1, h2, h3, decide_true, Bool.and_self, Bool.not_true, Bool.false_eq_true, if_false, e5, Option.bind_some, e4, Bool.not_false, Bool.true_and]
          by_cases he : en = 1
          · by_cases hL : yo S = [] <;> simp [he, hL]
          · have he' : (en == 1) = false := by simpa using he
            simp only [he', he, Bool.false_eq_true, if_false]
            by_cases h23 : en = 2 ∨ en = 3
            · have hu : (if (en == 2) = true then (some true) else (some (en == 3))) = some true := by rcases h23 with h | h <;> simp [h]
              simp only [hu, Option.bind_some, if_true, h23]
              by_cases hL : yo S = []
              · have d0 : decide ((S.size : Int) < 2) = true := by rw [decide_eq_true_eq, hs, hL]; simp
                simp [d0, hL]
              · have hne : (yo S).length ≠ 0 := fun h => hL (List.eq_nil_of_length_eq_zero h)
                simp only [hL, if_false]
                by_cases hl1 : S.size = 1
                · have d3 : decide ((S.size : Int) < 2) = true := by rw [decide_eq_true_eq]; omega
                  have d4 : decide ((yo S).length = 1) = true := by rw [decide_eq_true_eq]; omega
                  have d2 : decide ((yo S).length ≤ 3) = true := by rw [decide_eq_true_eq]; omega
                  simp [d3, d4, d2]
                · have d3 : decide ((S.size : Int) < 2) = false := by rw [decide_eq_false_iff_not]; omega
                  have d4 : decide ((yo S).length = 1) = false := by rw [decide_eq_false_iff_not]; omega
                  simp only [d3, d4, Bool.false_eq_true, if_false, Bool.false_or]
                  by_cases hl3 : S.size ≤ 3
                  · have d1 : decide ((S.size : Int) < 4) = true := by rw [decide_eq_true_eq]; omega
                    have d2 : decide ((yo S).length ≤ 3) = true := by rw [decide_eq_true_eq]; omega
                    simp only [d1, d2, if_true, Bool.true_and]
                    rw [p_specUnit en S (by omega)]
                    simp
                  · have d1 : decide ((S.size : Int) < 4) = false := by rw [decide_eq_false_iff_not]; omega
                    have d2 : decide ((yo S).length ≤ 3) = false := by rw [decide_eq_false_iff_not]; omega
                    simp [d1, d2]
            · have hu : (if (en == 2) = true then (some true) else (some (en == 3))) = some false := by
                have a : en ≠ 2 := fun h => h23 (.inl h)
                have b : en ≠ 3 := fun h => h23 (.inr h)
                simp [a, b]
              simp only [hu, Option.bind_some, Bool.false_eq_true, if_false, h23]
              by_cases hL : yo S = [] <;> simp [hL]
      · have : (decide (0 ≤ lo) && decide (lo ≤ 1000)) = false := by simpa using h3
        simp [h1, h2, this]
    · have : (decide (0 ≤ sh) && decide (sh ≤ 1)) = false := by simpa using h2
      simp [h1, this]
  · have : (decide (1 ≤ en) && decide (en ≤ 5)) = false := by simpa using h1
    simp [this]
def okLong (u : Int) : Bool := decide (1 ≤ u) && decide (u ≤ 1000)
def okBuf (m : Int) (rs ls : List Int) (g : Int) : Bool := (decide (1 ≤ m) && decide (m ≤ 60)) && decide ((rs.length : Int) ≤ m) && rs.all okRune && ((ls.length : Int) == (rs.length : Int)) && ls.all okLong && (decide (0 ≤ g) && decide (g ≤ 1000000))
theorem p_specBuf (m : Int) (rs ls : List Int) (g : Int) (hr : rs.length ≤ big) (hl : ls.length ≤ big) : z0a.f m rs ls g = some (okBuf m rs ls g) := by
  unfold z0a.f okBuf
  simp only [p_l1In, Option.bind_some, p_allRunes rs hr, p_l1All ls 1 1000 hl]
  have e : (ls.all fun u => decide (1 ≤ u) && decide (u ≤ 1000)) = ls.all okLong := rfl
  rw [e]
  by_cases h1 : (rs.length : Int) ≤ m ∧ m ≤ 60
  · have h2 : rs.length ≤ 1000 := by omega
    simp only [h1, h2, decide_true, Bool.and_true]
    generalize decide (1 ≤ m) = b1
    generalize rs.all okRune = b3
    generalize ((ls.length : Int) == (rs.length : Int)) = b4
    generalize ls.all okLong = b5
    generalize (decide (0 ≤ g) && decide (g ≤ 1000000)) = b6
    cases b1 <;> cases b3 <;> cases b4 <;> cases b5 <;> cases b6 <;> rfl
  · by_cases h2 : m ≤ 60
    · have h3 : ¬ (rs.length : Int) ≤ m := fun h => h1 ⟨h, h2⟩
      simp only [h2, h3, decide_true, decide_false]
      cases decide (1 ≤ m) <;> simp
    · simp [h2]
def okSess (en sh lo : Int) (L : List Int) (m : Int) (rs ls : List Int) (g : Int) (eof : Bool) : Bool := okDec en sh lo L && okBuf m rs ls g && (!eof || decide (L = []))
theorem p_specSess (en sh lo : Int) (S : ByteArray) (m : Int) (rs ls : List Int) (g : Int) (eof : Bool) (hr : rs.length ≤ big) (hl : ls.length ≤ big) : z0b.f en sh lo S m rs ls g eof = some (okSess en sh lo (yo S) m rs ls g eof) := by
  unfold z0b.f okSess
  rw [p_specDec]
  simp only [Option.bind_some, p_specBuf m rs ls g hr hl, strB, bytes_nil]
  cases okDec en sh lo (yo S) <;> cases okBuf m rs ls g <;> cases eof <;> simp
  exact decide_eq_decide.2 Iff.rfl
theorem okDec_nil {en sh lo : Int} {L : List Int} (h : okDec en sh lo L = true) : okDec en sh lo [] = true := by
  unfold okDec at *
  simp only [Bool.and_eq_true] at h ⊢
  exact ⟨h.1, by simp⟩
theorem okDec_len {en sh lo : Int} {L : List Int} (h : okDec en sh lo L = true) : L.length ≤ 3 := by
  unfold okDec at h
  simp only [Bool.and_eq_true] at h
  have h := h.2
  by_cases hL : L = []
  · simp [hL]
  · rw [if_neg hL] at h
    by_cases h1 : en = 1
    · rw [if_pos h1] at h
      match L, h with
      | [_], _ => simp
      | [_, _], _ => simp
      | [_, _, _], _ => simp
      | _ :: _ :: _ :: _ :: _, h => simp [begB] at h
    · rw [if_neg h1] at h
      by_cases h2 : en = 2 ∨ en = 3
      · rw [if_pos h2] at h
        simp only [Bool.and_eq_true, decide_eq_true_eq] at h
        exact h.1
      · rw [if_neg h2] at h
        cases h
instance dq1 : DecidableEq (List ((Int) × (List ((Int) × (List (Int)))))) := inferInstance
instance dq2 : DecidableEq (List (Int) × (List ((Int) × (List ((Int) × (List (Int)))))) × (List (Int))) := inferInstance
instance dqIns : DecidableEq ((Int) × (Int) × (Int) × (Int) × (List (Int)) × (List ((Int) × (List ((Int) × (List (Int)))))) × (List (Int))) := inferInstance
instance dq4 : DecidableEq (List ((Int) × (Int) × (Int) × (Int) × (List (Int)) × (List ((Int) × (List ((Int) × (List (Int)))))) × (List (Int)))) := inferInstance
instance dq5 : DecidableEq (List ((Int) × (ByteArray) × (Bool)) × (Int) × (Int) × (Int) × (Bool)) := inferInstance
instance dqGuest : DecidableEq ((ByteArray) × (List ((Int) × (Int) × (Int) × (Int) × (List (Int)) × (List ((Int) × (List ((Int) × (List (Int)))))) × (List (Int)))) × (List ((Int) × (ByteArray) × (Bool))) × (Int) × (Int) × (Int) × (Bool)) := inferInstance
def w_Chunk (u : (Int) × (ByteArray) × (Bool)) : Int := wStr u.2.1
def okw_Chunk (u : (Int) × (ByteArray) × (Bool)) : Prop := okStr u.2.1
theorem w_Chunk_pos (u : (Int) × (ByteArray) × (Bool)) : 0 ≤ w_Chunk u := by
  unfold w_Chunk
  have := wStr_pos u.2.1
  omega
theorem sz_Chunk (u : (Int) × (ByteArray) × (Bool)) (hu : okw_Chunk u) (n : Int) (h0 : 0 ≤ n) (h1 : n ≤ 1048576) : ∃ r, z7.f u.1 u.2.1 u.2.2 n = some r ∧ (r < 0 ∨ 0 ≤ r ∧ r + w_Chunk u ≤ n) := by
  have p0 := wStr_pos u.2.1
  unfold z7.f w_Chunk
  have hz0 : okStr u.2.1 := hu
  unfold okStr maxN at hz0
  rw [wrapS (n := n - (u.2.1.size : Int)) (by omega) (by omega)]
  by_cases n0 : n - (u.2.1.size : Int) < 0
  · rw [if_pos (by simpa using n0)]; exact ⟨-1, rfl, .inl (by decide)⟩
  rw [if_neg (by simpa using n0)]
  have g0 : wStr u.2.1 = u.2.1.size := rfl
  exact ⟨_, rfl, .inr ⟨by omega, by omega⟩⟩
theorem to_Chunk (u : (Int) × (ByteArray) × (Bool)) (hu : w_Chunk u ≤ 1000000000) : zi.f u.1 u.2.1 u.2.2 = some u := by
  have p0 := wStr_pos u.2.1
  unfold zi.f
  unfold w_Chunk at hu
  rfl
theorem eq_Chunk (u v : (Int) × (ByteArray) × (Bool)) (hu : w_Chunk u ≤ 1000000000) : z1w.f u.1 u.2.1 u.2.2 v.1 v.2.1 v.2.2 = some (decide (u = v)) := by
  have p0 := wStr_pos u.2.1
  unfold z1w.f
  unfold w_Chunk at hu
  simp only [baInj]
  clear hu p0
  obtain ⟨a0, a1, a2⟩ := u
  obtain ⟨b0, b1, b2⟩ := v
  by_cases h0 : a0 = b0
  case neg => simp [h0]
  by_cases h1 : a1 = b1
  case neg => simp [h0, h1]
  by_cases h2 : a2 = b2
  case neg => simp [h0, h1, h2]
  simp [h0, h1, h2]
theorem sz_ChunkS (p : List ((Int) × (ByteArray) × (Bool))) (hp : okL okw_Chunk p) (n : Int) (h0 : 0 ≤ n) (h1 : n ≤ 1048576) : ∃ r, z8.f p n = some r ∧ (r < 0 ∨ 0 ≤ r ∧ r + wL w_Chunk p ≤ n) :=
  sz_all p hp.1 n h0 h1 (fun u n => z7.f u.1 u.2.1 u.2.2 n) w_Chunk (fun u hu n a b => sz_Chunk u (hp.2 u hu) n a b) (fun u _ => w_Chunk_pos u) (z8.l1 p) (((p.length : Int) - 0).toNat + 2) (by omega) fun _ _ _ => rfl
theorem to_ChunkS (p : List ((Int) × (ByteArray) × (Bool))) (hp : wL w_Chunk p ≤ 1000000000) : zj.f p = some p :=
  copy_all p (wL_big w_Chunk_pos hp) (fun u K => (zi.f u.1 u.2.1 u.2.2).bind fun v => K (v.1, v.2.1, v.2.2)) (fun u hu K => by rw [to_Chunk u (wL_mem w_Chunk_pos hp hu)]; rfl) (zj.l1 p) _ (((p.length : Int) - 0).toNat + 2) 4398046511104 (by omega) (wL_cap w_Chunk_pos hp (by decide)) fun _ _ _ => rfl
theorem eq_ChunkS (p q : List ((Int) × (ByteArray) × (Bool))) (hp : wL w_Chunk p ≤ 1000000000) : z1x.f p q = some (decide (p = q)) :=
  eqS_all p q (wL_big w_Chunk_pos hp) (fun u v => z1w.f u.1 u.2.1 u.2.2 v.1 v.2.1 v.2.2) (fun u hu v => eq_Chunk u v (wL_mem w_Chunk_pos hp hu)) (z1x.l1 p q) (((p.length : Int) - 0).toNat + 2) (by omega) fun _ _ => rfl
theorem p_eqIntS (p q : List Int) (hp : p.length ≤ big) : z1p.f p q = some (decide (p = q)) :=
  eq_all p q hp (z1p.l1 p q) _ (by omega) fun _ _ _ => rfl
theorem p_toIntS_l (p : List Int) (hp : p.length ≤ big) : ∀ (k i : Nat) (x : List Int), i ≤ p.length → p.length - i < k → x.length = p.length → x.take i = p.take i → zb.l1 p k x i = some p := by
  intro k
  induction k with
  | zero => intro i x _ h; omega
  | succ k ih =>
    intro i x hi hk hl ht
    rw [zb.l1]
    by_cases h : i < p.length
    · rw [if_pos (by simpa using h), rd?_at h]
      simp only [Option.bind_some]
      rw [rd?_at (by omega : i < x.length)]
      simp only [Option.bind_some]
      rw [st?_at p[i] (by omega : i < x.length)]
      simp only [Option.bind_some]
      rw [wrapN i (by unfold big at hp; omega)]
      refine ih (i + 1) _ h (by omega) (by simpa using hl) ?_
      rw [List.take_add_one, List.take_add_one, List.take_set_of_le (Nat.le_refl i), ht]
      simp [h, hl]
    · rw [if_neg (by simpa using h)]
      obtain rfl : i = p.length := by omega
      rw [List.take_length, ← hl, List.take_length] at ht
      rw [ht]
theorem p_toIntS (p : List Int) (hp : p.length ≤ big) : zb.f p = some p := by
  unfold zb.f
  rw [mk?_at (by unfold big at hp; omega)]
  simp only [Option.bind_some]
  have := p_toIntS_l p hp (((p.length : Int) - 0).toNat + 2) 0 (List.replicate p.length 0) (by omega) (by omega) (by simp) (by simp)
  rw [show ((0 : Nat) : Int) = 0 from rfl] at this
  rw [this]
  rfl
theorem p_szIntS (p : List Int) (n : Int) (h0 : 0 ≤ n) (h1 : n ≤ 1048576) (hp : p.length ≤ maxN) : z0.f p n = some (if (p.length : Int) ≤ n then n - p.length else -1) := by
  unfold z0.f
  unfold maxN at hp
  rw [wrapS (by omega) (by omega)]
  by_cases h : (p.length : Int) ≤ n
  · rw [if_neg (by simp; omega), if_pos h]
  · rw [if_pos (by simp; omega), if_neg h]
def marks (k : Int) (n : Nat) : List Int := (List.range n).map fun i : Nat => k + i
theorem marks_len (k : Int) (n : Nat) : (marks k n).length = n := by simp [marks]
theorem marks_get (k : Int) (n i : Nat) (h : i < n) : (marks k n)[i]? = some (k + i) := by simp [marks, h]
theorem sz_IntS (p : List Int) (hp : okL okZ p) (n : Int) (h0 : 0 ≤ n) (h1 : n ≤ 1048576) : ∃ r, z0.f p n = some r ∧ (r < 0 ∨ 0 ≤ r ∧ r + wL wZ p ≤ n) := by
  rw [p_szIntS p n h0 h1 hp.1, wL_int]
  by_cases h : (p.length : Int) ≤ n
  · rw [if_pos h]; exact ⟨_, rfl, .inr ⟨by omega, by omega⟩⟩
  · rw [if_neg h]; exact ⟨_, rfl, .inl (by decide)⟩
theorem to_IntS (p : List Int) (hp : wL wZ p ≤ 1000000000) : zb.f p = some p := p_toIntS p (wL_big wZ_pos hp)
theorem eq_IntS (p q : List Int) (hp : wL wZ p ≤ 1000000000) : z1p.f p q = some (decide (p = q)) := p_eqIntS p q (wL_big wZ_pos hp)
def w_Re (u : (Int) × (List (Int))) : Int := (wL wZ) u.2
def okw_Re (u : (Int) × (List (Int))) : Prop := (okL okZ) u.2
theorem w_Re_pos (u : (Int) × (List (Int))) : 0 ≤ w_Re u := by
  unfold w_Re
  have := (wL_pos wZ_pos) u.2
  omega
theorem sz_Re (u : (Int) × (List (Int))) (hu : okw_Re u) (n : Int) (h0 : 0 ≤ n) (h1 : n ≤ 1048576) : ∃ r, z1.f u.1 u.2 n = some r ∧ (r < 0 ∨ 0 ≤ r ∧ r + w_Re u ≤ n) := by
  have p0 := (wL_pos wZ_pos) u.2
  unfold z1.f w_Re
  obtain ⟨r0, e0, g0⟩ := sz_IntS u.2 hu n (by omega) (by omega)
  rw [e0]
  simp only [Option.bind_some]
  by_cases n0 : r0 < 0
  · rw [if_pos (by simpa using n0)]; exact ⟨-1, rfl, .inl (by decide)⟩
  rw [if_neg (by simpa using n0)]
  replace g0 := g0.resolve_left n0
  exact ⟨_, rfl, .inr ⟨by omega, by omega⟩⟩
theorem to_Re (u : (Int) × (List (Int))) (hu : w_Re u ≤ 1000000000) : zc.f u.1 u.2 = some u := by
  have p0 := (wL_pos wZ_pos) u.2
  unfold zc.f
  unfold w_Re at hu
  rw [to_IntS u.2 (by omega)]
  rfl
theorem eq_Re (u v : (Int) × (List (Int))) (hu : w_Re u ≤ 1000000000) : z1q.f u.1 u.2 v.1 v.2 = some (decide (u = v)) := by
  have p0 := (wL_pos wZ_pos) u.2
  unfold z1q.f
  unfold w_Re at hu
  rw [eq_IntS u.2 v.2 (by omega)]
  clear hu p0
  obtain ⟨a0, a1⟩ := u
  obtain ⟨b0, b1⟩ := v
  by_cases h0 : a0 = b0
  case neg => simp [h0]
  by_cases h1 : a1 = b1
  case neg => simp [h0, h1]
  simp [h0, h1]
theorem sz_ReS (p : List ((Int) × (List (Int)))) (hp : okL okw_Re p) (n : Int) (h0 : 0 ≤ n) (h1 : n ≤ 1048576) : ∃ r, z2.f p n = some r ∧ (r < 0 ∨ 0 ≤ r ∧ r + wL w_Re p ≤ n) :=
  sz_all p hp.1 n h0 h1 (fun u n => z1.f u.1 u.2 n) w_Re (fun u hu n a b => sz_Re u (hp.2 u hu) n a b) (fun u _ => w_Re_pos u) (z2.l1 p) (((p.length : Int) - 0).toNat + 2) (by omega) fun _ _ _ => rfl
theorem to_ReS (p : List ((Int) × (List (Int)))) (hp : wL w_Re p ≤ 1000000000) : zd.f p = some p :=
  copy_all p (wL_big w_Re_pos hp) (fun u K => (zc.f u.1 u.2).bind fun v => K (v.1, v.2)) (fun u hu K => by rw [to_Re u (wL_mem w_Re_pos hp hu)]; rfl) (zd.l1 p) _ (((p.length : Int) - 0).toNat + 2) 4398046511104 (by omega) (wL_cap w_Re_pos hp (by decide)) fun _ _ _ => rfl
theorem eq_ReS (p q : List ((Int) × (List (Int)))) (hp : wL w_Re p ≤ 1000000000) : z1r.f p q = some (decide (p = q)) :=
  eqS_all p q (wL_big w_Re_pos hp) (fun u v => z1q.f u.1 u.2 v.1 v.2) (fun u hu v => eq_Re u v (wL_mem w_Re_pos hp hu)) (z1r.l1 p q) (((p.length : Int) - 0).toNat + 2) (by omega) fun _ _ => rfl
def w_Clause (u : (Int) × (List ((Int) × (List (Int))))) : Int := (wL w_Re) u.2
def okw_Clause (u : (Int) × (List ((Int) × (List (Int))))) : Prop := (okL okw_Re) u.2
theorem w_Clause_pos (u : (Int) × (List ((Int) × (List (Int))))) : 0 ≤ w_Clause u := by
  unfold w_Clause
  have := (wL_pos w_Re_pos) u.2
  omega
theorem sz_Clause (u : (Int) × (List ((Int) × (List (Int))))) (hu : okw_Clause u) (n : Int) (h0 : 0 ≤ n) (h1 : n ≤ 1048576) : ∃ r, z3.f u.1 u.2 n = some r ∧ (r < 0 ∨ 0 ≤ r ∧ r + w_Clause u ≤ n) := by
  have p0 := (wL_pos w_Re_pos) u.2
  unfold z3.f w_Clause
  obtain ⟨r0, e0, g0⟩ := sz_ReS u.2 hu n (by omega) (by omega)
  rw [e0]
  simp only [Option.bind_some]
  by_cases n0 : r0 < 0
  · rw [if_pos (by simpa using n0)]; exact ⟨-1, rfl, .inl (by decide)⟩
  rw [if_neg (by simpa using n0)]
  replace g0 := g0.resolve_left n0
  exact ⟨_, rfl, .inr ⟨by omega, by omega⟩⟩
theorem to_Clause (u : (Int) × (List ((Int) × (List (Int))))) (hu : w_Clause u ≤ 1000000000) : ze.f u.1 u.2 = some u := by
  have p0 := (wL_pos w_Re_pos) u.2
  unfold ze.f
  unfold w_Clause at hu
  rw [to_ReS u.2 (by omega)]
  rfl
theorem eq_Clause (u v : (Int) × (List ((Int) × (List (Int))))) (hu : w_Clause u ≤ 1000000000) : z1s.f u.1 u.2 v.1 v.2 = some (decide (u = v)) := by
  have p0 := (wL_pos w_Re_pos) u.2
  unfold z1s.f
  unfold w_Clause at hu
  rw [eq_ReS u.2 v.2 (by omega)]
  clear hu p0
  obtain ⟨a0, a1⟩ := u
  obtain ⟨b0, b1⟩ := v
  by_cases h0 : a0 = b0
  case neg => simp [h0]
  by_cases h1 : a1 = b1
  case neg => simp [h0, h1]
  simp [h0, h1]
theorem sz_ClauseS (p : List ((Int) × (List ((Int) × (List (Int)))))) (hp : okL okw_Clause p) (n : Int) (h0 : 0 ≤ n) (h1 : n ≤ 1048576) : ∃ r, z4.f p n = some r ∧ (r < 0 ∨ 0 ≤ r ∧ r + wL w_Clause p ≤ n) :=
  sz_all p hp.1 n h0 h1 (fun u n => z3.f u.1 u.2 n) w_Clause (fun u hu n a b => sz_Clause u (hp.2 u hu) n a b) (fun u _ => w_Clause_pos u) (z4.l1 p) (((p.length : Int) - 0).toNat + 2) (by omega) fun _ _ _ => rfl
theorem to_ClauseS (p : List ((Int) × (List ((Int) × (List (Int)))))) (hp : wL w_Clause p ≤ 1000000000) : zf.f p = some p :=
  copy_all p (wL_big w_Clause_pos hp) (fun u K => (ze.f u.1 u.2).bind fun v => K (v.1, v.2)) (fun u hu K => by rw [to_Clause u (wL_mem w_Clause_pos hp hu)]; rfl) (zf.l1 p) _ (((p.length : Int) - 0).toNat + 2) 4398046511104 (by omega) (wL_cap w_Clause_pos hp (by decide)) fun _ _ _ => rfl
theorem eq_ClauseS (p q : List ((Int) × (List ((Int) × (List (Int)))))) (hp : wL w_Clause p ≤ 1000000000) : z1t.f p q = some (decide (p = q)) :=
  eqS_all p q (wL_big w_Clause_pos hp) (fun u v => z1s.f u.1 u.2 v.1 v.2) (fun u hu v => eq_Clause u v (wL_mem w_Clause_pos hp hu)) (z1t.l1 p q) (((p.length : Int) - 0).toNat + 2) (by omega) fun _ _ => rfl
def w_Ins (u : (Int) × (Int) × (Int) × (Int) × (List (Int)) × (List ((Int) × (List ((Int) × (List (Int)))))) × (List (Int))) : Int := (wL wZ) u.2.2.2.2.1 + (wL w_Clause) u.2.2.2.2.2.1 + (wL wZ) u.2.2.2.2.2.2
def okw_Ins (u : (Int) × (Int) × (Int) × (Int) × (List (Int)) × (List ((Int) × (List ((Int) × (List (Int)))))) × (List (Int))) : Prop := (okL okZ) u.2.2.2.2.1 ∧ (okL okw_Clause) u.2.2.2.2.2.1 ∧ (okL okZ) u.2.2.2.2.2.2
theorem w_Ins_pos (u : (Int) × (Int) × (Int) × (Int) × (List (Int)) × (List ((Int) × (List ((Int) × (List (Int)))))) × (List (Int))) : 0 ≤ w_Ins u := by
  unfold w_Ins
  have := (wL_pos wZ_pos) u.2.2.2.2.1
  have := (wL_pos w_Clause_pos) u.2.2.2.2.2.1
  have := (wL_pos wZ_pos) u.2.2.2.2.2.2
  omega
theorem sz_Ins (u : (Int) × (Int) × (Int) × (Int) × (List (Int)) × (List ((Int) × (List ((Int) × (List (Int)))))) × (List (Int))) (hu : okw_Ins u) (n : Int) (h0 : 0 ≤ n) (h1 : n ≤ 1048576) : ∃ r, z5.f u.1 u.2.1 u.2.2.1 u.2.2.2.1 u.2.2.2.2.1 u.2.2.2.2.2.1 u.2.2.2.2.2.2 n = some r ∧ (r < 0 ∨ 0 ≤ r ∧ r + w_Ins u ≤ n) := by
  have p0 := (wL_pos wZ_pos) u.2.2.2.2.1
  have p1 := (wL_pos w_Clause_pos) u.2.2.2.2.2.1
  have p2 := (wL_pos wZ_pos) u.2.2.2.2.2.2
  unfold z5.f w_Ins
  obtain ⟨r0, e0, g0⟩ := sz_IntS u.2.2.2.2.1 hu.1 n (by omega) (by omega)
  rw [e0]
  simp only [Option.bind_some]
  by_cases n0 : r0 < 0
  · rw [if_pos (by simpa using n0)]; exact ⟨-1, rfl, .inl (by decide)⟩
  rw [if_neg (by simpa using n0)]
  replace g0 := g0.resolve_left n0
  obtain ⟨r1, e1, g1⟩ := sz_ClauseS u.2.2.2.2.2.1 hu.2.1 r0 (by omega) (by omega)
  rw [e1]
  simp only [Option.bind_some]
  by_cases n1 : r1 < 0
  · rw [if_pos (by simpa using n1)]; exact ⟨-1, rfl, .inl (by decide)⟩
  rw [if_neg (by simpa using n1)]
  replace g1 := g1.resolve_left n1
  obtain ⟨r2, e2, g2⟩ := sz_IntS u.2.2.2.2.2.2 hu.2.2 r1 (by omega) (by omega)
  rw [e2]
  simp only [Option.bind_some]
  by_cases n2 : r2 < 0
  · rw [if_pos (by simpa using n2)]; exact ⟨-1, rfl, .inl (by decide)⟩
  rw [if_neg (by simpa using n2)]
  replace g2 := g2.resolve_left n2
  exact ⟨_, rfl, .inr ⟨by omega, by omega⟩⟩
theorem to_Ins (u : (Int) × (Int) × (Int) × (Int) × (List (Int)) × (List ((Int) × (List ((Int) × (List (Int)))))) × (List (Int))) (hu : w_Ins u ≤ 1000000000) : zg.f u.1 u.2.1 u.2.2.1 u.2.2.2.1 u.2.2.2.2.1 u.2.2.2.2.2.1 u.2.2.2.2.2.2 = some u := by
  have p0 := (wL_pos wZ_pos) u.2.2.2.2.1
  have p1 := (wL_pos w_Clause_pos) u.2.2.2.2.2.1
  have p2 := (wL_pos wZ_pos) u.2.2.2.2.2.2
  unfold zg.f
  unfold w_Ins at hu
  rw [to_IntS u.2.2.2.2.1 (by omega)]
  rw [to_ClauseS u.2.2.2.2.2.1 (by omega)]
  rw [to_IntS u.2.2.2.2.2.2 (by omega)]
  rfl
theorem eq_Ins (u v : (Int) × (Int) × (Int) × (Int) × (List (Int)) × (List ((Int) × (List ((Int) × (List (Int)))))) × (List (Int))) (hu : w_Ins u ≤ 1000000000) : z1u.f u.1 u.2.1 u.2.2.1 u.2.2.2.1 u.2.2.2.2.1 u.2.2.2.2.2.1 u.2.2.2.2.2.2 v.1 v.2.1 v.2.2.1 v.2.2.2.1 v.2.2.2.2.1 v.2.2.2.2.2.1 v.2.2.2.2.2.2 = some (decide (u = v)) := by
  have p0 := (wL_pos wZ_pos) u.2.2.2.2.1
  have p1 := (wL_pos w_Clause_pos) u.2.2.2.2.2.1
  have p2 := (wL_pos wZ_pos) u.2.2.2.2.2.2
  unfold z1u.f
  unfold w_Ins at hu
  rw [eq_IntS u.2.2.2.2.1 v.2.2.2.2.1 (by omega)]
  rw [eq_ClauseS u.2.2.2.2.2.1 v.2.2.2.2.2.1 (by omega)]
  rw [eq_IntS u.2.2.2.2.2.2 v.2.2.2.2.2.2 (by omega)]
  clear hu p0 p1 p2
  obtain ⟨a0, a1, a2, a3, a4, a5, a6⟩ := u
  obtain ⟨b0, b1, b2, b3, b4, b5, b6⟩ := v
  by_cases h0 : a0 = b0
  case neg => simp [h0]
  by_cases h1 : a1 = b1
  case neg => simp [h0, h1]
  by_cases h2 : a2 = b2
  case neg => simp [h0, h1, h2]
  by_cases h3 : a3 = b3
  case neg => simp [h0, h1, h2, h3]
  by_cases h4 : a4 = b4
  case neg => simp [h0, h1, h2, h3, h4]
  by_cases h5 : a5 = b5
  case neg => simp [h0, h1, h2, h3, h4, h5]
  by_cases h6 : a6 = b6
  case neg => simp [h0, h1, h2, h3, h4, h5, h6]
  simp [h0, h1, h2, h3, h4, h5, h6]
theorem sz_InsS (p : List ((Int) × (Int) × (Int) × (Int) × (List (Int)) × (List ((Int) × (List ((Int) × (List (Int)))))) × (List (Int)))) (hp : okL okw_Ins p) (n : Int) (h0 : 0 ≤ n) (h1 : n ≤ 1048576) : ∃ r, z6.f p n = some r ∧ (r < 0 ∨ 0 ≤ r ∧ r + wL w_Ins p ≤ n) :=
  sz_all p hp.1 n h0 h1 (fun u n => z5.f u.1 u.2.1 u.2.2.1 u.2.2.2.1 u.2.2.2.2.1 u.2.2.2.2.2.1 u.2.2.2.2.2.2 n) w_Ins (fun u hu n a b => sz_Ins u (hp.2 u hu) n a b) (fun u _ => w_Ins_pos u) (z6.l1 p) (((p.length : Int) - 0).toNat + 2) (by omega) fun _ _ _ => rfl
theorem to_InsS (p : List ((Int) × (Int) × (Int) × (Int) × (List (Int)) × (List ((Int) × (List ((Int) × (List (Int)))))) × (List (Int)))) (hp : wL w_Ins p ≤ 1000000000) : zh.f p = some p :=
  copy_all p (wL_big w_Ins_pos hp) (fun u K => (zg.f u.1 u.2.1 u.2.2.1 u.2.2.2.1 u.2.2.2.2.1 u.2.2.2.2.2.1 u.2.2.2.2.2.2).bind fun v => K (v.1, v.2.1, v.2.2.1, v.2.2.2.1, v.2.2.2.2.1, v.2.2.2.2.2.1, v.2.2.2.2.2.2)) (fun u hu K => by rw [to_Ins u (wL_mem w_Ins_pos hp hu)]; rfl) (zh.l1 p) _ (((p.length : Int) - 0).toNat + 2) 1353245080339 (by omega) (wL_cap w_Ins_pos hp (by decide)) fun _ _ _ => rfl
theorem eq_InsS (p q : List ((Int) × (Int) × (Int) × (Int) × (List (Int)) × (List ((Int) × (List ((Int) × (List (Int)))))) × (List (Int)))) (hp : wL w_Ins p ≤ 1000000000) : z1v.f p q = some (decide (p = q)) :=
  eqS_all p q (wL_big w_Ins_pos hp) (fun u v => z1u.f u.1 u.2.1 u.2.2.1 u.2.2.2.1 u.2.2.2.2.1 u.2.2.2.2.2.1 u.2.2.2.2.2.2 v.1 v.2.1 v.2.2.1 v.2.2.2.1 v.2.2.2.2.1 v.2.2.2.2.2.1 v.2.2.2.2.2.2) (fun u hu v => eq_Ins u v (wL_mem w_Ins_pos hp hu)) (z1v.l1 p q) (((p.length : Int) - 0).toNat + 2) (by omega) fun _ _ => rfl
def w_Guest (u : (ByteArray) × (List ((Int) × (Int) × (Int) × (Int) × (List (Int)) × (List ((Int) × (List ((Int) × (List (Int)))))) × (List (Int)))) × (List ((Int) × (ByteArray) × (Bool))) × (Int) × (Int) × (Int) × (Bool)) : Int := wStr u.1 + (wL w_Ins) u.2.1 + (wL w_Chunk) u.2.2.1
def okw_Guest (u : (ByteArray) × (List ((Int) × (Int) × (Int) × (Int) × (List (Int)) × (List ((Int) × (List ((Int) × (List (Int)))))) × (List (Int)))) × (List ((Int) × (ByteArray) × (Bool))) × (Int) × (Int) × (Int) × (Bool)) : Prop := okStr u.1 ∧ (okL okw_Ins) u.2.1 ∧ (okL okw_Chunk) u.2.2.1
theorem w_Guest_pos (u : (ByteArray) × (List ((Int) × (Int) × (Int) × (Int) × (List (Int)) × (List ((Int) × (List ((Int) × (List (Int)))))) × (List (Int)))) × (List ((Int) × (ByteArray) × (Bool))) × (Int) × (Int) × (Int) × (Bool)) : 0 ≤ w_Guest u := by
  unfold w_Guest
  have := wStr_pos u.1
  have := (wL_pos w_Ins_pos) u.2.1
  have := (wL_pos w_Chunk_pos) u.2.2.1
  omega
theorem sz_Guest (u : (ByteArray) × (List ((Int) × (Int) × (Int) × (Int) × (List (Int)) × (List ((Int) × (List ((Int) × (List (Int)))))) × (List (Int)))) × (List ((Int) × (ByteArray) × (Bool))) × (Int) × (Int) × (Int) × (Bool)) (hu : okw_Guest u) (n : Int) (h0 : 0 ≤ n) (h1 : n ≤ 1048576) : ∃ r, z9.f u.1 u.2.1 u.2.2.1 u.2.2.2.1 u.2.2.2.2.1 u.2.2.2.2.2.1 u.2.2.2.2.2.2 n = some r ∧ (r < 0 ∨ 0 ≤ r ∧ r + w_Guest u ≤ n) := by
  have p0 := wStr_pos u.1
  have p1 := (wL_pos w_Ins_pos) u.2.1
  have p2 := (wL_pos w_Chunk_pos) u.2.2.1
  unfold z9.f w_Guest
  have hz0 : okStr u.1 := hu.1
  unfold okStr maxN at hz0
  rw [wrapS (n := n - (u.1.size : Int)) (by omega) (by omega)]
  by_cases n0 : n - (u.1.size : Int) < 0
  · rw [if_pos (by simpa using n0)]; exact ⟨-1, rfl, .inl (by decide)⟩
  rw [if_neg (by simpa using n0)]
  have g0 : wStr u.1 = u.1.size := rfl
  obtain ⟨r1, e1, g1⟩ := sz_InsS u.2.1 hu.2.1 (n - (u.1.size : Int)) (by omega) (by omega)
  rw [e1]
  simp only [Option.bind_some]
  by_cases n1 : r1 < 0
  · rw [if_pos (by simpa using n1)]; exact ⟨-1, rfl, .inl (by decide)⟩
  rw [if_neg (by simpa using n1)]
  replace g1 := g1.resolve_left n1
  obtain ⟨r2, e2, g2⟩ := sz_ChunkS u.2.2.1 hu.2.2 r1 (by omega) (by omega)
  rw [e2]
  simp only [Option.bind_some]
  by_cases n2 : r2 < 0
  · rw [if_pos (by simpa using n2)]; exact ⟨-1, rfl, .inl (by decide)⟩
  rw [if_neg (by simpa using n2)]
  replace g2 := g2.resolve_left n2
  exact ⟨_, rfl, .inr ⟨by omega, by omega⟩⟩
theorem to_Guest (u : (ByteArray) × (List ((Int) × (Int) × (Int) × (Int) × (List (Int)) × (List ((Int) × (List ((Int) × (List (Int)))))) × (List (Int)))) × (List ((Int) × (ByteArray) × (Bool))) × (Int) × (Int) × (Int) × (Bool)) (hu : w_Guest u ≤ 1000000000) : zk.f u.1 u.2.1 u.2.2.1 u.2.2.2.1 u.2.2.2.2.1 u.2.2.2.2.2.1 u.2.2.2.2.2.2 = some u := by
  have p0 := wStr_pos u.1
  have p1 := (wL_pos w_Ins_pos) u.2.1
  have p2 := (wL_pos w_Chunk_pos) u.2.2.1
  unfold zk.f
  unfold w_Guest at hu
  rw [to_InsS u.2.1 (by omega)]
  rw [to_ChunkS u.2.2.1 (by omega)]
  rfl
theorem eq_Guest (u v : (ByteArray) × (List ((Int) × (Int) × (Int) × (Int) × (List (Int)) × (List ((Int) × (List ((Int) × (List (Int)))))) × (List (Int)))) × (List ((Int) × (ByteArray) × (Bool))) × (Int) × (Int) × (Int) × (Bool)) (hu : w_Guest u ≤ 1000000000) : z1y.f u.1 u.2.1 u.2.2.1 u.2.2.2.1 u.2.2.2.2.1 u.2.2.2.2.2.1 u.2.2.2.2.2.2 v.1 v.2.1 v.2.2.1 v.2.2.2.1 v.2.2.2.2.1 v.2.2.2.2.2.1 v.2.2.2.2.2.2 = some (decide (u = v)) := by
  have p0 := wStr_pos u.1
  have p1 := (wL_pos w_Ins_pos) u.2.1
  have p2 := (wL_pos w_Chunk_pos) u.2.2.1
  unfold z1y.f
  unfold w_Guest at hu
  rw [eq_InsS u.2.1 v.2.1 (by omega)]
  rw [eq_ChunkS u.2.2.1 v.2.2.1 (by omega)]
  simp only [baInj]
  clear hu p0 p1 p2
  obtain ⟨a0, a1, a2, a3, a4, a5, a6⟩ := u
  obtain ⟨b0, b1, b2, b3, b4, b5, b6⟩ := v
  by_cases h0 : a0 = b0
  case neg => simp [h0]
  by_cases h1 : a1 = b1
  case neg => simp [h0, h1]
  by_cases h2 : a2 = b2
  case neg => simp [h0, h1, h2]
  by_cases h3 : a3 = b3
  case neg => simp [h0, h1, h2, h3]
  by_cases h4 : a4 = b4
  case neg => simp [h0, h1, h2, h3, h4]
  by_cases h5 : a5 = b5
  case neg => simp [h0, h1, h2, h3, h4, h5]
  by_cases h6 : a6 = b6
  case neg => simp [h0, h1, h2, h3, h4, h5, h6]
  simp [h0, h1, h2, h3, h4, h5, h6]
theorem sz_GuestS (p : List ((ByteArray) × (List ((Int) × (Int) × (Int) × (Int) × (List (Int)) × (List ((Int) × (List ((Int) × (List (Int)))))) × (List (Int)))) × (List ((Int) × (ByteArray) × (Bool))) × (Int) × (Int) × (Int) × (Bool))) (hp : okL okw_Guest p) (n : Int) (h0 : 0 ≤ n) (h1 : n ≤ 1048576) : ∃ r, za.f p n = some r ∧ (r < 0 ∨ 0 ≤ r ∧ r + wL w_Guest p ≤ n) :=
  sz_all p hp.1 n h0 h1 (fun u n => z9.f u.1 u.2.1 u.2.2.1 u.2.2.2.1 u.2.2.2.2.1 u.2.2.2.2.2.1 u.2.2.2.2.2.2 n) w_Guest (fun u hu n a b => sz_Guest u (hp.2 u hu) n a b) (fun u _ => w_Guest_pos u) (za.l1 p) (((p.length : Int) - 0).toNat + 2) (by omega) fun _ _ _ => rfl
theorem to_GuestS (p : List ((ByteArray) × (List ((Int) × (Int) × (Int) × (Int) × (List (Int)) × (List ((Int) × (List ((Int) × (List (Int)))))) × (List (Int)))) × (List ((Int) × (ByteArray) × (Bool))) × (Int) × (Int) × (Int) × (Bool))) (hp : wL w_Guest p ≤ 1000000000) : zl.f p = some p :=
  copy_all p (wL_big w_Guest_pos hp) (fun u K => (zk.f u.1 u.2.1 u.2.2.1 u.2.2.2.1 u.2.2.2.2.1 u.2.2.2.2.2.1 u.2.2.2.2.2.2).bind fun v => K (v.1, v.2.1, v.2.2.1, v.2.2.2.1, v.2.2.2.2.1, v.2.2.2.2.2.1, v.2.2.2.2.2.2)) (fun u hu K => by rw [to_Guest u (wL_mem w_Guest_pos hp hu)]; rfl) (zl.l1 p) _ (((p.length : Int) - 0).toNat + 2) 1466015503701 (by omega) (wL_cap w_Guest_pos hp (by decide)) fun _ _ _ => rfl
theorem eq_GuestS (p q : List ((ByteArray) × (List ((Int) × (Int) × (Int) × (Int) × (List (Int)) × (List ((Int) × (List ((Int) × (List (Int)))))) × (List (Int)))) × (List ((Int) × (ByteArray) × (Bool))) × (Int) × (Int) × (Int) × (Bool))) (hp : wL w_Guest p ≤ 1000000000) : z1z.f p q = some (decide (p = q)) :=
  eqS_all p q (wL_big w_Guest_pos hp) (fun u v => z1y.f u.1 u.2.1 u.2.2.1 u.2.2.2.1 u.2.2.2.2.1 u.2.2.2.2.2.1 u.2.2.2.2.2.2 v.1 v.2.1 v.2.2.1 v.2.2.2.1 v.2.2.2.2.1 v.2.2.2.2.2.1 v.2.2.2.2.2.2) (fun u hu v => eq_Guest u v (wL_mem w_Guest_pos hp hu)) (z1z.l1 p q) (((p.length : Int) - 0).toNat + 2) (by omega) fun _ _ => rfl
abbrev Gu := ByteArray × List In × List Ch × Int × Int × Int × Bool
def bgG (g : Gu) : Prop := g.1.size ≤ 1000000000 ∧ g.2.1.length ≤ 1000000000 ∧ (∀ x ∈ g.2.1, bgI x) ∧ g.2.2.1.length ≤ 1000000000
def okPg (p : List In) : Bool := p.all (okIn (p.length : Int)) && decide ((p.length : Int) ≤ 30)
def okPr (p : List Ch) : Bool := pk 0 p && decide ((p.length : Int) ≤ 20)
def okTk (g : Gu) : Bool := (rg g.2.2.2.1 1 5 && rg g.2.2.2.2.1 1 60) && rg g.2.2.2.2.2.1 0 200
theorem p_canTalk (a b c : Int) : z1k.f a b c = some ((rg a 1 5 && rg b 1 60) && rg c 0 200) := by
  unfold z1k.f z1j.f
  simp only [p_rgI, Option.bind_some]
  cases rg a 1 5 <;> cases rg b 1 60 <;> simp
theorem p_NewS (en m : Int) : ∃ R : Int × Int × Int × ByteArray × Int × List Int × List Int × Int × Bool × Bool, z0c.f en m = some R ∧ R.2.2.2.2.2.2.2.2.2 = (rg en 1 5 && rg m 1 60) := by
  unfold z0c.f
  rw [p_specSess en 0 0 _ m [] [] 0 false (by decide) (by decide)]
  simp only [Option.bind_some]
  have e : okSess en 0 0 (yo ⟨#[]⟩) m [] [] 0 false = (rg en 1 5 && rg m 1 60) := by
    rw [bytes_nil]
    unfold okSess okDec okBuf rg
    rw [Bool.eq_iff_iff]
    simp
    omega
  rw [e]
  cases rg en 1 5 && rg m 1 60 with
  | false => exact ⟨_, rfl, rfl⟩
  | true => exact ⟨_, rfl, rfl⟩
theorem p_specGuest (g : Gu) (hg : bgG g) : z0f.f g.1 g.2.1 g.2.2.1 g.2.2.2.1 g.2.2.2.2.1 g.2.2.2.2.2.1 g.2.2.2.2.2.2 = some (okTk g && okName g.1) := by
  unfold z0f.f okTk
  obtain ⟨R, e, h⟩ := p_NewS g.2.2.2.1 g.2.2.2.2.1
  rw [e, p_specName g.1 hg.1]
  simp only [Option.bind_some, h, p_rgS]
  cases rg g.2.2.2.1 1 5 && rg g.2.2.2.2.1 1 60 <;> cases okName g.1 <;> cases rg g.2.2.2.2.2.1 0 200 <;> rfl
def sameNm (g u : Gu) : Bool := u.1.toList == g.1.toList
theorem p_dupI (g : Gu) (q : List Gu) (hq : q.length ≤ 1000000000) : z1n.f q g.1 g.2.1 g.2.2.1 g.2.2.2.1 g.2.2.2.2.1 g.2.2.2.2.2.1 g.2.2.2.2.2.2 = some (q.any (sameNm g)) := by
  unfold z1n.f z1m.f
  exact find_loop q (by unfold big; omega) (sameNm g) (z1m.l1 q g.1 g.2.1 g.2.2.1 g.2.2.2.1 g.2.2.2.2.1 g.2.2.2.2.2.1 g.2.2.2.2.2.2) (fun k i h => by
    rw [z1m.l1, if_pos (by rw [decide_eq_true_eq]; omega), rd?_at h]
    rfl) (fun k i h => by
    rw [z1m.l1, if_neg (by rw [decide_eq_true_eq]; omega)]) (((q.length : Int) - 0).toNat + 2) (by omega)
theorem p_dupS (g : Gu) (q : List Gu) (hq : q.length ≤ 1000000000) : z0g.l2 g q ((((q.length : Int) : Int) - (0)).toNat + 2) 0 = some (if q.any (sameNm g) = true then .ret (.ret (.ret false)) else .go ()) := by
  have := allI_loop q (by unfold big; omega) (fun _ u => sameNm g u) (Lo.ret (Lo.ret false) : Lo Unit (Lo Unit Bool)) (z0g.l2 g q) (fun k i h => by
    rw [z0g.l2, if_pos (by rw [decide_eq_true_eq]; omega), rd?_at h]
    rfl) (fun k i h => by
    rw [z0g.l2, if_neg (by rw [decide_eq_true_eq]; omega)]) ((((q.length : Int) : Int) - (0)).toNat + 2) (by omega)
  rw [this, anyI_any]
theorem cutI {α : Type} (p : List α) (i : Nat) (h : i < p.length) : cut? p 0 (i : Int) = some (p.take i) := by
  have := cut?_at (xs := p) (a := 0) (b := i) (by omega) (by omega)
  rw [show ((0 : Nat) : Int) = 0 from rfl] at this
  rw [this, List.drop_zero]
theorem p_implHouse (p : List Gu) (hp : p.length ≤ 1000000000) (hb : ∀ g ∈ p, bgG g) : z1o.f p = some (!anyI (fun i g => !(okName g.1 && okPg g.2.1 && okPr g.2.2.1 && okTk g) || (p.take i).any (sameNm g)) 0 p && decide ((p.length : Int) ≤ 4)) := by
  unfold z1o.f
  rw [allI_loop p (by unfold big; omega) (fun i g => !(okName g.1 && okPg g.2.1 && okPr g.2.2.1 && okTk g) || (p.take i).any (sameNm g)) false (z1o.l1 p) (fun k i h => ?_) (fun k i h => ?_) _ (by omega)]
  · cases anyI (fun i g => !(okName g.1 && okPg g.2.1 && okPr g.2.2.1 && okTk g) || (p.take i).any (sameNm g)) 0 p <;> simp
  · have hg := hb p[i] (List.getElem_mem h)
    rw [z1o.l1, if_pos (by rw [decide_eq_true_eq]; omega), rd?_at h, cutI p i h]
    simp only [Option.bind_some]
    rw [p_implName _ hg.1, p_implProg _ hg.2.1 hg.2.2.1, p_implPeer _ hg.2.2.2, p_canTalk, p_dupI p[i] (p.take i) (by simp; omega)]
    unfold okPg okPr okTk
    simp only [Option.bind_some]
    generalize (p[i].2.1.all (okIn (p[i].2.1.length : Int)) && decide ((p[i].2.1.length : Int) ≤ 30)) = B1
    generalize (pk 0 p[i].2.2.1 && decide ((p[i].2.2.1.length : Int) ≤ 20)) = B2
    generalize ((rg p[i].2.2.2.1 1 5 && rg p[i].2.2.2.2.1 1 60) && rg p[i].2.2.2.2.2.1 0 200) = B3
    generalize okName p[i].1 = B0
    generalize (p.take i).any (sameNm p[i]) = B4
    cases B0 <;> cases B1 <;> cases B2 <;> cases B3 <;> cases B4 <;> simp
  · rw [z1o.l1, if_neg (by rw [decide_eq_true_eq]; omega)]
theorem p_specHouse (p : List Gu) (hp : p.length ≤ 1000000000) (hb : ∀ g ∈ p, bgG g) : z0h.f p = some (!anyI (fun i g => !(okName g.1 && okPg g.2.1 && okPr g.2.2.1 && okTk g) || (p.take i).any (sameNm g)) 0 p && decide ((p.length : Int) ≤ 4)) := by
  have e : anyI (fun i g => !(okName g.1 && okPg g.2.1 && okPr g.2.2.1 && okTk g) || (p.take i).any (sameNm g)) 0 p = (anyI (fun _ g => !(okPg g.2.1 && okPr g.2.2.1)) 0 p || anyI (fun i g => !(okTk g && okName g.1) || (p.take i).any (sameNm g)) 0 p) := by
    rw [← anyI_or]
    refine anyI_congr 0 p fun i u _ => ?_
    cases okName u.1 <;> cases okPg u.2.1 <;> cases okPr u.2.2.1 <;> cases okTk u <;> cases (p.take i).any (sameNm u) <;> rfl
  rw [e]
  unfold z0h.f
  rw [allI_loop p (by unfold big; omega) (fun _ g => !(okPg g.2.1 && okPr g.2.2.1)) false (z0h.l1 p) (fun k i h => ?_) (fun k i h => ?_) _ (by omega)]
  · cases anyI (fun _ g => !(okPg g.2.1 && okPr g.2.2.1)) 0 p with
    | true => simp
    | false =>
      simp only [Bool.false_eq_true, if_false, Option.bind_some, Bool.false_or]
      unfold z0g.f
      rw [allI_loop p (by unfold big; omega) (fun i g => !(okTk g && okName g.1) || (p.take i).any (sameNm g)) false (z0g.l1 p) (fun k i h => ?_) (fun k i h => ?_) _ (by omega)]
      · cases anyI (fun i g => !(okTk g && okName g.1) || (p.take i).any (sameNm g)) 0 p <;> simp
      · have hg := hb p[i] (List.getElem_mem h)
        rw [z0g.l1, if_pos (by rw [decide_eq_true_eq]; omega), rd?_at h, cutI p i h]
        simp only [Option.bind_some]
        rw [p_specGuest _ hg, p_dupS p[i] (p.take i) (by simp; omega)]
        simp only [Option.bind_some]
        generalize (okTk p[i] && okName p[i].1) = B0
        generalize (p.take i).any (sameNm p[i]) = B4
        cases B0 <;> cases B4 <;> simp
      · rw [z0g.l1, if_neg (by rw [decide_eq_true_eq]; omega)]
  · have hg := hb p[i] (List.getElem_mem h)
    rw [z0h.l1, if_pos (by rw [decide_eq_true_eq]; omega), rd?_at h]
    simp only [Option.bind_some]
    rw [p_specProg _ hg.2.1 hg.2.2.1, p_specPeer _ hg.2.2.2]
    unfold okPg okPr
    simp only [Option.bind_some]
    generalize (p[i].2.1.all (okIn (p[i].2.1.length : Int)) && decide ((p[i].2.1.length : Int) ≤ 30)) = B1
    generalize (pk 0 p[i].2.2.1 && decide ((p[i].2.2.1.length : Int) ≤ 20)) = B2
    cases B1 <;> cases B2 <;> simp
  · rw [z0h.l1, if_neg (by rw [decide_eq_true_eq]; omega)]
theorem w_bg (p : List Gu) (hp : wL w_Guest p ≤ 1000000000) : p.length ≤ 1000000000 ∧ ∀ g ∈ p, bgG g := by
  have mem : ∀ {α : Type} {w : α → Int} (h : ∀ u, 0 ≤ w u) {q : List α} {u : α}, u ∈ q → wL w q ≤ 1000000000 → w u ≤ 1000000000 := fun h _ _ hu hq => wL_mem h hq hu
  have len : ∀ {α : Type} {w : α → Int} (h : ∀ u, 0 ≤ w u) {q : List α}, wL w q ≤ 1000000000 → q.length ≤ 1000000000 := fun h q hq => by have := wL_len h q; omega
  refine ⟨len w_Guest_pos hp, fun g hg => ?_⟩
  have h := mem w_Guest_pos hg hp
  unfold w_Guest at h
  have q1 := wL_pos w_Ins_pos g.2.1
  have q2 := wL_pos w_Chunk_pos g.2.2.1
  have q0 := wStr_pos g.1
  have h1 : wL w_Ins g.2.1 ≤ 1000000000 := by omega
  have h2 : wL w_Chunk g.2.2.1 ≤ 1000000000 := by omega
  have h0 : wStr g.1 ≤ 1000000000 := by omega
  unfold wStr at h0
  refine ⟨by omega, len w_Ins_pos h1, fun x hx => ?_, len w_Chunk_pos h2⟩
  have h := mem w_Ins_pos hx h1
  unfold w_Ins at h
  have q1 := wL_pos wZ_pos x.2.2.2.2.1
  have q2 := wL_pos w_Clause_pos x.2.2.2.2.2.1
  have q3 := wL_pos wZ_pos x.2.2.2.2.2.2
  have h3 : wL w_Clause x.2.2.2.2.2.1 ≤ 1000000000 := by omega
  refine ⟨len wZ_pos (by omega : wL wZ x.2.2.2.2.1 ≤ 1000000000), len w_Clause_pos h3, len wZ_pos (by omega : wL wZ x.2.2.2.2.2.2 ≤ 1000000000), fun c hc => ?_⟩
  have h := mem w_Clause_pos hc h3
  unfold w_Clause at h
  have q1 := wL_pos w_Re_pos c.2
  have h4 : wL w_Re c.2 ≤ 1000000000 := by omega
  refine ⟨len w_Re_pos h4, fun u hu => ?_⟩
  have h := mem w_Re_pos hu h4
  unfold w_Re at h
  exact len wZ_pos h
theorem law_GoodHouse (a0 : List Gu) (h : allW (fun u => (fun b => b.size ≤ maxN) u.1 ∧ (allW (fun u => (inK .i64) u.1 ∧ (inK .i64) u.2.1 ∧ (inK .i64) u.2.2.1 ∧ (inK .i64) u.2.2.2.1 ∧ (allW (inK .i64)) u.2.2.2.2.1 ∧ (allW (fun u => (inK .i64) u.1 ∧ (allW (fun u => (inK .i64) u.1 ∧ (allW (inK .i64)) u.2)) u.2)) u.2.2.2.2.2.1 ∧ (allW (inK .i64)) u.2.2.2.2.2.2)) u.2.1 ∧ (allW (fun u => (inK .i64) u.1 ∧ (fun b => b.size ≤ maxN) u.2.1 ∧ (fun _ => True) u.2.2)) u.2.2.1 ∧ (inK .i64) u.2.2.2.1 ∧ (inK .i64) u.2.2.2.2.1 ∧ (inK .i64) u.2.2.2.2.2.1 ∧ (fun _ => True) u.2.2.2.2.2.2) a0) : z20.f a0 = some true := by
  have okI : ∀ l : List Int, allW (inK .i64) l → okL okZ l := fun l h => ⟨h.1, fun _ _ => trivial⟩
  have hok : okL okw_Guest a0 := by
    refine ⟨h.1, fun g hg => ?_⟩
    obtain ⟨g1, g2, g3, _⟩ := h.2 g hg
    unfold okw_Guest okStr
    refine ⟨g1, ⟨g2.1, fun x hx => ?_⟩, ⟨g3.1, fun c hc => ?_⟩⟩
    · obtain ⟨_, _, _, _, x5, x6, x7⟩ := g2.2 x hx
      unfold okw_Ins
      refine ⟨okI _ x5, ⟨x6.1, fun c hc => ?_⟩, okI _ x7⟩
      obtain ⟨_, c2⟩ := x6.2 c hc
      unfold okw_Clause
      refine ⟨c2.1, fun u hu => ?_⟩
      unfold okw_Re
      exact okI _ (c2.2 u hu).2
    · unfold okw_Chunk okStr
      exact (g3.2 c hc).2.1
  unfold z20.f
  obtain ⟨u, e, hu⟩ := sz_GuestS a0 hok 1048576 (by decide) (by decide)
  rw [e]
  simp only [Option.bind_some]
  by_cases h0 : u < 0
  · rw [if_pos (by simpa using h0)]
  rw [if_neg (by simpa using h0)]
  have hw : wL w_Guest a0 ≤ 1000000000 := by omega
  obtain ⟨b1, b2⟩ := w_bg a0 hw
  rw [to_GuestS a0 hw]
  simp only [Option.bind_some]
  rw [p_specHouse a0 b1 b2, p_implHouse a0 b1 b2]
  simp only [Option.bind_some, bne_self_eq_false, Bool.false_eq_true, if_false]
  rw [eq_GuestS a0 a0 hw]
  simp
end Go.Proofs.YtaojkgkajppkaaaGreat
